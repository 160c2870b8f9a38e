/- REG, part B: RegistryNobody. -/
import Derived.Test.YtaopgmkjeimpiaaRgA
import Derived.Test.YtaopgmkjeimpiaaHmRow
set_option maxRecDepth 100000
namespace Go.HM.Rg
open Go.Proofs Go.HM.Kec

theorem nobody_run (k ino iki iam iex ch id am ex hc ha he ht hi h t : Int) (s : ByteArray) (b1 b2 b3 b4 b5 b6 b7 b8 : List Int) :
    runK (Cg K1) 30 6 [.agg [.int .i64 k, .agg [.int .i64 ino, .int .i64 iki, .ba 32 b1, .ba 32 b2, .int .i64 iam, .int .i64 iex, .str s], .ba 32 b3, .ba 32 b4, .agg [.agg [.int .i64 ch, .int .i64 id], .int .i64 am, .int .i64 ex, .ba 32 b5, .agg [.int .i64 hc, .int .i64 ha, .int .i64 he, .ba 32 b6, .int .i64 ht, .ba 32 b7, .int .i64 hi, .ba 32 b8]], .int .i64 h, .int .i64 t]] [] = some ([.bool true], []) := by kernel_rfl

def invSh : Sh := .struct [.int .i64, .int .i64, .bytes 32, .bytes 32, .int .i64, .int .i64, .str]
def hookSh : Sh := .struct [.int .i64, .int .i64]
def hopSh : Sh := .struct [.int .i64, .int .i64, .int .i64, .bytes 32, .int .i64, .bytes 32, .int .i64, .bytes 32]
def partSh : Sh := .struct [hookSh, .int .i64, .int .i64, .bytes 32, hopSh]
def opSh : Sh := .struct [.int .i64, invSh, .bytes 32, .bytes 32, partSh, .int .i64, .int .i64]

theorem nobody_args {xs : List T} (h : HasShs [opSh] xs) : PCall Try.prog 6 xs [.bool true] := by
  obtain ⟨_, _, rfl, ⟨_, rfl, _, _, rfl, ⟨k, rfl, _⟩, _, _, rfl, ⟨_, rfl, _, _, rfl, ⟨ino, rfl, _⟩, _, _, rfl, ⟨iki, rfl, _⟩, _, _, rfl, ⟨b1, rfl, _, _⟩, _, _, rfl, ⟨b2, rfl, _, _⟩, _, _, rfl, ⟨iam, rfl, _⟩, _, _, rfl, ⟨iex, rfl, _⟩, _, _, rfl, ⟨s, rfl, _⟩, rfl⟩, _, _, rfl, ⟨b3, rfl, _, _⟩, _, _, rfl, ⟨b4, rfl, _, _⟩, _, _, rfl,
    ⟨_, rfl, _, _, rfl, ⟨_, rfl, _, _, rfl, ⟨ch, rfl, _⟩, _, _, rfl, ⟨id, rfl, _⟩, rfl⟩, _, _, rfl, ⟨am, rfl, _⟩, _, _, rfl, ⟨ex, rfl, _⟩, _, _, rfl, ⟨b5, rfl, _, _⟩, _, _, rfl, ⟨_, rfl, _, _, rfl, ⟨hc, rfl, _⟩, _, _, rfl, ⟨ha, rfl, _⟩, _, _, rfl, ⟨he, rfl, _⟩, _, _, rfl, ⟨b6, rfl, _, _⟩, _, _, rfl, ⟨ht, rfl, _⟩, _, _, rfl, ⟨b7, rfl, _, _⟩, _, _, rfl, ⟨hi, rfl, _⟩, _, _, rfl, ⟨b8, rfl, _, _⟩, rfl⟩, rfl⟩, _, _, rfl, ⟨hh, rfl, _⟩, _, _, rfl, ⟨t, rfl, _⟩, rfl⟩, rfl⟩ := h
  exact runK_sound (Cg_ok K1_ok) (nobody_run k ino iki iam iex ch id am ex hc ha he ht hi hh t s b1 b2 b3 b4 b5 b6 b7 b8) trivial
end Go.HM.Rg
