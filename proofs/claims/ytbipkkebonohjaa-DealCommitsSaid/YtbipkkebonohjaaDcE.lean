/- DEAL, part E: lives. -/
import Derived.Test.YtbipkkebonohjaaDcD
set_option maxRecDepth 100000
namespace Go.HM.Deal
open Go.Proofs

def t0 : Terms := ⟨1, 0, 1, ⟨zeros, 0⟩, 1000, 500, 3, 1, 10, 4, 800⟩
def p5 : List Int := 5 :: zeros.tail
def v0 : View := ⟨900, 500, [⟨0, 0, 100, 1 :: zeros.tail, 9⟩]⟩

theorem terms_0 : evF Try.prog Try.f56 [] [] = some ([t0.t], []) := by kernel_rfl
theorem terms_ok : PCall Try.prog 56 [] [t0.t] := evF_sound Try.func56 (by rfl) terms_0 trivial

theorem lives_0 :
    evF Try.prog Try.f16 [] [.op 1 0 (.call [t0.t]), .op 3 3 (.call (commit t0 0 p5 v0)), .op 4 3 (.call (commit t0 2 p5 v0)), .op 5 1 (.call [i64 (place v0 0 0).1, .bool (place v0 0 0).2]),
      .op 6 12 (.res true), .op 6 20 (.res true), .op 6 35 (.res true), .op 6 37 (.call [.bool (may t0)]), .op 6 39 (.res true), .op 6 42 (.call [.bool (Deal.fits t0 v0)]), .op 6 44 (.res true), .op 6 46 (.call [i64 (other t0 1)])] =
    some ([.bool true], [PCall Try.prog 22 [t0.t, i64 1] [i64 (other t0 1)], true = true, PCall Try.prog 20 [t0.t, v0.t true] [.bool (Deal.fits t0 v0)], true = true, PCall Try.prog 18 [t0.t] [.bool (may t0)], true = true, true = true, true = true,
      PCall Try.prog 68 [v0.t true, i64 0, i64 0] [i64 (place v0 0 0).1, .bool (place v0 0 0).2], PCall Try.prog 14 [t0.t, i64 2, .ba 32 p5, v0.t true] (commit t0 2 p5 v0), PCall Try.prog 14 [t0.t, i64 0, .ba 32 p5, v0.t true] (commit t0 0 p5 v0), PCall Try.prog 56 [] [t0.t]]) := by kernel_rfl

theorem lives_ok : PCall Try.prog 16 [] [.bool true] :=
  evF_sound Try.func16 (by rfl) lives_0 ⟨other_ok t0 1, rfl, fits_ok t0 v0 true, rfl, may_ok' t0, rfl, rfl, rfl, place_ok v0 0 0 true (by decide), commit_ok t0 2 p5 v0 true, commit_ok t0 0 p5 v0 true, terms_ok, trivial⟩

/-- DealPlaces, its loop -/
def plS (t : Terms) (hd : Int) (p : List Int) (v : View) (f x : Bool) (outs : List Out) (i : Int) : St :=
  { n := 94, t := [(1, .p (i64 hd)), (4, .ptr 0 0), (7, .ptr 2 0), (8, .p (.bool false)), (9, .ptr 3 0), (11, .p (i64 i))], s := [.box (.p t.t), .box (.p (.ba 32 p)), .box (.p (v.t f)), .box (.p (txT t.Fund x outs))] }
def plK : Keep := ⟨[1, 4, 7, 8, 9, 11], 4, []⟩
/-- the reference's Outs: its loops -/
def outS (n : Int) (x : Bool) (l : List Out) (r s i : Int) (b : Bool) : St := { n := 76, t := [(0, .p (i64 n)), (1, .p (.lst x 2 (l.map Out.t))), (4, .p (i64 r)), (5, .p (.bool b)), (6, .p (i64 s)), (7, .p (i64 i))], s := [] }
def outK : Keep := ⟨[0, 1, 4, 5, 6, 7], 0, []⟩
def inS (n : Int) (x : Bool) (l : List Out) (s i k : Int) : St := { n := 76, t := [(0, .p (i64 n)), (1, .p (.lst x 2 (l.map Out.t))), (4, .p (i64 0)), (5, .p (.bool false)), (6, .p (i64 s)), (7, .p (i64 i)), (8, .p (i64 k))], s := [] }
def inK : Keep := ⟨[0, 1, 4, 5, 6, 7, 8], 0, []⟩
end Go.HM.Deal
