/- GRAPH, part B: GraphNobody. -/
import Derived.Test.YtaghnihkkofmnaaGrA
import Derived.Test.YtaghnihkkofmnaaHmRow
set_option maxRecDepth 100000
namespace Go.HM.Gr
open Go.Proofs

theorem nobody_run (k ch fr to ca f1 f2 r1 r2 r3 p1 p2 p3 p4 n t wf wt wa wl wi wm : Int) (g b : Bool) (av : List T) :
    runK (Cg K1) 30 3 [.agg [.int .i64 k, .agg [.int .i64 ch, .int .i64 fr, .int .i64 to, .int .i64 ca, .agg [.agg [.int .i64 f1, .int .i64 f2], .int .i64 r1, .int .i64 r2, .int .i64 r3], .agg [.int .i64 p1, .int .i64 p2, .int .i64 p3, .int .i64 p4]], .int .i64 n, .int .i64 t, .bool g], .agg [.int .i64 wf, .int .i64 wt, .int .i64 wa, .int .i64 wl, .int .i64 wi, .lst b 1 av, .int .i64 wm]] [] = some ([.bool true], []) := by kernel_rfl

def edgeSh : Sh := .struct [.int .i64, .int .i64, .int .i64, .int .i64, .struct [.struct [.int .i64, .int .i64], .int .i64, .int .i64, .int .i64], .struct [.int .i64, .int .i64, .int .i64, .int .i64]]
def opSh : Sh := .struct [.int .i64, edgeSh, .int .i64, .int .i64, .bool]
def wantSh : Sh := .struct [.int .i64, .int .i64, .int .i64, .int .i64, .int .i64, .slice 1 (.int .i64), .int .i64]

theorem nobody_args {xs : List T} (h : HasShs [opSh, wantSh] xs) : PCall Try.prog 3 xs [.bool true] := by
  obtain ⟨_, _, rfl, ⟨_, rfl, _, _, rfl, ⟨k, rfl, _⟩, _, _, rfl, ⟨_, rfl, _, _, rfl, ⟨ch, rfl, _⟩, _, _, rfl, ⟨fr, rfl, _⟩, _, _, rfl, ⟨to, rfl, _⟩, _, _, rfl, ⟨ca, rfl, _⟩, _, _, rfl, ⟨_, rfl, _, _, rfl, ⟨_, rfl, _, _, rfl, ⟨f1, rfl, _⟩, _, _, rfl, ⟨f2, rfl, _⟩, rfl⟩, _, _, rfl, ⟨r1, rfl, _⟩, _, _, rfl, ⟨r2, rfl, _⟩, _, _, rfl, ⟨r3, rfl, _⟩, rfl⟩, _, _, rfl, ⟨_, rfl, _, _, rfl, ⟨p1, rfl, _⟩, _, _, rfl, ⟨p2, rfl, _⟩, _, _, rfl, ⟨p3, rfl, _⟩, _, _, rfl, ⟨p4, rfl, _⟩, rfl⟩, rfl⟩, _, _, rfl, ⟨n, rfl, _⟩, _, _, rfl, ⟨t, rfl, _⟩, _, _, rfl, ⟨g, rfl⟩, rfl⟩, _, _, rfl, ⟨_, rfl, _, _, rfl, ⟨wf, rfl, _⟩, _, _, rfl, ⟨wt, rfl, _⟩, _, _, rfl, ⟨wa, rfl, _⟩, _, _, rfl, ⟨wl, rfl, _⟩, _, _, rfl, ⟨wi, rfl, _⟩, _, _, rfl, ⟨b, av, rfl, _, _⟩, _, _, rfl, ⟨wm, rfl, _⟩, rfl⟩, rfl⟩ := h
  exact runK_sound (Cg_ok K1_ok) (nobody_run k ch fr to ca f1 f2 r1 r2 r3 p1 p2 p3 p4 n t wf wt wa wl wi wm g b av) trivial
end Go.HM.Gr
