/- DEAL, part T: what the arguments read as. -/
import Derived.Test.YtknieknidaikmaaDealF
import Derived.Test.YtknieknidaikmaaHmRow
namespace Go.HM.Deal
open Go.Proofs

def dealShs : List Sh := [.struct [.int .i64, .int .i64, .int .i64, .struct [.bytes 32, .int .i64], .int .i64, .int .i64, .int .i64, .int .i64, .int .i64, .int .i64, .int .i64], .int .i64, .bytes 32,
  .struct [.int .i64, .int .i64, .slice 36 (.struct [.int .i64, .int .i64, .int .i64, .bytes 32, .int .i64])]]

theorem sh_int {k : IntKind} {x : T} (h : HasSh (.int k) x) : ∃ n, x = .int k n := let ⟨n, e, _⟩ := h; ⟨n, e⟩

theorem sh_htlc {x : T} (h : HasSh (.struct [.int .i64, .int .i64, .int .i64, .bytes 32, .int .i64]) x) : ∃ h : Htlc, x = h.t := by
  obtain ⟨xs, rfl, a, r1, rfl, ⟨n1, rfl, _⟩, b, r2, rfl, ⟨n2, rfl, _⟩, c, r3, rfl, ⟨n3, rfl, _⟩, d, r4, rfl, ⟨bs, rfl, _, _⟩, e, r5, rfl, ⟨n5, rfl, _⟩, rfl⟩ := h
  exact ⟨⟨n1, n2, n3, bs, n5⟩, rfl⟩

theorem sh_htlcs : ∀ (xs : List T), (∀ y ∈ xs, HasSh (.struct [.int .i64, .int .i64, .int .i64, .bytes 32, .int .i64]) y) → ∃ hs : List Htlc, xs = hs.map Htlc.t
  | [], _ => ⟨[], rfl⟩
  | x :: xs, h => by
    obtain ⟨a, rfl⟩ := sh_htlc (h x (by simp))
    obtain ⟨l, rfl⟩ := sh_htlcs xs (fun y hy => h y (by simp [hy]))
    exact ⟨a :: l, rfl⟩

theorem deal_args {xs : List T} (h : HasShs dealShs xs) : ∃ (t : Terms) (hd : Int) (p : List Int) (v : View) (f : Bool), xs = [t.t, i64 hd, .ba 32 p, v.t f] := by
  obtain ⟨x1, r1, rfl, ⟨ts, rfl, a1, q1, rfl, ⟨n1, rfl, _⟩, a2, q2, rfl, ⟨n2, rfl, _⟩, a3, q3, rfl, ⟨n3, rfl, _⟩, a4, q4, rfl, ⟨rs, rfl, b1, s1, rfl, ⟨tx, rfl, _, _⟩, b2, s2, rfl, ⟨m2, rfl, _⟩, rfl⟩,
    a5, q5, rfl, ⟨n5, rfl, _⟩, a6, q6, rfl, ⟨n6, rfl, _⟩, a7, q7, rfl, ⟨n7, rfl, _⟩, a8, q8, rfl, ⟨n8, rfl, _⟩, a9, q9, rfl, ⟨n9, rfl, _⟩, a10, q10, rfl, ⟨n10, rfl, _⟩, a11, q11, rfl, ⟨n11, rfl, _⟩, rfl⟩,
    x2, r2, rfl, ⟨hd, rfl, _⟩, x3, r3, rfl, ⟨p, rfl, _, _⟩, x4, r4, rfl, ⟨vs, rfl, c1, u1, rfl, ⟨k1, rfl, _⟩, c2, u2, rfl, ⟨k2, rfl, _⟩, c3, u3, rfl, ⟨f, hs, rfl, _, hh⟩, rfl⟩, rfl⟩ := h
  obtain ⟨l, rfl⟩ := sh_htlcs hs hh
  exact ⟨⟨n1, n2, n3, ⟨tx, m2⟩, n5, n6, n7, n8, n9, n10, n11⟩, hd, p, ⟨k1, k2, l⟩, f, rfl⟩

theorem dealShs_of : shsOf Try.prog [26, 3, 22, 29] = some dealShs := by kernel_rfl

end Go.HM.Deal
