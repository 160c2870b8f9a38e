/- DEAL, part W: the arguments' ranges. -/
import Derived.Test.YtknieknidaikmaaDealT
import Derived.Test.YtknieknidaikmaaDealH
namespace Go.HM.Deal
open Go.Proofs

theorem wf_rng {n : Int} (h : (Lit.int .i64 n).wf = true) : rng n := by
  simpa [Lit.wf, IntKind.min, IntKind.max, IntKind.signed, IntKind.bits, rng] using h

theorem sh_htlc2 {x : T} (h : HasSh (.struct [.int .i64, .int .i64, .int .i64, .bytes 32, .int .i64]) x) : ∃ h : Htlc, x = h.t ∧ rng h.Amount := by
  obtain ⟨xs, rfl, a, r1, rfl, ⟨n1, rfl, _⟩, b, r2, rfl, ⟨n2, rfl, _⟩, c, r3, rfl, ⟨n3, rfl, w3⟩, d, r4, rfl, ⟨bs, rfl, _, _⟩, e, r5, rfl, ⟨n5, rfl, _⟩, rfl⟩ := h
  exact ⟨⟨n1, n2, n3, bs, n5⟩, rfl, wf_rng w3⟩

theorem sh_htlcs2 : ∀ (xs : List T), (∀ y ∈ xs, HasSh (.struct [.int .i64, .int .i64, .int .i64, .bytes 32, .int .i64]) y) → ∃ hs : List Htlc, xs = hs.map Htlc.t ∧ ∀ h ∈ hs, rng h.Amount
  | [], _ => ⟨[], rfl, by simp⟩
  | x :: xs, h => by
    obtain ⟨a, rfl, ha⟩ := sh_htlc2 (h x (by simp))
    obtain ⟨l, rfl, hl⟩ := sh_htlcs2 xs (fun y hy => h y (by simp [hy]))
    refine ⟨a :: l, rfl, fun z hz => ?_⟩
    rcases List.mem_cons.1 hz with rfl | hz
    · exact ha
    · exact hl z hz

theorem deal_args2 {xs : List T} (h : HasShs dealShs xs) : ∃ (t : Terms) (hd : Int) (p : List Int) (v : View) (f : Bool), xs = [t.t, i64 hd, .ba 32 p, v.t f] ∧ Ranges t v := by
  obtain ⟨x1, r1, rfl, ⟨ts, rfl, a1, q1, rfl, ⟨n1, rfl, _⟩, a2, q2, rfl, ⟨n2, rfl, _⟩, a3, q3, rfl, ⟨n3, rfl, _⟩, a4, q4, rfl, ⟨rs, rfl, b1, s1, rfl, ⟨tx, rfl, _, _⟩, b2, s2, rfl, ⟨m2, rfl, _⟩, rfl⟩,
    a5, q5, rfl, ⟨n5, rfl, w5⟩, a6, q6, rfl, ⟨n6, rfl, w6⟩, a7, q7, rfl, ⟨n7, rfl, _⟩, a8, q8, rfl, ⟨n8, rfl, w8⟩, a9, q9, rfl, ⟨n9, rfl, _⟩, a10, q10, rfl, ⟨n10, rfl, _⟩, a11, q11, rfl, ⟨n11, rfl, _⟩, rfl⟩,
    x2, r2, rfl, ⟨hd, rfl, _⟩, x3, r3, rfl, ⟨p, rfl, _, _⟩, x4, r4, rfl, ⟨vs, rfl, c1, u1, rfl, ⟨k1, rfl, wk1⟩, c2, u2, rfl, ⟨k2, rfl, wk2⟩, c3, u3, rfl, ⟨f, hs, rfl, _, hh⟩, rfl⟩, rfl⟩ := h
  obtain ⟨l, rfl, hl⟩ := sh_htlcs2 hs hh
  exact ⟨⟨n1, n2, n3, ⟨tx, m2⟩, n5, n6, n7, n8, n9, n10, n11⟩, hd, p, ⟨k1, k2, l⟩, f, rfl, ⟨wf_rng w5, wf_rng w6, wf_rng w8, wf_rng wk1, wf_rng wk2, hl⟩⟩

end Go.HM.Deal
