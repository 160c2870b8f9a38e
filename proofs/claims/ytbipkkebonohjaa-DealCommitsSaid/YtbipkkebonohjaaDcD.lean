/- DEAL, part D: deal.Commit. -/
import Derived.Test.YtbipkkebonohjaaDcC
set_option maxRecDepth 100000
namespace Go.HM.Deal
open Go.Proofs

theorem rev_ok (l : List Path) (o : Int) (p : List Int) (hl : l.length + 1 ≤ 4294967296) : PCall Try.prog 66 [.lst true 37 (l.map Path.t), .rp (i64 o) 0, .rp (.ba 32 p) 0] [.lst false 37 ((rev l o p).map Path.t)] := by
  have h := evF_sound Try.func66 (by rfl) (rev_0 l o p) ⟨.inl (by simpa using hl), trivial⟩
  simp only [rev, List.map_append]
  exact h

abbrev ComSt := Option (Htlc × Out × List Out)
def comSt (t : Terms) (hd o : Int) (p : List Int) (v : View) (f : Bool) (outs : List Out) (s : ComSt) (i : Int) : St := match s with
  | none => comS t hd o p v f outs i
  | some (g, u, acc) => comS' t hd o p v f acc g u i
def comStep (t : Terms) (hd o : Int) (p : List Int) (outs : List Out) (s : ComSt) (_ : Nat) (h : Htlc) : ComSt ⊕ (Ex × St) := match s with
  | none => .inl (some (h, comOut t hd o p h, outs ++ [comOut t hd o p h]))
  | some (g, u, acc) => .inl (some (g, u, acc ++ [comOut t hd o p h]))
def comFin (t : Terms) (hd o : Int) (p : List Int) (v : View) (f : Bool) (outs : List Out) (s : ComSt) : Ex × St := (.exit 0, comSt t hd o p v f outs s v.Htlcs.length)
def comInv (v : View) (outs : List Out) (s : ComSt) (i : Nat) : Prop := i ≤ v.Htlcs.length ∧ match s with
  | none => i = 0
  | some (_, _, acc) => acc.length = outs.length + i

theorem com_out1 (t : Terms) (hd o : Int) (p : List Int) (h : Htlc) (hc : (h.By == hd) = true) : comOut t hd o p h = ⟨h.Amount, false, rev [⟨o, 0, false, 0, 0, h.Hash⟩, ⟨hd, 0, false, h.Expiry, t.Delay, zeros⟩] o p⟩ := by
  unfold comOut; rw [hc]; rfl
theorem com_out2 (t : Terms) (hd o : Int) (p : List Int) (h : Htlc) (hc : (h.By == hd) = false) : comOut t hd o p h = ⟨h.Amount, false, rev [⟨hd, 0, false, 0, t.Delay, h.Hash⟩, ⟨o, 0, false, h.Expiry, 0, zeros⟩] o p⟩ := by
  unfold comOut; rw [hc]; rfl

theorem com_loop (t : Terms) (hd o : Int) (p : List Int) (v : View) (f : Bool) (outs : List Out) (hl : v.Htlcs.length ≤ 32) (ho : outs.length = 2) :
    LoopR Try.prog (loopAt Try.f14 0) (comS t hd o p v f outs 0) (runL (comStep t hd o p outs) (comFin t hd o p v f outs) v.Htlcs 0 none).1 (runL (comStep t hd o p outs) (comFin t hd o p v f outs) v.Htlcs 0 none).2 := by
  refine loop_list v.Htlcs (fun s i => comSt t hd o p v f outs s i) (comStep t hd o p outs) (comFin t hd o p v f outs) (comInv v outs) ?_ ?_ ?_ none ⟨Nat.zero_le _, rfl⟩
  · intro s i x s' hI hx hs
    have hlt := getElem?_lt hx
    unfold comStep at hs
    cases s with
    | none =>
      obtain ⟨_, hI⟩ := hI
      simp only at hI
      subst hI
      simp only at hs
      injection hs with hs; subst hs
      refine ⟨⟨hlt, by simp [ho]⟩, ?_⟩
      cases hc : (x.By == hd) with
      | true =>
        rw [com_out1 t hd o p x hc]
        have h := evB_sound (comA_0 t hd o p v f outs (0 : Nat) x) ⟨by simp [ho], rev_ok [⟨o, 0, false, 0, 0, x.Hash⟩, ⟨hd, 0, false, x.Expiry, t.Delay, zeros⟩] o p (by simp), hc, el_map hx, lt_len hx, trivial⟩
        rw [wrap64 (by omega) (by omega)] at h
        simp only [comSt, comS', List.map_append]
        exact h
      | false =>
        rw [com_out2 t hd o p x hc]
        have h := evB_sound (comA_1 t hd o p v f outs (0 : Nat) x) ⟨by simp [ho], rev_ok [⟨hd, 0, false, 0, t.Delay, x.Hash⟩, ⟨o, 0, false, x.Expiry, 0, zeros⟩] o p (by simp), hc, el_map hx, lt_len hx, trivial⟩
        rw [wrap64 (by omega) (by omega)] at h
        simp only [comSt, comS', List.map_append]
        exact h
    | some q =>
      obtain ⟨g, u, acc⟩ := q
      obtain ⟨_, hI⟩ := hI
      simp only at hI
      simp only at hs
      injection hs with hs; subst hs
      refine ⟨⟨hlt, by simp; omega⟩, ?_⟩
      cases hc : (x.By == hd) with
      | true =>
        rw [com_out1 t hd o p x hc]
        have h := evB_sound (comB_0 t hd o p v f acc g u i x) ⟨by simp; omega, rev_ok [⟨o, 0, false, 0, 0, x.Hash⟩, ⟨hd, 0, false, x.Expiry, t.Delay, zeros⟩] o p (by simp), hc, el_map hx, lt_len hx, trivial⟩
        rw [wrap64 (by omega) (by omega)] at h
        simp only [comSt, comS', List.map_append]
        exact h
      | false =>
        rw [com_out2 t hd o p x hc]
        have h := evB_sound (comB_1 t hd o p v f acc g u i x) ⟨by simp; omega, rev_ok [⟨hd, 0, false, 0, t.Delay, x.Hash⟩, ⟨o, 0, false, x.Expiry, 0, zeros⟩] o p (by simp), hc, el_map hx, lt_len hx, trivial⟩
        rw [wrap64 (by omega) (by omega)] at h
        simp only [comSt, comS', List.map_append]
        exact h
  · intro s i x r hI hx hs
    unfold comStep at hs
    cases s <;> cases hs
  · intro s hI
    cases s with
    | none => exact ⟨nofun, evB_sound (comA_2 t hd o p v f outs v.Htlcs.length ⟨0, 0, 0, [], 0⟩) ⟨by simp, trivial⟩⟩
    | some q =>
      obtain ⟨g, u, acc⟩ := q
      exact ⟨nofun, evB_sound (comB_2 t hd o p v f acc g u v.Htlcs.length g) ⟨by simp, trivial⟩⟩

theorem com_run (t : Terms) (hd o : Int) (p : List Int) (v : View) (f : Bool) (outs : List Out) : ∀ (r : List Htlc) (i : Nat) (s : ComSt),
    ∃ s', runL (comStep t hd o p outs) (comFin t hd o p v f outs) r i s = comFin t hd o p v f outs s' ∧
      match s with
      | none => (r = [] ∧ s' = none) ∨ (r ≠ [] ∧ ∃ g u, s' = some (g, u, outs ++ r.map (comOut t hd o p)))
      | some (g, u, acc) => s' = some (g, u, acc ++ r.map (comOut t hd o p))
  | [], i, s => ⟨s, rfl, by
      cases s with
      | none => exact .inl ⟨rfl, rfl⟩
      | some q => simp⟩
  | x :: r, i, s => by
    simp only [runL, comStep]
    cases s with
    | none =>
      obtain ⟨s', a, b⟩ := com_run t hd o p v f outs r (i + 1) (some (x, comOut t hd o p x, outs ++ [comOut t hd o p x]))
      exact ⟨s', a, .inr ⟨by simp, x, comOut t hd o p x, by rw [b]; simp⟩⟩
    | some q =>
      obtain ⟨g, u, acc⟩ := q
      obtain ⟨s', a, b⟩ := com_run t hd o p v f outs r (i + 1) (some (g, u, acc ++ [comOut t hd o p x]))
      exact ⟨s', a, by rw [b]; simp⟩

def inT (r : Ref) : T := .agg [r.t, i64 0, .ba 32 zeros, .ba 32 zeros, .ba 32 zeros]
def txT (r : Ref) (x : Bool) (outs : List Out) : T := .agg [.lst true 130 [inT r], .lst x 2 (outs.map Out.t)]
def ownIts (t : Terms) (hd : Int) (v : View) : Int × Int := bif hd == t.B then (v.B, mx0 (IntKind.i64.wrap (v.A - t.Fee))) else (mx0 (IntKind.i64.wrap (v.A - t.Fee)), v.B)
def comAll (t : Terms) (hd : Int) (p : List Int) (v : View) : List Out := comOuts t hd (other t hd) p (ownIts t hd v).1 (ownIts t hd v).2 ++ v.Htlcs.map (comOut t hd (other t hd) p)
def comBad (t : Terms) (hd : Int) (p : List Int) (v : View) : Bool := !fits t v || other t hd == -1 || p == zeros
def commit (t : Terms) (hd : Int) (p : List Int) (v : View) : List T := bif comBad t hd p v then [emptyTx, i64 1] else [txT t.Fund v.Htlcs.isEmpty (comAll t hd p v), i64 0]

theorem fits_len {t : Terms} {v : View} (h : fits t v = true) : v.Htlcs.length ≤ 32 := by
  unfold fits at h
  cases h0 : (!may t || decide (((v.Htlcs.map Htlc.t).length : Int) > 32)) with
  | true => rw [h0] at h; cases h
  | false =>
    have := (Bool.or_eq_false_iff.1 h0).2
    simp at this
    omega

theorem commit_ok (t : Terms) (hd : Int) (p : List Int) (v : View) (f : Bool) : PCall Try.prog 14 [t.t, i64 hd, .ba 32 p, v.t f] (commit t hd p v) := by
  unfold commit
  cases h0 : comBad t hd p v with
  | true => exact evF_sound Try.func14 (by rfl) (com0_0 t hd (other t hd) p v f (fits t v) [] 0) ⟨h0, fits_ok t v f, other_ok t hd, trivial⟩
  | false =>
    have hf : fits t v = true := by
      unfold comBad at h0
      cases hf : fits t v with
      | true => rfl
      | false => rw [hf] at h0; cases h0
    have hl := fits_len hf
    have h := com_loop t hd (other t hd) p v f (comOuts t hd (other t hd) p (ownIts t hd v).1 (ownIts t hd v).2) hl rfl
    have hrev := rev_ok [⟨hd, 0, false, 0, t.Delay, zeros⟩] (other t hd) p (by simp)
    obtain ⟨s', a, b⟩ := com_run t hd (other t hd) p v f (comOuts t hd (other t hd) p (ownIts t hd v).1 (ownIts t hd v).2) v.Htlcs 0 none
    rw [a] at h
    rcases b with ⟨e, rfl⟩ | ⟨e, g, u, rfl⟩
    · have e1 : comAll t hd p v = comOuts t hd (other t hd) p (ownIts t hd v).1 (ownIts t hd v).2 := by simp [comAll, e]
      have e2 : v.Htlcs.isEmpty = true := by simp [e]
      rw [e1, e2]
      unfold ownIts at h ⊢
      cases hb : (hd == t.B) with
      | true =>
        rw [hb] at h
        exact evF_sound Try.func14 (by rfl) (com0_1 t hd (other t hd) p v f (fits t v) _ v.Htlcs.length) ⟨h, hrev, hb, h0, fits_ok t v f, other_ok t hd, trivial⟩
      | false =>
        rw [hb] at h
        exact evF_sound Try.func14 (by rfl) (com0_2 t hd (other t hd) p v f (fits t v) _ v.Htlcs.length) ⟨h, hrev, hb, h0, fits_ok t v f, other_ok t hd, trivial⟩
    · have e2 : v.Htlcs.isEmpty = false := by simpa using e
      rw [e2]
      unfold comAll ownIts at *
      cases hb : (hd == t.B) with
      | true =>
        rw [hb] at h
        exact evF_sound Try.func14 (by rfl) (com1_1 t hd (other t hd) p v f (fits t v) _ g u v.Htlcs.length) ⟨h, hrev, hb, h0, fits_ok t v f, other_ok t hd, trivial⟩
      | false =>
        rw [hb] at h
        exact evF_sound Try.func14 (by rfl) (com1_2 t hd (other t hd) p v f (fits t v) _ g u v.Htlcs.length) ⟨h, hrev, hb, h0, fits_ok t v f, other_ok t hd, trivial⟩

end Go.HM.Deal
