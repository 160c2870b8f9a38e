/- DEAL, part C: deal.Fits, deal.Place, deal.Commit. -/
import Derived.Test.YtbipkkebonohjaaDcQ
set_option maxRecDepth 100000
namespace Go.HM.Deal
open Go.Proofs

theorem codeR_post {P : Program} {c : Code} {st st' : St} {e : Ex} (k : Keep) (h : CodeR P c st e st') : CodeR P c st e (st'.weak k) := by
  intro U κ a w hr
  refine wp_mono (h U κ a w hr) (fun x a' w' hq => ?_)
  obtain ⟨q1, κ', q2, q3⟩ := hq
  obtain ⟨r2, s2⟩ := weak_rel q2 k
  exact ⟨q1, _, r2, q3.trans s2⟩

def fitK0 : Keep := ⟨[2, 3, 4, 5, 25, 26, 27], 2, []⟩

theorem may_ok' (t : Terms) : PCall Try.prog 18 [t.t] [.bool (may t)] := may_ok t ⟨0, 0, 0, [], 0⟩

def c1 (t : Terms) (h : Htlc) : Bool := other t h.By == -1 || decide (h.Id < 0)
def c2 (h : Htlc) : Bool := !within h.Expiry 0 2147483647 || h.Hash == zeros
def c3 (y h : Htlc) : Bool := decide (order y h ≥ 0)

def fitGo (t : Terms) : Option Htlc → List Htlc → Bool
  | _, [] => true
  | y, h :: r => bif c1 t h then false else bif c2 h then false else match y with
    | none => fitGo t (some h) r
    | some y => bif c3 y h then false else fitGo t (some h) r

def allOfV (v : View) : List Int := v.A :: v.B :: v.Htlcs.map Htlc.Amount

def fits (t : Terms) (v : View) : Bool :=
  bif !may t || decide (((v.Htlcs.map Htlc.t).length : Int) > 32) then false else
  bif fitGo t none v.Htlcs then ((sum (allOfV v)).2 == 0 && (sum (allOfV v)).1 == IntKind.i64.wrap (t.StartA + t.StartB)) else false

abbrev FitSt := Option (Htlc × List Int × Htlc)
def fitSt (t : Terms) (v : View) (f : Bool) (s : FitSt) (i : Int) : St := match s with
  | none => fitS t v f false i
  | some (g, acc, _) => fitS' t v f false g acc i
def fitStep (t : Terms) (v : View) (f : Bool) (s : FitSt) (i : Nat) (h : Htlc) : FitSt ⊕ (Ex × St) :=
  bif c1 t h then .inr (.ret, fitSt t v f s i) else bif c2 h then .inr (.ret, fitSt t v f s i) else match s with
    | none => .inl (some (h, [v.A, v.B, h.Amount], h))
    | some (g, acc, y) => bif c3 y h then .inr (.ret, fitSt t v f s i) else .inl (some (g, acc ++ [h.Amount], h))
def fitFin (t : Terms) (v : View) (f : Bool) (s : FitSt) : Ex × St := (.exit 0, fitSt t v f s v.Htlcs.length)
def fitInv (v : View) (s : FitSt) (i : Nat) : Prop := i ≤ v.Htlcs.length ∧ match s with
  | none => i = 0
  | some (_, acc, y) => 0 < i ∧ v.Htlcs[i - 1]? = some y ∧ acc.length = i + 2

theorem dec_gt (i : Nat) (h : 0 < i) : decide ((i : Int) > 0) = true := by simp; omega

theorem fit_loop (t : Terms) (v : View) (f : Bool) (hl : v.Htlcs.length ≤ 32) :
    LoopR Try.prog (loopAt Try.f20 0) (fitS t v f false 0) (runL (fitStep t v f) (fitFin t v f) v.Htlcs 0 none).1 (runL (fitStep t v f) (fitFin t v f) v.Htlcs 0 none).2 := by
  refine loop_list v.Htlcs (fun s i => fitSt t v f s i) (fitStep t v f) (fitFin t v f) (fitInv v) ?_ ?_ ?_ none ⟨Nat.zero_le _, rfl⟩
  · intro s i x s' hI hx hs
    have hlt := getElem?_lt hx
    unfold fitStep at hs
    cases h1 : c1 t x with
    | true => rw [h1] at hs; cases hs
    | false =>
      cases h2 : c2 x with
      | true => rw [h1, h2] at hs; cases hs
      | false =>
        rw [h1, h2] at hs
        cases s with
        | none =>
          obtain ⟨_, hI⟩ := hI
          simp only at hI
          subst hI
          simp only [cond_false] at hs
          injection hs with hs; subst hs
          have h := evB_sound (fitA_2 t v f (0 : Nat) x) ⟨by decide, by decide, h2, within_ok _ _ _, h1, other_ok _ _, el_map hx, lt_len hx, trivial⟩
          rw [wrap64 (by omega) (by omega)] at h
          exact ⟨⟨hlt, by omega, hx, rfl⟩, h⟩
        | some q =>
          obtain ⟨g, acc, y⟩ := q
          obtain ⟨_, hI0, hIy, hIl⟩ := hI
          simp only [cond_false] at hs
          cases h3 : c3 y x with
          | true => rw [h3] at hs; cases hs
          | false =>
            rw [h3] at hs
            injection hs with hs; subst hs
            have hw : IntKind.i64.wrap ((i : Int) - 1) = ((i - 1 : Nat) : Int) := by rw [wrap64 (by omega) (by omega)]; omega
            have h := evB_sound (fitB_3 t v f g acc i y x) ⟨by simp; omega, h3, order_ok y x, by rw [hw]; exact el_map hIy, dec_gt i hI0, h2, within_ok _ _ _, h1, other_ok _ _, el_map hx, lt_len hx, trivial⟩
            rw [wrap64 (by omega) (by omega)] at h
            refine ⟨⟨hlt, by omega, by simpa using hx, by simp; omega⟩, ?_⟩
            have e : List.map i64 acc ++ [T.int IntKind.i64 x.Amount] = List.map i64 (acc ++ [x.Amount]) := by simp [i64]
            rw [e] at h
            exact h
  · intro s i x o hI hx hs
    have hlt := getElem?_lt hx
    unfold fitStep at hs
    cases h1 : c1 t x with
    | true =>
      rw [h1] at hs; injection hs with hs; subst hs
      cases s with
      | none => exact ⟨nofun, codeR_post fitK0 (evB_sound (fitA_0 t v f i x) ⟨h1, other_ok _ _, el_map hx, lt_len hx, trivial⟩)⟩
      | some q =>
        obtain ⟨g, acc, y⟩ := q
        exact ⟨nofun, evB_sound (fitB_0 t v f g acc i y x) ⟨h1, other_ok _ _, el_map hx, lt_len hx, trivial⟩⟩
    | false =>
      cases h2 : c2 x with
      | true =>
        rw [h1, h2] at hs; injection hs with hs; subst hs
        cases s with
        | none => exact ⟨nofun, codeR_post fitK0 (evB_sound (fitA_1 t v f i x) ⟨h2, within_ok _ _ _, h1, other_ok _ _, el_map hx, lt_len hx, trivial⟩)⟩
        | some q =>
          obtain ⟨g, acc, y⟩ := q
          exact ⟨nofun, evB_sound (fitB_1 t v f g acc i y x) ⟨h2, within_ok _ _ _, h1, other_ok _ _, el_map hx, lt_len hx, trivial⟩⟩
      | false =>
        rw [h1, h2] at hs
        cases s with
        | none => cases hs
        | some q =>
          obtain ⟨g, acc, y⟩ := q
          obtain ⟨_, hI0, hIy, hIl⟩ := hI
          simp only [cond_false] at hs
          cases h3 : c3 y x with
          | false => rw [h3] at hs; cases hs
          | true =>
            rw [h3] at hs
            injection hs with hs; subst hs
            have hw : IntKind.i64.wrap ((i : Int) - 1) = ((i - 1 : Nat) : Int) := by rw [wrap64 (by omega) (by omega)]; omega
            exact ⟨nofun, evB_sound (fitB_2 t v f g acc i y x) ⟨h3, order_ok y x, by rw [hw]; exact el_map hIy, dec_gt i hI0, h2, within_ok _ _ _, h1, other_ok _ _, el_map hx, lt_len hx, trivial⟩⟩
  · intro s hI
    cases s with
    | none => exact ⟨nofun, evB_sound (fitA_3 t v f v.Htlcs.length ⟨0, 0, 0, [], 0⟩) ⟨by simp, trivial⟩⟩
    | some q =>
      obtain ⟨g, acc, y⟩ := q
      exact ⟨nofun, evB_sound (fitB_5 t v f g acc v.Htlcs.length y y) ⟨by simp, trivial⟩⟩

theorem fit_none (t : Terms) (v : View) (f : Bool) : ∀ (r : List Htlc) (i : Nat) (q : Htlc × List Int × Htlc) {j : Int}, runL (fitStep t v f) (fitFin t v f) r i (some q) = (Ex.ret, fitSt t v f none j) → False
  | [], i, q, j, h => by simp only [runL, fitFin] at h; injection h with h _; cases h
  | x :: r, i, q, j, h => by
    obtain ⟨g, acc, y⟩ := q
    simp only [runL, fitStep] at h
    cases h1 : c1 t x with
    | true => rw [h1] at h; simp only [cond_true] at h; injection h with _ h; simp [fitSt, fitS, fitS'] at h
    | false =>
      cases h2 : c2 x with
      | true => rw [h1, h2] at h; simp only [cond_true, cond_false] at h; injection h with _ h; simp [fitSt, fitS, fitS'] at h
      | false =>
        rw [h1, h2] at h
        simp only [cond_false] at h
        cases h3 : c3 y x with
        | true => rw [h3] at h; simp only [cond_true] at h; injection h with _ h; simp [fitSt, fitS, fitS'] at h
        | false => rw [h3] at h; exact fit_none t v f r (i + 1) _ h

theorem fit_run (t : Terms) (v : View) (f : Bool) : ∀ (r : List Htlc) (i : Nat) (s : FitSt),
    (fitGo t (s.map fun q => q.2.2) r = false ∧ ∃ s' j, runL (fitStep t v f) (fitFin t v f) r i s = (Ex.ret, fitSt t v f s' j) ∧ (s' = none → i = 0 → s = none → j = (0 : Int))) ∨
    (fitGo t (s.map fun q => q.2.2) r = true ∧ ∃ s', runL (fitStep t v f) (fitFin t v f) r i s = fitFin t v f s' ∧
      match s with
      | none => (r = [] ∧ s' = none) ∨ (∃ g y, s' = some (g, v.A :: v.B :: r.map Htlc.Amount, y))
      | some (g, acc, _) => ∃ y, s' = some (g, acc ++ r.map Htlc.Amount, y))
  | [], i, s => .inr ⟨by cases s <;> rfl, s, rfl, by
      cases s with
      | none => exact .inl ⟨rfl, rfl⟩
      | some q => exact ⟨q.2.2, by simp⟩⟩
  | x :: r, i, s => by
    simp only [runL, fitStep, fitGo]
    cases h1 : c1 t x with
    | true => exact .inl ⟨rfl, s, i, rfl, fun a b c => by rw [b]; rfl⟩
    | false =>
      cases h2 : c2 x with
      | true => exact .inl ⟨rfl, s, i, rfl, fun a b c => by rw [b]; rfl⟩
      | false =>
        cases s with
        | none =>
          simp only [cond_false, Option.map_none]
          rcases fit_run t v f r (i + 1) (some (x, [v.A, v.B, x.Amount], x)) with ⟨a, s', j, b, c⟩ | ⟨a, s', b, y, c⟩
          · refine .inl ⟨a, s', j, b, fun e _ _ => ?_⟩
            subst e
            exfalso
            have := fit_none t v f r (i + 1) (x, [v.A, v.B, x.Amount], x) b
            exact this
          · exact .inr ⟨a, s', b, .inr ⟨x, y, by rw [c]; simp⟩⟩
        | some q =>
          obtain ⟨g, acc, y⟩ := q
          simp only [cond_false, Option.map_some]
          cases h3 : c3 y x with
          | true => exact .inl ⟨rfl, some (g, acc, y), i, rfl, fun a => by cases a⟩
          | false =>
            simp only [cond_false]
            rcases fit_run t v f r (i + 1) (some (g, acc ++ [x.Amount], x)) with ⟨a, s', j, b, c⟩ | ⟨a, s', b, y', c⟩
            · exact .inl ⟨a, s', j, b, fun _ _ e => by cases e⟩
            · exact .inr ⟨a, s', b, y', by rw [c]; simp⟩
theorem fits_ok (t : Terms) (v : View) (f : Bool) : PCall Try.prog 20 [t.t, v.t f] [.bool (fits t v)] := by
  unfold fits
  cases h0 : (!may t || decide (((v.Htlcs.map Htlc.t).length : Int) > 32)) with
  | true => exact evF_sound Try.func20 (by rfl) (fit0_0 t v f) ⟨h0, may_ok' t, trivial⟩
  | false =>
    have hl : v.Htlcs.length ≤ 32 := by
      have := (Bool.or_eq_false_iff.1 h0).2
      simp at this
      omega
    have h := fit_loop t v f hl
    rcases fit_run t v f v.Htlcs 0 none with ⟨a, s', j, b, c⟩ | ⟨a, s', b, c⟩
    · rw [b] at h
      rw [show fitGo t none v.Htlcs = false from a]
      cases s' with
      | none =>
        have hj := c rfl rfl rfl
        subst hj
        exact evF_sound Try.func20 (by rfl) (fit0_1 t v f) ⟨h, h0, may_ok' t, trivial⟩
      | some q =>
        obtain ⟨g, acc, y⟩ := q
        exact evF_sound Try.func20 (by rfl) (fit1_1 t v f g acc j) ⟨h, h0, may_ok' t, trivial⟩
    · rw [b] at h
      rw [show fitGo t none v.Htlcs = true from a]
      rcases c with ⟨e, rfl⟩ | ⟨g, y, rfl⟩
      · have ha : allOfV v = [v.A, v.B] := by simp [allOfV, e]
        rw [ha]
        exact evF_sound Try.func20 (by rfl) (fit2_1 t v f v.Htlcs.length) ⟨sum_ok _ [v.A, v.B] (by simp), h, h0, may_ok' t, trivial⟩
      · exact evF_sound Try.func20 (by rfl) (fit3_1 t v f g (allOfV v) v.Htlcs.length) ⟨sum_ok _ _ (by simp [allOfV]; omega), h, h0, may_ok' t, trivial⟩

/-- deal.Place -/
def place (v : View) (b i : Int) : Int × Bool := bif decide (ixGo b i v.Htlcs 0 < 0) then (0, false) else (IntKind.i64.wrap (2 + ixGo b i v.Htlcs 0), true)
theorem place_ok (v : View) (b i : Int) (f : Bool) (hl : v.Htlcs.length ≤ 4294967296) : PCall Try.prog 68 [v.t f, i64 b, i64 i] [i64 (place v b i).1, .bool (place v b i).2] := by
  unfold place
  cases h0 : decide (ixGo b i v.Htlcs 0 < 0) with
  | true => exact evF_sound Try.func68 (by rfl) (place_0 v b i f _) ⟨h0, ix_ok f v.Htlcs b i hl, trivial⟩
  | false => exact evF_sound Try.func68 (by rfl) (place_1 v b i f _) ⟨h0, ix_ok f v.Htlcs b i hl, trivial⟩

end Go.HM.Deal
