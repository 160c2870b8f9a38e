/- HN, part Rv: a call on trees whose results lean on nothing may be made on views of memory that is written elsewhere. -/
import Derived.Test.YtgcibcndeikiiaaGreatDoorHnE
namespace Go.HM

variable {P : Program} {U : Nat → Nat → Prop} {κ : List Place} {s : List SObj} {w : World} {ok : Nat → Nat → Prop}

def okEvery (_ _ : Nat) : Prop := True
theorem pres_every : Pres w ok w okEvery := fun _ _ _ hv _ => ⟨hv, trivial⟩

mutual
/-- It leans on no memory. -/
def T.flat : T → Bool
  | .int _ _ => true
  | .bool _ => true
  | .str _ => true
  | .flt _ _ => true
  | .ba _ _ => true
  | .agg ts => T.flats ts
  | _ => false
def T.flats : List T → Bool
  | [] => true
  | t :: ts => t.flat && T.flats ts
end
mutual
theorem Tc.flat {w' : World} {ok' : Nat → Nat → Prop} : ∀ {t : T} {cs : List Value}, Tc w ok t cs → t.flat = true → Tc w' ok' t cs
  | _, _, .bool b, _ => .bool b
  | _, _, .int k n, _ => .int k n
  | _, _, .flt k n, _ => .flt k n
  | _, _, .str s, _ => .str s
  | _, _, .ba h, _ => .ba h
  | _, _, .agg h, hf => .agg (Tcs.flat h (by simpa [T.flat] using hf))
theorem Tcs.flat {w' : World} {ok' : Nat → Nat → Prop} : ∀ {ts : List T} {cs : List Value}, Tcs w ok ts cs → T.flats ts = true → Tcs w' ok' ts cs
  | _, _, .nil, _ => .nil
  | _, _, .cons h k, hf => by
    simp only [T.flats, Bool.and_eq_true] at hf
    exact .cons (Tc.flat h hf.1) (Tcs.flat k hf.2)
end

/-- What a value of one cell reads as; views of arrays of bytes, and of what holds such. -/
def rdE (s : List SObj) : Nat → V → Option T
  | 0, _ => none
  | k + 1, v => match v with
    | .p t => if Nat.beq t.sz 1 && !t.isAgg then some t else none
    | .row _ _ t => if t.isAgg then none else some t
    | .view id off n => match s[id]? with
      | some (.box (.p (.ba m bs))) => if Nat.ble (off + n) m then some (.bl true ((bs.drop off).take n)) else none
      | some (.box (.agg vs)) => if Nat.beq off 0 && Nat.beq n vs.length then (vs.mapM (rdE s k)).map fun ts => .lst true 1 ts else none
      | _ => none
    | _ => none

theorem Vcs_ones {R : V → Option T} (hR : ∀ (v : V) (t : T) (cs : List Value), R v = some t → Vc U κ s w v cs → ∃ x, cs = [x] ∧ Tc w okEvery t [x]) :
    ∀ {vs : List V} {ts : List T} {cs : List Value}, vs.mapM R = some ts → Vcs U κ s w vs cs → Tcs w okEvery ts cs ∧ ts.length = vs.length ∧ cs.length = vs.length ∧ ∀ t ∈ ts, t.sz = 1
  | [], ts, cs, h, hv => by
    simp at h
    cases hv
    subst h
    exact ⟨.nil, rfl, rfl, by simp⟩
  | v :: vs, ts, cs, h, hv => by
    simp only [List.mapM_cons, Option.bind_eq_bind, Option.bind_eq_some_iff, Option.pure_def, Option.some.injEq] at h
    obtain ⟨t, h1, ts', h2, rfl⟩ := h
    cases hv with | cons c1 c2 =>
      obtain ⟨x, rfl, hx⟩ := hR v t _ h1 c1
      obtain ⟨a, b, c, d⟩ := Vcs_ones hR h2 c2
      refine ⟨.cons hx a, by simp [b], by simp [c], fun y hy => ?_⟩
      rcases List.mem_cons.1 hy with rfl | hy
      · have := hx.len; simpa using this.symm
      · exact d y hy

theorem rdE_ok (h : RelS U κ s w) : ∀ (k : Nat) (v : V) (t : T) (cs : List Value), rdE s k v = some t → Vc U κ s w v cs → ∃ x, cs = [x] ∧ Tc w okEvery t [x]
  | 0, v, t, cs, e, _ => by simp [rdE] at e
  | k + 1, v, t, cs, e, hv => by
    cases hv with
    | @p t0 cs ht =>
      simp only [rdE] at e
      split at e
      · rename_i hc
        injection e with e; subst e
        simp only [Bool.and_eq_true, Nat.beq_eq] at hc
        have hl := ht.len
        rw [hc.1] at hl
        match cs, hl, ht with
        | [x], _, ht => exact ⟨x, rfl, ht.pres pres_every⟩
      · cases e
    | @row id ver t0 base n cap cur e0 h1 h2 h3 h4 =>
      simp only [rdE] at e
      split at e
      · cases e
      · injection e with e; subst e
        exact ⟨_, rfl, h1.pres pres_every⟩
    | @view id off n pl v0 h1 h2 =>
      refine ⟨_, rfl, ?_⟩
      have hob := h.obj id _ pl h1 h2
      obtain ⟨x0, x1, x2, x3, cells, elem, x4, x5⟩ := hob
      simp only [rdE, h1] at e
      cases v0 with
      | p t0 =>
        cases t0 with
        | ba m bs =>
          simp only at e
          split at e
          · rename_i hc
            have hc := Nat.le_of_ble_eq_true hc
            injection e with e; subst e
            cases x5 with | p x5 =>
              generalize hcl : cells.toList = cl at x5
              cases x5 with | ba hb =>
                have hlen : ((bs.drop off).take n).length = n := by simp; omega
                refine .bl hlen (Nat.le_refl _) (fun _ => rfl) (fun j v hj => ⟨?_, trivial⟩)
                rw [x4.cell]
                have hjn : j < n := by have := (List.getElem?_eq_some_iff.1 hj).1; omega
                rw [List.getElem?_take_of_lt hjn, List.getElem?_drop] at hj
                have : cells.toList[off + j]? = some (byteV v) := by rw [hcl, List.getElem?_map, hj]; rfl
                simpa using this
          · cases e
        | _ => simp at e
      | agg vs =>
        simp only at e
        split at e
        · rename_i hc
          simp only [Bool.and_eq_true, Nat.beq_eq] at hc
          obtain ⟨rfl, rfl⟩ := hc
          rw [Option.map_eq_some_iff] at e
          obtain ⟨ts, h3, rfl⟩ := e
          cases x5 with | agg x5 =>
            obtain ⟨a, b, c, d⟩ := Vcs_ones (fun v t cs => rdE_ok h k v t cs) h3 x5
            refine .lst b (Nat.le_refl _) (fun _ => rfl) d a (fun j v hj => ⟨?_, trivial⟩)
            rw [x4.cell, Nat.zero_add]
            simpa using hj
        · cases e
      | _ => simp at e
    | _ => simp [rdE] at e

/-- What a call's argument reads as. -/
def rdA (s : List SObj) (v : V) : Option T := match v with
  | .p t => some t
  | v => rdE s 4 v
theorem rdA_ok (h : RelS U κ s w) {v : V} {t : T} {x : Value} (e : rdA s v = some t) (hv : VV1 U κ s w v x) : TV w okEvery t x := by
  unfold rdA at e
  split at e
  · injection e with e; subst e
    exact (VV_p (VV_of1 hv)).pres pres_every
  · rename_i hn
    obtain ⟨y, h1, h2⟩ := rdE_ok h 4 v t _ e hv.1
    have ha : v.isAgg = false := by
      cases v with
      | p t0 => exact absurd rfl (hn _)
      | _ => first | rfl | (simp [rdE] at e; done)
    have hx : isAggV x = false := by rw [hv.2, ha]
    rw [cells_one hx] at h1
    simp only [List.cons.injEq, and_true] at h1
    subst h1
    have ht : t.isAgg = false := by
      cases v with
      | view id off n =>
        simp only [rdE] at e
        split at e
        · split at e
          · injection e with e; subst e; rfl
          · cases e
        · split at e
          · rw [Option.map_eq_some_iff] at e; obtain ⟨_, _, rfl⟩ := e; rfl
          · cases e
        · cases e
      | p t0 => exact absurd rfl (hn _)
      | row id ver t0 =>
        simp only [rdE] at e
        split at e
        · cases e
        · rename_i hc; injection e with e; subst e; simpa using hc
      | _ => simp [rdE] at e
    exact .of_cells h2 ht
def rdAs (s : List SObj) : List V → Option (List T)
  | [] => some []
  | v :: vs => match rdA s v, rdAs s vs with | some t, some ts => some (t :: ts) | _, _ => none
theorem rdAs_ok (h : RelS U κ s w) : ∀ {vs : List V} {ts : List T} {xs : List Value}, rdAs s vs = some ts → F2 (VV1 U κ s w) vs xs → F2 (TV w okEvery) ts xs
  | [], ts, _, e, .nil => by simp [rdAs] at e; subst e; exact .nil
  | v :: vs, ts, _, e, .cons a b => by
    simp only [rdAs] at e
    split at e
    · rename_i h1 h2
      injection e with e; subst e
      exact .cons (rdA_ok h h1 a) (rdAs_ok h h2 b)
    · cases e

/-- A CALL ON TREES WHOSE RESULTS LEAN ON NOTHING, MADE ON VIEWS. -/
theorem GCall.read {f : FuncId} {ts rs : List T} {vs : List V} (h : PCall P f ts rs) (hv : rdAs s vs = some ts) (hr : T.flats rs = true) : GCall P f s vs s (rs.map .p) := by
  refine ⟨h.1, fun U κ w vals hS hargs => ?_⟩
  refine (h.2 okEvery w vals ⟨fun _ _ _ => trivial, hS.glob.pres pres_every⟩ (rdAs_ok hS hv hargs)).mono ?_
  rintro e w' ⟨v, rfl, hv, hk⟩
  refine ⟨v, κ, rfl, hS.kept0 hk, ?_, hk.step0, .refl _ _⟩
  have conv : ∀ {rs : List T} {xs : List Value}, T.flats rs = true → F2 (TV w' okEvery) rs xs → F2 (VV1 U κ s w') (rs.map .p) xs := by
    intro rs xs hr hx
    induction hx with
    | nil => exact .nil
    | cons a b ih =>
      simp only [T.flats, Bool.and_eq_true] at hr
      exact .cons (VV1_of ⟨Tc.flat a.1 hr.1, a.2⟩) (ih hr.2)
  match rs, hv, hr with
  | [], hv, hr => obtain ⟨xs, a, b⟩ := hv; exact ⟨xs, a, conv hr b⟩
  | [r], hv, hr => have := conv hr (F2.cons (R := TV w' okEvery) hv .nil); cases this with | cons a b => exact a
  | r :: r' :: rest, hv, hr => obtain ⟨xs, a, b⟩ := hv; exact ⟨xs, a, conv hr b⟩
end Go.HM
