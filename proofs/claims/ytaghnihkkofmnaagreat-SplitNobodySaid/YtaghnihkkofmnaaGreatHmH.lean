/- HM, part H: what an operation gives in the model is what the evaluator says. Operands, scalars. -/
import Derived.Test.YtaghnihkkofmnaaGreatHmG
namespace Go.HM

variable {P : Program} {U : Nat → Nat → Prop} {κ : List Place} {s : List SObj} {w : World} {ok : Nat → Nat → Prop}

theorem VV_p {t : T} {x : Value} (h : VV U κ s w (.p t) x) : TV w (okOf U κ) t x := by
  obtain ⟨h, e⟩ := (h : VV1 U κ s w (.p t) x)
  cases h with | p h => exact ⟨h, e⟩

theorem VV_of {t : T} {x : Value} (h : TV w (okOf U κ) t x) : VV U κ s w (.p t) x := ⟨.p h.1, h.2⟩

theorem VV1_of {t : T} {x : Value} (h : TV w (okOf U κ) t x) : VV1 U κ s w (.p t) x := ⟨.p h.1, h.2⟩

theorem VV_one {v : V} {x : Value} (h : VV U κ s w v x) (hv : okPart v = true) : VV1 U κ s w v x := by
  cases v <;> first | exact h | simp [okPart] at hv

theorem VV_of1 {v : V} {x : Value} (h : VV1 U κ s w v x) : VV U κ s w v x := by
  cases v with
  | tup vs => exact absurd h.1 (by intro k; cases k)
  | _ => exact h

theorem cells_eq_one {x y : Value} (hx : isAggV x = false) (h : x.cells.toList = [y]) : x = y := by
  rw [cells_one hx] at h; simpa using h

theorem Vc_one_cell {v : V} {x : Value} (h : VV1 U κ s w v x) (hv : v.isAgg = false) : Vc U κ s w v [x] := by
  have := h.1; rwa [cells_one (by rw [h.2, hv])] at this

theorem VV1_of_cell {v : V} {x : Value} (h : Vc U κ s w v [x]) (hv : v.isAgg = false) : VV1 U κ s w v x := by
  have hx : isAggV x = false := by have := h.one x (by simp); cases x <;> simp_all [isAggV, Value.oneCell']
  exact ⟨by rw [cells_one hx]; exact h, by rw [hx, hv]⟩

theorem VV_ptr {id off : Nat} {x : Value} (h : VV U κ s w (.ptr id off) x) : ∃ pl v, s[id]? = some (.box v) ∧ κ[id]? = some pl ∧ x = .pointer (some ⟨pl.blk, off, none⟩) := by
  have h' := Vc_one_cell (VV_one h rfl) rfl
  cases h' with | ptr a b => exact ⟨_, _, a, b, rfl⟩

theorem VV_rb {b : Bool} {x : Value} (h : VV U κ s w (.rb b) x) : x = .bool b := by
  have h' := Vc_one_cell (VV_one h rfl) rfl
  cases h'; rfl

theorem TV_int {k : IntKind} {n : Int} {x : Value} (h : TV w ok (.int k n) x) : x = .int k n := by have := h.cell rfl; cases this; rfl
theorem TV_bool {b : Bool} {x : Value} (h : TV w ok (.bool b) x) : x = .bool b := by have := h.cell rfl; cases this; rfl
theorem TV_str {b : ByteArray} {x : Value} (h : TV w ok (.str b) x) : x = .string b := by have := h.cell rfl; cases this; rfl
theorem TV_flt {k : FloatKind} {n : Nat} {x : Value} (h : TV w ok (.flt k n) x) : x = .float k n := by have := h.cell rfl; cases this; rfl
theorem TV_nilP {x : Value} (h : TV w ok .nilP x) : x = .pointer none := by have := h.cell rfl; cases this; rfl

theorem T.sc_spec {t : T} {x y : Value} (h : TV w ok t x) (hs : t.sc = some y) : x = y := by
  cases t <;> simp [T.sc] at hs
  · subst hs; exact TV_int h
  · subst hs; exact TV_bool h
  · subst hs; exact TV_str h
  · subst hs; exact TV_flt h

theorem V.sc_spec {v : V} {x y : Value} (h : VV U κ s w v x) (hs : v.sc = some y) : x = y := by
  cases v <;> simp [V.sc] at hs
  · exact T.sc_spec (VV_p h) hs
  · subst hs; exact VV_rb h

theorem scT_spec {x : Value} {t : T} (h : scT x = some t) : TV w ok t x := by
  cases x <;> simp [scT] at h <;> subst h
  · exact .of_cells (.bool _) rfl
  · exact .of_cells (.int _ _) rfl
  · exact .of_cells (.flt _ _) rfl
  · exact .of_cells (.str _) rfl

theorem calm_run {α : Type} : ∀ (e : Sem α) (a : α), calm P e = some a → ∀ w, e.run P w = .ok a w
  | .pure b, a, h, w => by simp [calm] at h; subst h; rfl
  | .program k, a, h, w => by simp only [calm] at h; simp only [Sem.run]; exact calm_run (k P) a h w
  | .mark _ k, a, h, w => by simp only [calm] at h; simp only [Sem.run]; exact calm_run k a h w
  | .load .., _, h, _ => by simp [calm] at h
  | .store .., _, h, _ => by simp [calm] at h
  | .new .., _, h, _ => by simp [calm] at h
  | .shape .., _, h, _ => by simp [calm] at h
  | .freeze .., _, h, _ => by simp [calm] at h
  | .frozen .., _, h, _ => by simp [calm] at h
  | .getObj .., _, h, _ => by simp [calm] at h
  | .setObj .., _, h, _ => by simp [calm] at h
  | .choose .., _, h, _ => by simp [calm] at h
  | .sys .., _, h, _ => by simp [calm] at h
  | .halt _, _, h, _ => by simp [calm] at h

theorem tyAg_spec {t : TypeId} {b : Bool} (h : tyAg P t = some b) : ∃ d, P.underlying t = some d ∧ (b = true ↔ ((∃ fs, d = .struct fs) ∨ ∃ n e, d = .array n e)) := by
  unfold tyAg at h
  split at h
  · rename_i fs e; injection h with h; exact ⟨_, e, by subst h; simp⟩
  · rename_i n el e; injection h with h; exact ⟨_, e, by subst h; simp⟩
  · rename_i d h1 h2 e; injection h with h; refine ⟨_, e, ?_⟩; subst h; simp only [Bool.false_eq_true, false_iff]; rintro (⟨fs, rfl⟩ | ⟨n, el, rfl⟩); exact h1 _ rfl; exact h2 _ _ rfl
  · cases h

theorem nilS_spec {e : TypeId} {t : T} (h : nilS P e = some t) : TV w ok t (.slice none 0 0) ∧ t.isAgg = false := by
  unfold nilS at h
  split at h
  · injection h with h; subst h; exact ⟨.of_cells .blnil rfl, rfl⟩
  · simp only [Option.map_eq_some_iff] at h
    obtain ⟨n, _, rfl⟩ := h
    exact ⟨.of_cells .lstnil rfl, rfl⟩

theorem constV_spec {ty : TypeId} {c : Value} {v : V} (h : constV P ty c = some v) : VV U κ s w v c ∧ okPart v = true := by
  unfold constV at h
  split at h
  · injection h with h; subst h; exact ⟨VV_of1 (VV1_of_cell (.rb _) rfl), rfl⟩
  · injection h with h; subst h; exact ⟨VV_of (.of_cells (.int _ _) rfl), rfl⟩
  · injection h with h; subst h; exact ⟨VV_of (.of_cells (.str _) rfl), rfl⟩
  · injection h with h; subst h; exact ⟨VV_of (.of_cells (.flt _ _) rfl), rfl⟩
  · injection h with h; subst h; exact ⟨VV_of (.of_cells .nilP rfl), rfl⟩
  · injection h with h; subst h; exact ⟨VV_of (.of_cells .nilM rfl), rfl⟩
  · injection h with h; subst h; exact ⟨VV_of (.of_cells .nilF rfl), rfl⟩
  · injection h with h; subst h; exact ⟨VV_of (.of_cells .nilI rfl), rfl⟩
  · split at h
    · simp only [Option.map_eq_some_iff] at h
      obtain ⟨t, ht, rfl⟩ := h
      exact ⟨VV_of (nilS_spec ht).1, rfl⟩
    · cases h
  · cases h

/-- The guard under which an operation runs. -/
def GuardOk (a : Act) (g : Option (Nat × Bool)) : Prop := ∀ d want, g = some (d, want) → a.tmps[d]? = some (.bool want)

theorem evalO_spec {st : St} {a : Act} (h : Rel U κ st a w) {g : Option (Nat × Bool)} (hg : GuardOk a g) {ty : TypeId} {x : Operand} {v : V} (he : evalO P st.t g ty x = some v) : VV U κ st.s w v (a.eval x) := by
  cases x with
  | tmp x =>
    simp only [evalO] at he
    split at he
    · rename_i d want u hget
      split at he
      · rename_i d' want' 
        split at he
        · rename_i hc
          simp only [Bool.and_eq_true, beq_iff_eq] at hc
          injection he with he; subst he
          have hs := h.slot _ _ hget
          obtain ⟨y, b, c⟩ := hs (by rw [hc.1, hc.2]; exact hg _ _ rfl)
          simpa [Act.eval, Array.getD_eq_getD_getElem?, b] using c
        · cases he
      · cases he
    · cases he
    · rename_i hn1 hn2
      obtain ⟨y, b, c⟩ := h.getSlot he (fun d want u e => hn1 d want u (by rw [he, e])) (fun e => hn2 (by rw [he, e]))
      simpa [Act.eval, Array.getD_eq_getD_getElem?, b] using c
  | const c => exact (constV_spec he).1
  | func f => simp only [evalO, Option.some.injEq] at he; subst he; exact VV_of (.of_cells (.clo (cs := []) .nil (by simp)) rfl)
  | global g =>
    simp only [evalO, Option.map_eq_some_iff] at he
    obtain ⟨t, e, rfl⟩ := he
    exact VV_of (.of_cells (h.store.glob g t (lookG_mem e)) rfl)

theorem evalOs_spec {st : St} {a : Act} (h : Rel U κ st a w) {g : Option (Nat × Bool)} (hg : GuardOk a g) : ∀ {tys : List TypeId} {xs : List Operand} {vs : List V}, evalOs P st.t g tys xs = some vs → F2 (VV U κ st.s w) vs (xs.map a.eval)
  | _, [], vs, he => by simp [evalOs] at he; subst he; exact .nil
  | tys, x :: xs, vs, he => by
    simp only [evalOs] at he
    split at he
    · rename_i v vs' e1 e2
      injection he with he; subst he
      exact .cons (evalO_spec h hg e1) (evalOs_spec h hg e2)
    · cases he

mutual
theorem V.toT_spec : ∀ {v : V} {t : T} {cs : List Value}, v.toT = some t → Vc U κ s w v cs → Tc w (okOf U κ) t cs ∧ t.isAgg = v.isAgg
  | .p t, _, cs, h, hv => by simp [V.toT] at h; subst h; cases hv with | p h => exact ⟨h, rfl⟩
  | .rb b, _, cs, h, hv => by simp [V.toT] at h; subst h; cases hv; exact ⟨.bool b, rfl⟩
  | .row _ _ (.lst x e ts), _, cs, h, hv => by simp [V.toT] at h; subst h; cases hv with | row h _ _ _ => exact ⟨h, rfl⟩
  | .row _ _ (.bl x bs), _, cs, h, hv => by simp [V.toT] at h; subst h; cases hv with | row h _ _ _ => exact ⟨h, rfl⟩
  | .agg vs, t, cs, h, hv => by
    simp only [V.toT] at h
    split at h
    · rename_i ts e
      injection h with h; subst h
      cases hv with | agg hv => exact ⟨.agg (V.toTs_spec e hv).1, rfl⟩
    · cases h
  | .clo f vs, t, cs, h, hv => by
    simp only [V.toT] at h
    split at h
    · rename_i ts e
      injection h with h; subst h
      cases hv with
      | clo hv hn =>
        obtain ⟨a, b⟩ := V.toTs_spec e hv
        exact ⟨.clo a (b hn), rfl⟩
    · cases h
theorem V.toTs_spec : ∀ {vs : List V} {ts : List T} {cs : List Value}, V.toTs vs = some ts → Vcs U κ s w vs cs → Tcs w (okOf U κ) ts cs ∧ ((∀ v ∈ vs, v.isAgg = false) → ∀ t ∈ ts, t.isAgg = false)
  | [], _, _, h, hv => by simp [V.toTs] at h; subst h; cases hv; exact ⟨.nil, by simp⟩
  | v :: vs, ts, cs, h, hv => by
    simp only [V.toTs] at h
    split at h
    · rename_i t ts' e1 e2
      injection h with h; subst h
      cases hv with
      | cons h1 h2 =>
        obtain ⟨a, b⟩ := V.toT_spec e1 h1
        obtain ⟨c, d⟩ := V.toTs_spec e2 h2
        refine ⟨.cons a c, fun hn t' ht' => ?_⟩
        rcases List.mem_cons.1 ht' with rfl | ht'
        · rw [b]; exact hn v (by simp)
        · exact d (fun v' hv' => hn v' (by simp [hv'])) t' ht'
    · cases h
end

theorem toT_VV {v : V} {t : T} {x : Value} (h : v.toT = some t) (hv : VV U κ s w v x) : TV w (okOf U κ) t x := by
  have hv1 : VV1 U κ s w v x := VV_one hv (by cases v <;> first | rfl | simp [V.toT] at h)
  obtain ⟨a, b⟩ := V.toT_spec h hv1.1
  exact ⟨a, by rw [hv1.2, b]⟩

theorem toTs_F2 : ∀ {vs : List V} {ts : List T} {xs : List Value}, V.toTs vs = some ts → F2 (VV U κ s w) vs xs → F2 (TV w (okOf U κ)) ts xs
  | [], _, _, h, hv => by simp [V.toTs] at h; subst h; cases hv; exact .nil
  | v :: vs, ts, _, h, hv => by
    simp only [V.toTs] at h
    split at h
    · rename_i t ts' e1 e2
      injection h with h; subst h
      cases hv with | cons h1 h2 => exact .cons (toT_VV e1 h1) (toTs_F2 e2 h2)
    · cases h

/-- What an operation comes to. -/
def OpOk (P : Program) (U : Nat → Nat → Prop) (κ : List Place) (s : List SObj) (a : Act) (w : World) (o : Oper) (q : OpR) : Prop :=
  ∃ nx w' κ', (execOp a.eval o).run P w = .ok nx w' ∧ ((∃ x, nx = .value x ∧ VV U κ' q.s w' q.v x) ∨ (nx = .skip ∧ q.v = .bad)) ∧ RelS U κ' q.s w' ∧ Step U κ w κ' w' ∧ Ext κ s κ' q.s

theorem OpOk.still {a : Act} {o : Oper} {v : V} {x : Value} {obs : List Prop} (hs : RelS U κ s w) (hr : (execOp a.eval o).run P w = .ok (.value x) w) (hv : VV U κ s w v x) : OpOk P U κ s a w o ⟨v, s, obs⟩ :=
  ⟨_, w, κ, hr, .inl ⟨x, rfl, hv⟩, hs, .refl _ _ _, .refl _ _⟩

theorem scOp_run {a : Act} {o : Oper} {ρ : Operand → Option V} {v : V} (h : scOp P ρ o = some v) (hns : ∀ cs b, o.op ≠ .select cs b) (hρ : ∀ x ∈ o.op.operands, ∃ u y, ρ x = some u ∧ u.sc = some y ∧ y = a.eval x) :
    ∃ x, (execOp a.eval o).run P w = .ok (.value x) w ∧ VV U κ s w v x := by
  unfold scOp at h
  split at h
  · rename_i r e
    simp only [Option.map_eq_some_iff] at h
    obtain ⟨t, ht, rfl⟩ := h
    rw [execOp_congr (ρ' := a.eval) o hns (fun x hx => by obtain ⟨u, y, h1, h2, h3⟩ := hρ x hx; simp [h1, h2, h3, scOf])] at e
    exact ⟨r, calm_run _ _ e w, VV_of (scT_spec ht)⟩
  · cases h

theorem run_v (e : Sem Value) {x : Value} {w' : World} (h : e.run P w = .ok x w') : (do pure (.value (← e)) : Sem Next).run P w = .ok (.value x) w' := by
  simp only [Sem.run_bind, h, Result.andThen]; rfl

theorem run_u (e : Sem Unit) {w' : World} (h : e.run P w = .ok () w') : (do e; pure .skip : Sem Next).run P w = .ok .skip w' := by
  simp only [Sem.run_bind, h, Result.andThen]; rfl

end Go.HM
