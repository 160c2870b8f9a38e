/- HM, part Q: every operation of the evaluator's is sound. -/
import Derived.Test.YtknieknidaikmaaHmP
namespace Go.HM

variable {P : Program} {U : Nat → Nat → Prop} {κ : List Place} {s : List SObj} {w : World} {ok : Nat → Nat → Prop}

theorem V.sc_eval {st : St} {a : Act} (h : Rel U κ st a w) {g : Option (Nat × Bool)} (hg : GuardOk a g) {ty : TypeId} {x : Operand} {v : V} (he : evalO P st.t g ty x = some v) (hs : v.sc.isSome = true) : ∃ u y, evalO P st.t g ty x = some u ∧ u.sc = some y ∧ y = a.eval x := by
  obtain ⟨y, hy⟩ := Option.isSome_iff_exists.1 hs
  exact ⟨v, y, he, hy, (V.sc_spec (evalO_spec h hg he) hy).symm⟩

theorem scalarOperands_spec {st : St} {a : Act} (h : Rel U κ st a w) {g : Option (Nat × Bool)} (hg : GuardOk a g) {ty : TypeId} : ∀ {xs : List Operand}, scalarOperands (evalO P st.t g ty) xs = true → ∀ x ∈ xs, ∃ u y, evalO P st.t g ty x = some u ∧ u.sc = some y ∧ y = a.eval x
  | [], _, x, hx => by simp at hx
  | x0 :: xs, hs, x, hx => by
    simp only [scalarOperands, Bool.and_eq_true] at hs
    rcases List.mem_cons.1 hx with rfl | hx
    · have h1 := hs.1
      split at h1
      · rename_i v e; exact V.sc_eval h hg e h1
      · cases h1
    · exact scalarOperands_spec h hg hs.2 x hx

theorem sc_ok {st : St} {a : Act} (h : Rel U κ st a w) {g : Option (Nat × Bool)} {o : Oper} {ty : TypeId} {q : OpR} {s0 : List SObj} (hq : (scOp P (evalO P st.t g ty) o).map (fun v => (⟨v, s0, []⟩ : OpR)) = some q) (hns : ∀ cs b, o.op ≠ .select cs b)
    (hρ : ∀ x ∈ o.op.operands, ∃ u y, evalO P st.t g ty x = some u ∧ u.sc = some y ∧ y = a.eval x) : OpOk P U κ st.s a w o ⟨q.v, st.s, q.obs⟩ := by
  simp only [Option.map_eq_some_iff] at hq
  obtain ⟨v, hv, rfl⟩ := hq
  obtain ⟨x, hr, hvv⟩ := scOp_run (U := U) (κ := κ) (s := st.s) (w := w) hv hns hρ
  exact OpOk.still h.store hr hvv

theorem binEq_ok {st : St} {a : Act} (h : Rel U κ st a w) {g : Option (Nat × Bool)} (hg : GuardOk a g) {o : Oper} {op : BinOp} {xT yT : TypeId} {x y : Operand} (ho : o.op = .binOp op xT x y yT) {xv yv : V} (hx : evalO P st.t g xT x = some xv) (hy : evalO P st.t g xT y = some yv) {tx ty : T}
    (h1 : xv.toT = some tx) (h2 : yv.toT = some ty) (hag : tx.isAgg = true) (hag2 : ty.isAgg = true) (hf : (fits P 10 xT tx && fits P 10 xT ty && !P.eqGuardType P.depth xT) = true) (hop : (op = .eql) ∨ op = .neq) :
    OpOk P U κ st.s a w o ⟨.p (.bool (if op = .eql then T.eqB tx ty else !T.eqB tx ty)), st.s, []⟩ := by
  simp only [Bool.and_eq_true, Bool.not_eq_true'] at hf
  obtain ⟨⟨f1, f2⟩, f3⟩ := hf
  have e1 := toT_VV h1 (evalO_spec h hg hx)
  have e2 := toT_VV h2 (evalO_spec h hg hy)
  have q1 := e1.2
  have q2 := e2.2
  rw [hag] at q1
  rw [hag2] at q2
  generalize hvx : a.eval x = vx at e1 q1
  generalize hvy : a.eval y = vy at e2 q2
  cases vx <;> simp [isAggV] at q1
  cases vy <;> simp [isAggV] at q2
  rename_i cx cy
  have hE := eq_ok (D := 10000) (by omega) f1 f2 e1 e2
  rcases hop with rfl | rfl
  · refine OpOk.still h.store (x := .bool (T.eqB tx ty)) ?_ (by simpa using VV_mkBool _)
    unfold execOp
    simp only [ho, hvx, hvy]
    refine run_v _ ?_
    rw [Sem.run_bind, run_eqGuard_agg w .eql xT x y cx cy f3]
    simp only [Result.andThen_ok, run_eql_struct, hE]
  · refine OpOk.still h.store (x := .bool (!T.eqB tx ty)) ?_ (by simpa using VV_mkBool _)
    unfold execOp
    simp only [ho, hvx, hvy]
    refine run_v _ ?_
    rw [Sem.run_bind, run_eqGuard_agg w .neq xT x y cx cy f3]
    simp only [Result.andThen_ok, run_neq_struct, hE]

theorem eval_len {a : Act} {o : Oper} {c : Call} {x : Operand} {t : TypeId} (ho : o.op = .call c) (hc : c.callee = .builtin .len) (ha : c.args.toList = [x]) (ht : c.argTypes.toList = [t]) {v : Value}
    (h : (Builtin.len_ #[t] o.type #[a.eval x]).run P w = .ok v w) : (execOp a.eval o).run P w = .ok (.value v) w := by
  have ha' : c.args = #[x] := by rw [← ha]
  have ht' : c.argTypes = #[t] := by rw [← ht]
  unfold execOp
  simp only [ho]
  simp only [resolve, hc, ha', ht', List.map_toArray, List.map_cons, List.map_nil, Sem.run_bind, Sem.run_pure, Result.andThen_ok, invoke, builtin]
  simp [h, Result.andThen]

theorem len_ok {st : St} {a : Act} (h : Rel U κ st a w) {o : Oper} {c : Call} {x : Operand} {t e : TypeId} (ho : o.op = .call c) (hc : c.callee = .builtin .len) (ha : c.args.toList = [x]) (ht : c.argTypes.toList = [t]) (hu : P.underlying t = some (.slice e)) {xv : V} {u : T} {n : Nat}
    (hx : VV U κ st.s w xv (a.eval x)) (hs : xv.slice? = some u) (hl : u.len = some n) : OpOk P U κ st.s a w o ⟨.p (.int .i64 n), st.s, []⟩ := by
  have hx1 := slice?_spec hs hx
  have hv : ∃ base cap, a.eval x = .slice base n cap := by
    cases u with
    | bl xf bs =>
      simp only [T.len, Option.some.injEq] at hl
      have h1 := hx1.cell rfl
      generalize a.eval x = vx at h1
      subst hl
      cases h1 with
      | blnil => exact ⟨_, _, rfl⟩
      | bl q1 _ _ _ => exact ⟨_, _, by rw [q1]⟩
    | lst xf e ts =>
      simp only [T.len, Option.some.injEq] at hl
      have h1 := hx1.cell rfl
      generalize a.eval x = vx at h1
      subst hl
      cases h1 with
      | lstnil => exact ⟨_, _, rfl⟩
      | lst q1 _ _ _ _ _ => exact ⟨_, _, by rw [q1]⟩
    | _ => simp [T.len] at hl
  obtain ⟨base, cap, hv⟩ := hv
  refine OpOk.still h.store (x := goInt n) ?_ (VV_of (.of_cells (.int _ _) rfl))
  exact eval_len ho hc ha ht (by rw [hv]; simp [Builtin.len_, run_under hu])

theorem lenArr_ok {st : St} {a : Act} (h : Rel U κ st a w) {o : Oper} {c : Call} {x : Operand} {t e : TypeId} {n : Nat} (ho : o.op = .call c) (hc : c.callee = .builtin .len) (ha : c.args.toList = [x]) (ht : c.argTypes.toList = [t]) (hu : P.underlying t = some (.array n e)) :
    OpOk P U κ st.s a w o ⟨.p (.int .i64 n), st.s, []⟩ := by
  refine OpOk.still h.store (x := goInt n) ?_ (VV_of (.of_cells (.int _ _) rfl))
  exact eval_len ho hc ha ht (by simp [Builtin.len_, run_under hu])

theorem intNat_spec {i : Int} {n : Nat} (h : intNat i = some n) : i = n := by
  cases i <;> simp [intNat] at h; subst h; rfl

theorem kind_of_app {t u t' : T} {e : Nat} (h : appT t u = some t') (hk : kindE e t) : kindE e u := by
  cases t with
  | bl x bs => cases u with
    | bl x' ds => exact hk
    | _ => simp [appT] at h
  | lst x e1 ts => cases u with
    | lst x' e2 us =>
      simp only [appT] at h
      split at h
      · rename_i hc; have : e1 = e2 := by simpa using hc
        simp only [kindE] at hk ⊢; omega
      · cases h
    | _ => simp [appT] at h
  | _ => exact hk.elim

theorem toArray_of {α : Type} {l : Array α} {m : List α} (h : l.toList = m) : l = m.toArray := by rw [← h]

theorem appV_ok {st : St} {a : Act} (h : Rel U κ st a w) {o : Oper} {c : Call} {x y : Operand} {t e : TypeId} (ho : o.op = .call c) (hc : c.callee = .builtin .append) (ha : c.args = #[x, y]) (ht : c.argTypes = #[t, t])
    (hu : P.underlying t = some (.slice e)) {xv yv : V} (hx : VV U κ st.s w xv (a.eval x)) (hy : VV U κ st.s w yv (a.eval y)) {q : OpR} (hq : appV P st.s e xv yv = some q) (hobs : ∀ p ∈ q.obs, p) : OpOk P U κ st.s a w o q := by
  unfold appV at hq
  split at hq
  · rename_i n i u hn hi hyu
    split at hq
    · rename_i hcond
      simp only [Bool.and_eq_true, Nat.ble_eq, Nat.blt_eq] at hcond
      obtain ⟨⟨c1, c2⟩, c3⟩ := hcond
      obtain ⟨z, hz⟩ := Option.isSome_iff_exists.1 c2
      split at hq
      · rename_i id ver tx
        split at hq
        · rename_i cur n' t' p r e1 e2 e3 e4
          split at hq
          · rename_i hcc
            simp only [Bool.and_eq_true, beq_iff_eq] at hcc
            obtain ⟨⟨rfl, rfl⟩, hkb⟩ := hcc
            injection hq with hq; subst hq
            have hsum : p + r ≤ 4294967296 := hobs _ (by simp)
            have hk : kindE n tx := by
              cases tx with
              | lst x0 e0 ts => simpa [kindB, kindE] using hkb
              | bl x0 bs => simpa [kindB, kindE] using hkb
              | _ => simp [kindB] at hkb
            exact append_row h ho hc ha ht hu hn hi hz c1 c3 e1 hx hy hyu e2 e3 e4 hk (kind_of_app e2 hk) hsum
          · cases hq
        · cases hq
      · rename_i n' ts
        split at hq
        · rename_i hnn
          have hnn' : n = n' := by simpa using hnn
          subst hnn'
          split at hq
          · rename_i t' b e2 e4
            injection hq with hq; subst hq
            have hsum : ts.length + b ≤ 4294967296 := hobs _ (by simp)
            exact append_full h ho hc ha ht hu hn hi hz c1 c3 hx rfl hy hyu e2 rfl e4 rfl (kind_of_app e2 rfl) hsum
          · cases hq
        · cases hq
      · rename_i bs
        split at hq
        · rename_i t' b e2 e4
          split at hq
          · rename_i hnn
            have hnn' : n = 1 := by simpa using hnn
            subst hnn'
            injection hq with hq; subst hq
            have hsum : bs.length + b ≤ 4294967296 := hobs _ (by simp)
            exact append_full h ho hc ha ht hu hn hi hz c1 c3 hx rfl hy hyu e2 rfl e4 rfl (kind_of_app e2 rfl) hsum
          · cases hq
        · cases hq
      · cases hq
    · cases hq
  · cases hq


theorem opmap {α : Type} {v : Option α} {f : α → OpR} {q : OpR} (h : v.map f = some q) : ∃ x, v = some x ∧ f x = q := by simpa using h

theorem plainOr {v : V} (h : okPart v = true) : okPart v = true := h

/-- EVERY OPERATION. -/
theorem hop0_sound {st : St} {a : Act} (h : Rel U κ st a w) {g : Option (Nat × Bool)} (hg : GuardOk a g) {o : Oper} {it : Option Item} {q : OpR} {s0 : List SObj} (hs0 : touch o.op ≠ 0 → s0 = st.s) (hq : hop0 P st.t s0 g o it = some q) (hobs : ∀ p ∈ q.obs, p) :
    OpOk P U κ st.s a w o ⟨q.v, match touch o.op with | 0 => st.s | _ => q.s, q.obs⟩ := by
  unfold hop0 at hq
  simp only at hq
  split at hq
  · rename_i x ho
    simp only [ho] at hs0 ⊢
    simp only [touch] at hs0 ⊢
    obtain ⟨v, hv, rfl⟩ := opmap hq
    exact move_ok h (.inl ho) (evalO_spec h hg hv)
  · rename_i x ho
    simp only [ho] at hs0 ⊢
    simp only [touch] at hs0 ⊢
    obtain ⟨v, hv, rfl⟩ := opmap hq
    exact move_ok h (.inr ho) (evalO_spec h hg hv)
  · rename_i c x y ho
    simp only [ho] at hs0 ⊢
    simp only [touch] at hs0 ⊢
    split at hq
    · rename_i cv d hc hd
      obtain ⟨v, hv, rfl⟩ := opmap hq
      exact pick_ok h hg ho hc hd hv
    · cases hq
  · rename_i e ho
    simp only [ho] at hs0 ⊢
    simp only [touch] at hs0 ⊢
    obtain rfl := hs0 (by simp)
    obtain ⟨z, hz, rfl⟩ := opmap hq
    exact alloc_ok h ho hz
  · rename_i e x ho
    simp only [ho] at hs0 ⊢
    simp only [touch] at hs0 ⊢
    obtain rfl := hs0 (by simp)
    split at hq
    · rename_i v hv
      split at hq
      · rename_i hp
        injection hq with hq; subst hq
        exact box_ok h ho (evalO_spec h hg hv) hp
      · cases hq
    · cases hq
  · rename_i ty parts ho
    simp only [ho] at hs0 ⊢
    simp only [touch] at hs0 ⊢
    obtain ⟨v, hv, rfl⟩ := opmap hq
    exact build_ok h hg ho hv
  · rename_i ty len parts ho
    simp only [ho] at hs0 ⊢
    simp only [touch] at hs0 ⊢
    obtain ⟨v, hv, rfl⟩ := opmap hq
    exact buildSlice_ok h hg ho hv
  · rename_i ty x ho
    simp only [ho] at hs0 ⊢
    simp only [touch] at hs0 ⊢
    obtain rfl := hs0 (by simp)
    split at hq
    · rename_i id off n ag e1 e2 e3
      split at hq
      · rename_i v hb
        obtain ⟨u, hu, rfl⟩ := opmap hq
        exact load_box h ho (evalO_spec h hg e1) e2 e3 hb hu
      · cases hq
    · rename_i t off n ag e1 e2 e3
      obtain ⟨u, hu, rfl⟩ := opmap hq
      simp only [Option.map_eq_some_iff] at hu
      obtain ⟨u', hu', rfl⟩ := hu
      exact load_rp h ho (evalO_spec h hg e1) e2 e3 hu'
    · cases hq
  · rename_i ty ax x ho
    simp only [ho] at hs0 ⊢
    simp only [touch] at hs0 ⊢
    obtain rfl := hs0 (by simp)
    split at hq
    · rename_i id off u e1 e2
      split at hq
      · rename_i v hb
        split at hq
        · rename_i hc
          simp only [Bool.and_eq_true, beq_iff_eq] at hc
          split at hq
          · rename_i v' hset
            injection hq with hq; subst hq
            exact store_ok h ho (evalO_spec h hg e1) (evalO_spec h hg e2) hc.1 hc.2 hb hset
          · cases hq
        · cases hq
      · cases hq
    · cases hq
  · rename_i x ho
    simp only [ho] at hs0 ⊢
    simp only [touch] at hs0 ⊢
    split at hq <;> first
      | (rename_i e1; injection hq with hq; subst hq; exact nilCheck_ok h ho (evalO_spec h hg e1) (by first | exact .inl ⟨_, _, rfl⟩ | exact .inr (.inl ⟨_, _, rfl⟩) | exact .inr (.inr (.inl ⟨_, _, rfl⟩)) | exact .inr (.inr (.inr ⟨_, _, rfl⟩))))
      | cases hq
  · rename_i ty x f ho
    simp only [ho] at hs0 ⊢
    simp only [touch] at hs0 ⊢
    split at hq
    · rename_i fs v e1 e2
      split at hq
      · rename_i fd e3
        split at hq
        · rename_i n id off e4
          injection hq with hq; subst hq
          exact fieldAddr_ptr h ho e1 e3 e4 (evalO_spec h hg e2)
        · rename_i n u off e4
          injection hq with hq; subst hq
          exact fieldAddr_rp h ho e1 e3 e4 (evalO_spec h hg e2)
        · cases hq
      · cases hq
    · cases hq
  · rename_i ty x ix ho
    simp only [ho] at hs0 ⊢
    simp only [touch] at hs0 ⊢
    split at hq
    · rename_i e xv k i e1 e2 e3
      split at hq
      · rename_i ts n e4 e5
        simp only [Option.bind_eq_some_iff] at e4
        obtain ⟨sl, s1, s2⟩ := e4
        split at hq
        · rename_i u
          split at hq
          · rename_i hu
            injection hq with hq; subst hq
            exact indexAddr_sl h ho e1 e5 (evalO_spec h hg e2) (evalO_spec h hg e3) s1 s2 (by simpa using hu) (hobs _ (by simp))
          · cases hq
        · split at hq
          · rename_i u e6
            simp only [Option.bind_eq_some_iff] at e6
            obtain ⟨j, j1, j2⟩ := e6
            split at hq
            · rename_i hu
              injection hq with hq; subst hq
              have := intNat_spec j1
              exact indexAddr_sl h ho e1 e5 (evalO_spec h hg e2) (evalO_spec h hg e3) s1 s2 (by simpa using hu) ⟨by omega, by rw [this]; simpa using j2⟩
            · cases hq
          · cases hq
      · cases hq
    · rename_i len e xv k i e1 e2 e3
      split at hq
      · rename_i j n id off e4 e5
        split at hq
        · rename_i hlt
          injection hq with hq; subst hq
          exact indexAddr_ptr h ho e1 e5 (evalO_spec h hg e2) (evalO_spec h hg e3) (intNat_spec e4) (by simpa [Nat.blt_eq] using hlt)
        · cases hq
      · rename_i j n u off e4 e5
        split at hq
        · rename_i hlt
          injection hq with hq; subst hq
          exact indexAddr_rp h ho e1 e5 (evalO_spec h hg e2) (evalO_spec h hg e3) (intNat_spec e4) (by simpa [Nat.blt_eq] using hlt)
        · cases hq
      · cases hq
    · cases hq
  · rename_i ty x f ho
    simp only [ho] at hs0 ⊢
    simp only [touch] at hs0 ⊢
    split at hq
    · rename_i fs v e1 e2
      split at hq
      · rename_i fd e3
        split at hq
        · rename_i n ag e4 e5
          split at hq
          · rename_i hag
            obtain ⟨u, hu, rfl⟩ := opmap hq
            exact field_ok h ho e1 e3 e4 e5 (evalO_spec h hg e2) hag hu
          · cases hq
        · cases hq
      · cases hq
    · cases hq
  · rename_i x i ho
    simp only [ho] at hs0 ⊢
    simp only [touch] at hs0 ⊢
    split at hq
    · rename_i vs e1
      obtain ⟨u, hu, rfl⟩ := opmap hq
      exact extract_ok h ho (evalO_spec h hg e1) hu
    · cases hq
  · rename_i f first caps ho
    simp only [ho] at hs0 ⊢
    simp only [touch] at hs0 ⊢
    split at hq
    · rename_i hf
      split at hq
      · rename_i vs e1
        split at hq
        · rename_i hp
          injection hq with hq; subst hq
          exact makeFunc_ok h ho (by simpa using hf) hg e1 hp
        · cases hq
      · cases hq
    · cases hq
  · rename_i op xT x y yT ho
    simp only [ho] at hs0 ⊢
    simp only [touch] at hs0 ⊢
    split at hq
    · rename_i xv yv e1 e2
      have hsc : (if (xv.sc.isSome && yv.sc.isSome) = true then (scOp P (evalO P st.t g xT) o).map (fun v => (⟨v, s0, []⟩ : OpR)) else none) = some q → OpOk P U κ st.s a w o ⟨q.v, st.s, q.obs⟩ := by
        intro hq
        split at hq
        · rename_i hc
          simp only [Bool.and_eq_true] at hc
          refine sc_ok h hq (by rw [ho]; intro _ _ hk; cases hk) (fun z hz => ?_)
          rw [ho] at hz
          simp [Op.operands] at hz
          rcases hz with rfl | rfl
          · exact V.sc_eval h hg e1 hc.1
          · exact V.sc_eval h hg e2 hc.2
        · cases hq
      split at hq
      · rename_i ta tb h1 h2
        split at hq
        · rename_i hf
          simp only [Option.map_some, Option.some.injEq] at hq; subst hq; try simp only [ho, touch]
          exact binEq_ok h hg ho e1 e2 h1 h2 rfl rfl hf (.inl rfl)
        · cases hq
      · rename_i ta tb h1 h2
        split at hq
        · rename_i hf
          simp only [Option.map_some, Option.some.injEq] at hq; subst hq; try simp only [ho, touch]
          exact binEq_ok h hg ho e1 e2 h1 h2 rfl rfl hf (.inr rfl)
        · cases hq
      · rename_i m ta n tb h1 h2
        split at hq
        · rename_i hf
          simp only [Option.map_some, Option.some.injEq] at hq; subst hq; try simp only [ho, touch]
          exact binEq_ok h hg ho e1 e2 h1 h2 rfl rfl hf (.inl rfl)
        · cases hq
      · rename_i m ta n tb h1 h2
        split at hq
        · rename_i hf
          simp only [Option.map_some, Option.some.injEq] at hq; subst hq; try simp only [ho, touch]
          exact binEq_ok h hg ho e1 e2 h1 h2 rfl rfl hf (.inr rfl)
        · cases hq
      · exact hsc hq
    · cases hq
  · rename_i op ty x ho
    simp only [ho] at hs0 ⊢
    simp only [touch] at hs0 ⊢
    split at hq
    · rename_i b e1
      split at hq
      · injection hq with hq; subst hq
        have := VV_rb (evalO_spec h hg e1)
        refine OpOk.still h.store (x := .bool (!b)) ?_ (VV_of1 (VV1_of_cell (.rb _) rfl))
        unfold execOp
        simp only [ho, this]
        exact run_v _ rfl
      · cases hq
    · rename_i xv e1 e2
      split at hq
      · rename_i hc
        refine sc_ok h hq (by rw [ho]; intro _ _ hk; cases hk) (fun z hz => ?_)
        rw [ho] at hz
        simp [Op.operands] at hz
        subst hz
        exact V.sc_eval h hg e2 hc
      · cases hq
    · cases hq
  · rename_i src dst x ho
    simp only [ho] at hs0 ⊢
    simp only [touch] at hs0 ⊢
    split at hq
    · rename_i xv e1
      split at hq
      · rename_i hc
        refine sc_ok h hq (by rw [ho]; intro _ _ hk; cases hk) (fun z hz => ?_)
        rw [ho] at hz
        simp [Op.operands] at hz
        subst hz
        exact V.sc_eval h hg e1 hc
      · cases hq
    · cases hq
  · rename_i c ho
    simp only [ho] at hs0 ⊢
    simp only [touch] at hs0 ⊢
    split at hq
    · rename_i hc
      simp only [hc] at hs0 ⊢
      split at hq
      · rename_i x ty ha ht
        split at hq
        · rename_i e xv e1 e2
          split at hq
          · rename_i n e3
            simp only [Option.bind_eq_some_iff] at e3
            obtain ⟨u, u1, u2⟩ := e3
            injection hq with hq; subst hq
            exact len_ok h ho hc ha ht e1 (evalO_spec h hg e2) u1 u2
          · cases hq
        · rename_i n e xv e1 e2
          injection hq with hq; subst hq
          exact lenArr_ok h ho hc ha ht e1
        · rename_i xv e1 e2
          split at hq
          · rename_i hcs
            refine sc_ok h hq (by rw [ho]; intro _ _ hk; cases hk) (fun z hz => ?_)
            rw [ho] at hz
            have ha' := toArray_of ha
            simp [Op.operands, Call.operands, hc, ha'] at hz
            subst hz
            exact V.sc_eval h hg e2 hcs
          · cases hq
        · cases hq
      · cases hq
    · rename_i hc
      simp only [hc] at hs0 ⊢
      split at hq
      · rename_i x y tx ty ha ht
        split at hq
        · rename_i e e' xv yv e1 e2 e3 e4
          split at hq
          · rename_i htt
            have htt' : tx = ty := by simpa using htt
            subst htt'
            obtain rfl := hs0 (by simp)
            exact appV_ok h ho hc (toArray_of ha) (toArray_of ht) e1 (evalO_spec h hg e3) (evalO_spec h hg e4) hq hobs
          · cases hq
        · cases hq
      · cases hq
    · rename_i hc
      simp only [hc] at hs0 ⊢
      split at hq
      · rename_i hs
        refine sc_ok h hq (by rw [ho]; intro _ _ hk; cases hk) (fun z hz => ?_)
        rw [ho] at hz
        simp [Op.operands, Call.operands, hc] at hz
        exact scalarOperands_spec h hg hs z (by simpa using hz)
      · cases hq
    · rename_i hc
      simp only [hc] at hs0 ⊢
      split at hq
      · rename_i hs
        refine sc_ok h hq (by rw [ho]; intro _ _ hk; cases hk) (fun z hz => ?_)
        rw [ho] at hz
        simp [Op.operands, Call.operands, hc] at hz
        exact scalarOperands_spec h hg hs z (by simpa using hz)
      · cases hq
    · cases hq
  · cases hq


theorem hop_sound {st : St} {a : Act} (h : Rel U κ st a w) {g : Option (Nat × Bool)} (hg : GuardOk a g) {o : Oper} {it : Option Item} {q : OpR} (hq : hop P st.t st.s g o it = some q) (hobs : ∀ p ∈ q.obs, p) : OpOk P U κ st.s a w o q := by
  unfold hop at hq
  split at hq
  · rename_i ht
    split at hq
    · rename_i q' e
      injection hq with hq; subst hq
      have := hop0_sound h hg (fun hne => absurd ht hne) e hobs
      rw [ht] at this
      exact this
    · cases hq
  · rename_i ht
    have := hop0_sound h hg (fun _ => rfl) hq hobs
    split at this
    · rename_i h0; exact absurd h0 ht
    · exact this

end Go.HM
