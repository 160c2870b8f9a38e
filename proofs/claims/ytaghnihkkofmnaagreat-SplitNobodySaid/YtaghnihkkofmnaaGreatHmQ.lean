/- HM, part Q: every operation of the evaluator's is sound. -/
import Derived.Test.YtaghnihkkofmnaaGreatHmPd
namespace Go.HM

variable {P : Program} {U : Nat → Nat → Prop} {κ : List Place} {s : List SObj} {w : World} {ok : Nat → Nat → Prop}

theorem V.sc_eval {st : St} {a : Act} (h : Rel U κ st a w) {g : Option (Nat × Bool)} (hg : GuardOk a g) {ty : TypeId} {x : Operand} {v : V} (he : evalO P st.t g ty x = some v) (hs : v.sc.isSome = true) : ∃ u y, evalO P st.t g ty x = some u ∧ u.sc = some y ∧ y = a.eval x := by
  obtain ⟨y, hy⟩ := Option.isSome_iff_exists.1 hs
  exact ⟨v, y, he, hy, (V.sc_spec (evalO_spec h hg he) hy).symm⟩

theorem scalarOperands_spec {st : St} {a : Act} (h : Rel U κ st a w) {g : Option (Nat × Bool)} (hg : GuardOk a g) {ty : TypeId} : ∀ {xs : List Operand}, scalarOperands (evalO P st.t g ty) xs = true → ∀ x ∈ xs, ∃ u y, evalO P st.t g ty x = some u ∧ u.sc = some y ∧ y = a.eval x
  | [], _, x, hx => by simp at hx
  | x0 :: xs, hs, x, hx => by
    simp only [scalarOperands, Bool.and_eq_true] at hs
    rcases List.mem_cons.1 hx with rfl | hx
    · have h1 := hs.1
      split at h1
      · rename_i v e; exact V.sc_eval h hg e h1
      · cases h1
    · exact scalarOperands_spec h hg hs.2 x hx

theorem sc_ok {st : St} {a : Act} (h : Rel U κ st a w) {g : Option (Nat × Bool)} {o : Oper} {ty : TypeId} {q : OpR} {s0 : List SObj} (hq : (scOp P (evalO P st.t g ty) o).map (fun v => (⟨v, s0, []⟩ : OpR)) = some q) (hns : ∀ cs b, o.op ≠ .select cs b)
    (hρ : ∀ x ∈ o.op.operands, ∃ u y, evalO P st.t g ty x = some u ∧ u.sc = some y ∧ y = a.eval x) : OpOk P U κ st.s a w o ⟨q.v, st.s, q.obs⟩ := by
  simp only [Option.map_eq_some_iff] at hq
  obtain ⟨v, hv, rfl⟩ := hq
  obtain ⟨x, hr, hvv⟩ := scOp_run (U := U) (κ := κ) (s := st.s) (w := w) hv hns hρ
  exact OpOk.still h.store hr hvv

theorem binEq_ok {st : St} {a : Act} (h : Rel U κ st a w) {g : Option (Nat × Bool)} (hg : GuardOk a g) {o : Oper} {op : BinOp} {xT yT : TypeId} {x y : Operand} (ho : o.op = .binOp op xT x y yT) {xv yv : V} (hx : evalO P st.t g xT x = some xv) (hy : evalO P st.t g xT y = some yv) {tx ty : T}
    (h1 : xv.toT = some tx) (h2 : yv.toT = some ty) (hag : tx.isAgg = true) (hag2 : ty.isAgg = true) (hf : (fits P 10 xT tx && fits P 10 xT ty && !P.eqGuardType P.depth xT) = true) (hop : (op = .eql) ∨ op = .neq) :
    OpOk P U κ st.s a w o ⟨.p (.bool (if op = .eql then T.eqB tx ty else !T.eqB tx ty)), st.s, []⟩ := by
  simp only [Bool.and_eq_true, Bool.not_eq_true'] at hf
  obtain ⟨⟨f1, f2⟩, f3⟩ := hf
  have e1 := toT_VV h1 (evalO_spec h hg hx)
  have e2 := toT_VV h2 (evalO_spec h hg hy)
  have q1 := e1.2
  have q2 := e2.2
  rw [hag] at q1
  rw [hag2] at q2
  generalize hvx : a.eval x = vx at e1 q1
  generalize hvy : a.eval y = vy at e2 q2
  cases vx <;> simp [isAggV] at q1
  cases vy <;> simp [isAggV] at q2
  rename_i cx cy
  have hE := eq_ok (D := 10000) (by omega) f1 f2 e1 e2
  rcases hop with rfl | rfl
  · refine OpOk.still h.store (x := .bool (T.eqB tx ty)) ?_ (by simpa using VV_mkBool _)
    unfold execOp
    simp only [ho, hvx, hvy]
    refine run_v _ ?_
    rw [Sem.run_bind, run_eqGuard_agg w .eql xT x y cx cy f3]
    simp only [Result.andThen_ok, run_eql_struct, hE]
  · refine OpOk.still h.store (x := .bool (!T.eqB tx ty)) ?_ (by simpa using VV_mkBool _)
    unfold execOp
    simp only [ho, hvx, hvy]
    refine run_v _ ?_
    rw [Sem.run_bind, run_eqGuard_agg w .neq xT x y cx cy f3]
    simp only [Result.andThen_ok, run_neq_struct, hE]

theorem eval_len {a : Act} {o : Oper} {c : Call} {x : Operand} {t : TypeId} (ho : o.op = .call c) (hc : c.callee = .builtin .len) (ha : c.args.toList = [x]) (ht : c.argTypes.toList = [t]) {v : Value}
    (h : (Builtin.len_ #[t] o.type #[a.eval x]).run P w = .ok v w) : (execOp a.eval o).run P w = .ok (.value v) w := by
  have ha' : c.args = #[x] := by rw [← ha]
  have ht' : c.argTypes = #[t] := by rw [← ht]
  unfold execOp
  simp only [ho]
  simp only [resolve, hc, ha', ht', List.map_toArray, List.map_cons, List.map_nil, Sem.run_bind, Sem.run_pure, Result.andThen_ok, invoke, builtin]
  simp [h, Result.andThen]

theorem len_ok {st : St} {a : Act} (h : Rel U κ st a w) {o : Oper} {c : Call} {x : Operand} {t e : TypeId} (ho : o.op = .call c) (hc : c.callee = .builtin .len) (ha : c.args.toList = [x]) (ht : c.argTypes.toList = [t]) (hu : P.underlying t = some (.slice e)) {xv : V} {u : T} {n : Nat}
    (hx : VV U κ st.s w xv (a.eval x)) (hs : xv.slice? = some u) (hl : u.len = some n) : OpOk P U κ st.s a w o ⟨.p (.int .i64 n), st.s, []⟩ := by
  have hx1 := slice?_spec hs hx
  have hv : ∃ base cap, a.eval x = .slice base n cap := by
    cases u with
    | bl xf bs =>
      simp only [T.len, Option.some.injEq] at hl
      have h1 := hx1.cell rfl
      generalize a.eval x = vx at h1
      subst hl
      cases h1 with
      | blnil => exact ⟨_, _, rfl⟩
      | bl0 _ => exact ⟨_, _, rfl⟩
      | bl q1 _ _ _ => exact ⟨_, _, by rw [q1]⟩
    | lst xf e ts =>
      simp only [T.len, Option.some.injEq] at hl
      have h1 := hx1.cell rfl
      generalize a.eval x = vx at h1
      subst hl
      cases h1 with
      | lstnil => exact ⟨_, _, rfl⟩
      | lst0 _ => exact ⟨_, _, rfl⟩
      | lst q1 _ _ _ _ _ => exact ⟨_, _, by rw [q1]⟩
    | _ => simp [T.len] at hl
  obtain ⟨base, cap, hv⟩ := hv
  refine OpOk.still h.store (x := goInt n) ?_ (VV_of (.of_cells (.int _ _) rfl))
  exact eval_len ho hc ha ht (by rw [hv]; simp [Builtin.len_, run_under hu])

theorem lenArr_ok {st : St} {a : Act} (h : Rel U κ st a w) {o : Oper} {c : Call} {x : Operand} {t e : TypeId} {n : Nat} (ho : o.op = .call c) (hc : c.callee = .builtin .len) (ha : c.args.toList = [x]) (ht : c.argTypes.toList = [t]) (hu : P.underlying t = some (.array n e)) :
    OpOk P U κ st.s a w o ⟨.p (.int .i64 n), st.s, []⟩ := by
  refine OpOk.still h.store (x := goInt n) ?_ (VV_of (.of_cells (.int _ _) rfl))
  exact eval_len ho hc ha ht (by simp [Builtin.len_, run_under hu])

theorem intNat_spec {i : Int} {n : Nat} (h : intNat i = some n) : i = n := by
  cases i <;> simp [intNat] at h; subst h; rfl

theorem kind_of_app {t u t' : T} {e : Nat} (h : appT t u = some t') (hk : kindE e t) : kindE e u := by
  cases t with
  | bl x bs => cases u with
    | bl x' ds => exact hk
    | _ => simp [appT] at h
  | lst x e1 ts => cases u with
    | lst x' e2 us =>
      simp only [appT] at h
      split at h
      · rename_i hc; have : e1 = e2 := by simpa using hc
        simp only [kindE] at hk ⊢; omega
      · cases h
    | _ => simp [appT] at h
  | _ => exact hk.elim

theorem toArray_of {α : Type} {l : Array α} {m : List α} (h : l.toList = m) : l = m.toArray := by rw [← h]

theorem dec_obs {dec : Bool} {n : Nat} {p : Prop} (hc : (!dec || Nat.ble n 4294967296) = true) (hp : p ↔ n ≤ 4294967296) (ho : ∀ q ∈ (if dec then ([] : List Prop) else [p]), q) : n ≤ 4294967296 := by
  cases dec
  · exact hp.1 (ho p (by simp))
  · simpa using hc

theorem appU_ok {st : St} {a : Act} (h : Rel U κ st a w) {o : Oper} {c : Call} {x y : Operand} {t t2 e : TypeId} (ho : o.op = .call c) (hc : c.callee = .builtin .append) (ha : c.args = #[x, y]) (ht : c.argTypes = #[t, t2])
    (hu : P.underlying t = some (.slice e)) {xv : V} {u : T} {dec : Bool} (hx : VV U κ st.s w xv (a.eval x)) (hy : ∀ n q, tySz P e = some n → u.len = some q → kindE n u → SrcT P w (okOf U κ) t2 n (a.eval y) q u) {q : OpR} (hq : appU P st.s e dec xv u = some q) (hobs : ∀ p ∈ q.obs, p) : OpOk P U κ st.s a w o q := by
  unfold appU at hq
  split at hq
  · rename_i n i hn hi
    split at hq
    · rename_i hcond
      simp only [Bool.and_eq_true, Nat.ble_eq, Nat.blt_eq] at hcond
      obtain ⟨⟨c1, c2⟩, c3⟩ := hcond
      obtain ⟨z, hz⟩ := Option.isSome_iff_exists.1 c2
      split at hq
      · rename_i id ver tx
        split at hq
        · rename_i cur n' t' p r e1 e2 e3 e4
          split at hq
          · rename_i hcc
            rw [Bool.and_eq_true] at hcc
            obtain ⟨hcc, hdec⟩ := hcc
            simp only [Bool.and_eq_true, beq_iff_eq] at hcc
            obtain ⟨⟨rfl, rfl⟩, hkb⟩ := hcc
            injection hq with hq; subst hq
            have hsum : p + r ≤ 4294967296 ∨ (p + r ≤ 9223372036854775807 ∧ (p + r) * i.bytes ≤ 140737488355328) := by
              cases dec
              · exact hobs _ (List.mem_singleton.2 rfl)
              · exact .inl (by simpa using hdec)
            have hs2 : p + r ≤ 9223372036854775807 ∧ (p + r) * i.bytes ≤ 140737488355328 := by
              rcases hsum with hsum | hsum
              · exact ⟨by omega, by have := Nat.mul_le_mul hsum c1; omega⟩
              · exact hsum
            have hk : kindE n tx := by
              cases tx with
              | lst x0 e0 ts => simpa [kindB, kindE] using hkb
              | bl x0 bs => simpa [kindB, kindE] using hkb
              | _ => simp [kindB] at hkb
            exact append_row h ho hc ha ht hu hn hi hz c3 e1 hx (hy n r hn e4 (kind_of_app e2 hk)) e2 e3 e4 hk (kind_of_app e2 hk) hs2.1 hs2.2
          · cases hq
        · cases hq
      · rename_i n' ts
        split at hq
        · rename_i hnn
          have hnn' : n = n' := by simpa using hnn
          subst hnn'
          split at hq
          · rename_i t' b e2 e4
            split at hq
            · rename_i hdec
              injection hq with hq; subst hq
              have hsum : ts.length + b ≤ 4294967296 ∨ (ts.length + b ≤ 9223372036854775807 ∧ (ts.length + b) * i.bytes ≤ 140737488355328) := by
                cases dec
                · exact hobs _ (List.mem_singleton.2 rfl)
                · exact .inl (by simpa using hdec)
              have hs2 : ts.length + b ≤ 9223372036854775807 ∧ (ts.length + b) * i.bytes ≤ 140737488355328 := by
                rcases hsum with hsum | hsum
                · exact ⟨by omega, by have := Nat.mul_le_mul hsum c1; omega⟩
                · exact hsum
              exact append_full h ho hc ha ht hu hn hi hz c3 hx rfl (hy n b hn e4 (kind_of_app e2 rfl)) e2 rfl e4 rfl (kind_of_app e2 rfl) hs2.1 hs2.2
            · cases hq
          · cases hq
        · cases hq
      · rename_i bs
        split at hq
        · rename_i t' b e2 e4
          split at hq
          · rename_i hnn
            rw [Bool.and_eq_true] at hnn
            obtain ⟨hnn, hdec⟩ := hnn
            have hnn' : n = 1 := by simpa using hnn
            subst hnn'
            injection hq with hq; subst hq
            have hsum : bs.length + b ≤ 4294967296 := dec_obs hdec Iff.rfl hobs
            exact append_full h ho hc ha ht hu hn hi hz c3 hx rfl (hy 1 b hn e4 (kind_of_app e2 rfl)) e2 rfl e4 rfl (kind_of_app e2 rfl) (by omega) (by have := Nat.mul_le_mul hsum c1; omega)
          · cases hq
        · cases hq
      · cases hq
    · cases hq
  · cases hq

theorem appV_ok {st : St} {a : Act} (h : Rel U κ st a w) {o : Oper} {c : Call} {x y : Operand} {t e : TypeId} (ho : o.op = .call c) (hc : c.callee = .builtin .append) (ha : c.args = #[x, y]) (ht : c.argTypes = #[t, t])
    (hu : P.underlying t = some (.slice e)) {xv yv : V} {dec : Bool} (hx : VV U κ st.s w xv (a.eval x)) (hy : VV U κ st.s w yv (a.eval y)) {q : OpR} (hq : appV P st.s e dec xv yv = some q) (hobs : ∀ p ∈ q.obs, p) : OpOk P U κ st.s a w o q := by
  unfold appV at hq
  split at hq
  · rename_i u hyu
    exact appU_ok h ho hc ha ht hu hx (fun n q _ hl hk => SrcT.slice hu (slice?_spec hyu hy) hl hk) hq hobs
  · cases hq


theorem opmap {α : Type} {v : Option α} {f : α → OpR} {q : OpR} (h : v.map f = some q) : ∃ x, v = some x ∧ f x = q := by simpa using h

theorem plainOr {v : V} (h : okPart v = true) : okPart v = true := h

theorem kindB_E {n : Nat} {u : T} (h : kindB n u = true) : kindE n u := by
  cases u with
  | lst x0 e0 ts => simpa [kindB, kindE] using h
  | bl x0 bs => simpa [kindB, kindE] using h
  | _ => simp [kindB] at h

/-- The operations of the second row. -/
theorem hop1_sound {st : St} {a : Act} (h : Rel U κ st a w) {g : Option (Nat × Bool)} (hg : GuardOk a g) {o : Oper} {it : Option Item} {q : OpR} {s0 : List SObj} (hs0 : touch o.op ≠ 0 → s0 = st.s) (hq : hop1 P st.t s0 g o it = some q) (hobs : ∀ p ∈ q.obs, p) :
    OpOk P U κ st.s a w o ⟨q.v, match touch o.op with | 0 => st.s | _ => q.s, q.obs⟩ := by
  unfold hop1 at hq
  simp only at hq
  split at hq
  · rename_i ty x ix ho
    simp only [ho] at hs0 ⊢
    simp only [touch] at hs0 ⊢
    split at hq
    · rename_i len e xv k i e1 e2 e3
      split at hq
      · rename_i j n ag e4 e5 e6
        split at hq
        · rename_i hc
          simp only [Bool.and_eq_true, Nat.blt_eq] at hc
          obtain ⟨u, hu, rfl⟩ := opmap hq
          exact index_ok h ho e1 e5 e6 (evalO_spec h hg e2) (evalO_spec h hg e3) (intNat_spec e4) hc.1 hc.2 hu
        · cases hq
      · cases hq
    · rename_i b k i e1 e2 e3
      split at hq
      · rename_i j e4
        split at hq
        · rename_i c e5
          injection hq with hq; subst hq
          exact indexStr_ok h ho e1 (evalO_spec h hg e2) (evalO_spec h hg e3) (intNat_spec e4) e5
        · cases hq
      · cases hq
    · cases hq
  · rename_i ty r ho
    split at hq
    · simp only [ho] at hs0 ⊢
      simp only [touch] at hs0 ⊢
      obtain rfl := hs0 (by simp)
      injection hq with hq; subst hq
      exact makeMap_ok h ho
    · cases hq
  · rename_i ty x k ok' ho
    simp only [ho] at hs0 ⊢
    simp only [touch] at hs0 ⊢
    obtain rfl := hs0 (by simp)
    split at hq
    · rename_i kt vt xv e1 e2
      split at hq
      · rename_i kk e3
        simp only [Option.bind_eq_some_iff] at e3
        obtain ⟨kv, k1, k2⟩ := e3
        have tk := toT_VV k2 (evalO_spec h hg k1)
        split at hq
        · rename_i id
          split at hq
          · rename_i es e4
            obtain ⟨u, hu, rfl⟩ := opmap hq
            exact lookup_ok h ho e1 tk (evalO_spec h hg e2) e4 hu
          · cases hq
        · obtain ⟨u, hu, rfl⟩ := opmap hq
          exact lookNil_ok h ho e1 tk (evalO_spec h hg e2) hu
        · cases hq
      · cases hq
    · cases hq
  · rename_i ty x k v ho
    simp only [ho] at hs0 ⊢
    simp only [touch] at hs0 ⊢
    obtain rfl := hs0 (by simp)
    split at hq
    · rename_i kt vt id e1 e2
      split at hq
      · rename_i kk vv es e3 e4 e5
        simp only [Option.bind_eq_some_iff] at e3 e4
        obtain ⟨kv, k1, k2⟩ := e3
        obtain ⟨vv', v1, v2⟩ := e4
        obtain ⟨u, hu, rfl⟩ := opmap hq
        exact mapUpdate_ok h (.inl ho) e1 (toT_VV k2 (evalO_spec h hg k1)) (toT_VV v2 (evalO_spec h hg v1)) (evalO_spec h hg e2) e5 hu
      · cases hq
    · cases hq
  · rename_i ty x k v ho
    simp only [ho] at hs0 ⊢
    simp only [touch] at hs0 ⊢
    obtain rfl := hs0 (by simp)
    split at hq
    · rename_i kt vt id e1 e2
      split at hq
      · rename_i kk vv es e3 e4 e5
        simp only [Option.bind_eq_some_iff] at e3 e4
        obtain ⟨kv, k1, k2⟩ := e3
        obtain ⟨vv', v1, v2⟩ := e4
        obtain ⟨u, hu, rfl⟩ := opmap hq
        exact mapUpdate_ok h (.inr ho) e1 (toT_VV k2 (evalO_spec h hg k1)) (toT_VV v2 (evalO_spec h hg v1)) (evalO_spec h hg e2) e5 hu
      · cases hq
    · cases hq
  · rename_i ty x lo hi mx ho
    simp only [ho] at hs0 ⊢
    simp only [touch] at hs0 ⊢
    split at hq
    · rename_i e xv e1 e2
      split at hq
      · rename_i u e3
        split at hq
        · rename_i n sz e4 e5
          split at hq
          · rename_i hk
            split at hq
            · rename_i b e6
              obtain ⟨l, hh, m⟩ := b
              obtain ⟨t, ht, rfl⟩ := opmap hq
              exact slice_tree_ok h hg ho e1 (evalO_spec h hg e2) e3 e4 e5 (kindB_E hk) e6 ht
            · cases hq
          · cases hq
        · cases hq
      · cases hq
    · rename_i len e u off e1 e2
      split at hq
      · rename_i n l hh m e3 e4
        split at hq
        · rename_i hc
          simp only [Bool.and_eq_true, Nat.blt_eq, beq_iff_eq] at hc
          split at hq
          · rename_i xf bs e5
            injection hq with hq; subst hq
            simp only [Option.map_eq_some_iff] at e5
            obtain ⟨sub, s1, s2⟩ := e5
            exact slice_rp_ok h hg ho e1 (evalO_spec h hg e2) e3 e4 hc.1 hc.2 s1 s2
          · rename_i xf e' ts e5
            injection hq with hq; subst hq
            simp only [Option.map_eq_some_iff] at e5
            obtain ⟨sub, s1, s2⟩ := e5
            exact slice_rp_ok h hg ho e1 (evalO_spec h hg e2) e3 e4 hc.1 hc.2 s1 s2
          · cases hq
        · cases hq
      · cases hq
    · rename_i len e id off e1 e2
      split at hq
      · rename_i n l hh m e3 e4
        split at hq
        · rename_i hc
          simp only [Bool.and_eq_true, Nat.blt_eq, beq_iff_eq] at hc
          injection hq with hq; subst hq
          exact slice_ptr_ok h hg ho e1 (evalO_spec h hg e2) e3 e4 hc.1 hc.2
        · split at hq
          · rename_i hc
            simp only [Bool.and_eq_true, beq_iff_eq, Bool.not_eq_true', beq_eq_false_iff_ne] at hc
            obtain ⟨rfl, hc2⟩ := hc
            split at hq
            · injection hq with hq; subst hq
              exact slice_ptr0_ok h hg ho e1 (evalO_spec h hg e2) e3 e4 hc2 (fun b o' cap => .of_cells (.bl0 (fun h => by cases h)) rfl)
            · injection hq with hq; subst hq
              exact slice_ptr0_ok h hg ho e1 (evalO_spec h hg e2) e3 e4 hc2 (fun b o' cap => .of_cells (.lst0 (fun h => by cases h)) rfl)
            · cases hq
          · cases hq
      · cases hq
    · cases hq
  · cases hq

theorem byteUnder {e : TypeId} (h : isByte P e = true) : P.underlying e = some (.int .u8) := by
  unfold isByte at h; split at h; assumption; cases h

/-- The operations of the third row. -/
theorem hop2_sound {st : St} {a : Act} (h : Rel U κ st a w) {g : Option (Nat × Bool)} (hg : GuardOk a g) {o : Oper} {it : Option Item} {q : OpR} {s0 : List SObj} (hs0 : touch o.op ≠ 0 → s0 = st.s) (hq : hop2 P st.t s0 g o it = some q) (hobs : ∀ p ∈ q.obs, p) :
    OpOk P U κ st.s a w o ⟨q.v, match touch o.op with | 0 => st.s | _ => q.s, q.obs⟩ := by
  unfold hop2 at hq
  simp only at hq
  split at hq
  · rename_i op xT x y yT ho
    simp only [ho] at hs0 ⊢
    simp only [touch] at hs0 ⊢
    split at hq
    · rename_i b e1
      simp only [Option.bind_eq_some_iff] at e1
      obtain ⟨v, v1, v2⟩ := e1
      split at hq
      · injection hq with hq; subst hq
        exact nilK_ok h ho (evalO_spec h hg v1) v2 (.inl rfl)
      · injection hq with hq; subst hq
        exact nilK_ok h ho (evalO_spec h hg v1) v2 (.inr rfl)
      · cases hq
    · cases hq
  · rename_i ty x ix ho
    simp only [ho] at hs0 ⊢
    simp only [touch] at hs0 ⊢
    split at hq
    · rename_i e id off m k i e1 e2 e3
      split at hq
      · rename_i j n e4 e5
        split at hq
        · rename_i hlt
          injection hq with hq; subst hq
          exact indexAddr_view h ho e1 e5 (evalO_spec h hg e2) (evalO_spec h hg e3) (intNat_spec e4) (by simpa [Nat.blt_eq] using hlt)
        · cases hq
      · cases hq
    · cases hq
  · rename_i ty x ho
    simp only [ho] at hs0 ⊢
    simp only [touch] at hs0 ⊢
    obtain rfl := hs0 (by simp)
    split at hq
    · rename_i id off n e1 e2 e3
      split at hq
      · rename_i v hb
        obtain ⟨u, hu, rfl⟩ := opmap hq
        simp only [Option.bind_eq_some_iff] at hu
        obtain ⟨t, ht, hu⟩ := hu
        exact load_seg h ho (evalO_spec h hg e1) e2 e3 hb ht hu
      · cases hq
    · cases hq
  · rename_i ty x ho
    simp only [ho] at hs0 ⊢
    simp only [touch] at hs0 ⊢
    split at hq
    · rename_i len e id off n e1 e2
      split at hq
      · rename_i hle
        injection hq with hq; subst hq
        exact toArr_ok h ho e1 (evalO_spec h hg e2) (by simpa using hle)
      · cases hq
    · cases hq
  · rename_i ty l c ho
    simp only [ho] at hs0 ⊢
    simp only [touch] at hs0 ⊢
    obtain rfl := hs0 (by simp)
    split at hq
    · rename_i e kl li kc ci e1 e2 e3
      split at hq
      · rename_i ln cn z i e4 e5 e6 e7
        split at hq
        · rename_i hc
          simp only [Bool.and_eq_true, Nat.ble_eq, Nat.blt_eq, beq_iff_eq] at hc
          obtain ⟨⟨⟨⟨c1, c2⟩, c3⟩, c4⟩, c5⟩ := hc
          have hm := makeSlice_ok h ho e1 (evalO_spec h hg e2) (evalO_spec h hg e3) e4 e5 e6 e7 c1 c2 c3 c4 c5
          split at hq
          · rename_i hlc
            have hlc' : ln = cn := by simpa using hlc
            split at hq
            · injection hq with hq; subst hq; exact (hm.1 hlc').1
            · injection hq with hq; subst hq; exact (hm.1 hlc').2
          · injection hq with hq; subst hq; exact hm.2
        · cases hq
      · cases hq
    · cases hq
  · rename_i src dst x ho
    split at hq
    · rename_i e b e1 e2
      split at hq
      · rename_i he
        simp only [ho] at hs0 ⊢
        simp only [touch] at hs0 ⊢
        obtain rfl := hs0 (by simp)
        injection hq with hq; subst hq
        exact strBytes_ok h ho e1 e2 (byteUnder he)
      · cases hq
    · rename_i e0 e y e1 e2
      split at hq
      · rename_i hc
        simp only [Bool.and_eq_true, Nat.beq_eq] at hc
        obtain ⟨he, hsd⟩ := hc
        subst hsd
        split at hq
        · rename_i id off n e3
          simp only [ho] at hs0 ⊢
          simp only [touch, Nat.beq_refl, if_true] at hs0 ⊢
          obtain rfl := hs0 (by simp)
          injection hq with hq; subst hq
          exact convMark_ok h ho e1 e2 (byteUnder he) (evalO_spec h hg e3)
        · cases hq
      · cases hq
    · cases hq
  · rename_i c ho
    simp only [ho] at hs0 ⊢
    simp only [touch] at hs0 ⊢
    split at hq
    · rename_i hc
      simp only [hc] at hs0 ⊢
      split at hq
      · rename_i x ty ha ht
        split at hq
        · rename_i e id off n e1 e2
          injection hq with hq; subst hq
          obtain ⟨pl, v, v1, v2, v3⟩ := VV_view (evalO_spec h hg e2)
          refine OpOk.still h.store (x := goInt n) ?_ (VV_of (.of_cells (.int _ _) rfl))
          exact eval_len ho hc ha ht (by rw [v3]; simp [Builtin.len_, run_under e1])
        · cases hq
      · cases hq
    · rename_i hc
      simp only [hc] at hs0 ⊢
      split at hq
      · rename_i x y tx ty ha ht
        split at hq
        · rename_i e xv b e1 e2 e3 e4
          split at hq
          · rename_i hb
            simp only [Bool.and_eq_true, beq_iff_eq] at hb
            obtain rfl := hs0 (by simp)
            refine appU_ok h ho hc (toArray_of ha) (toArray_of ht) e1 (evalO_spec h hg e3) (fun n q hn hl hk => ?_) hq hobs
            have hn1 : n = 1 := by simpa [hb.2] using hn.symm
            subst hn1
            simp only [T.len, Option.some.injEq, bytesOf_len] at hl
            subst hl
            exact SrcT.string e2 (VV_p (evalO_spec h hg e4))
          · cases hq
        · rename_i e e' xv yv e1 e2 e3 e4
          split at hq
          · rename_i hb
            have htt : tx = ty := by simpa using hb
            subst htt
            obtain rfl := hs0 (by simp)
            split at hq
            · rename_i u hu
              have hsrc : ∀ n q, tySz P e = some n → u.len = some q → kindE n u → SrcT P w (okOf U κ) tx n (a.eval y) q u := by
                intro n q hn hl hk
                rw [hn] at hu
                simp only [Option.getD_some] at hu
                have hy := evalO_spec h hg e4
                unfold srcB at hu
                split at hu
                · rename_i id off k
                  split at hu
                  · rename_i v hv
                    split at hu
                    · rename_i m bs hv2
                      split at hu
                      · rename_i hle
                        have hle' : off + k ≤ m := by simpa using hle
                        injection hu with hu; subst hu
                        simp only [kindE] at hk
                        subst hk
                        have hbl : bs.length = m := by
                          obtain ⟨_, _, _, _, cells, elem, h4, h5⟩ := h.store.boxCells hv (List.getElem?_eq_getElem (by rw [h.store.len]; exact getElem?_lt hv))
                          have hT := (V.toT_spec hv2 h5).1
                          generalize cells.toList = l at hT
                          cases hT with | ba q => exact q
                        have hq2 : q = k := by
                          simp only [T.len, Option.some.injEq] at hl
                          rw [← hl]; simp; omega
                        subst hq2
                        exact SrcT.view h e2 hy hv hv2 hle'
                      · cases hu
                    · rename_i ts hv2
                      split at hu
                      · rename_i hc2
                        simp only [Bool.and_eq_true, beq_iff_eq, Nat.ble_eq, List.all_eq_true] at hc2
                        obtain ⟨⟨c1, c2⟩, c3⟩ := hc2
                        injection hu with hu; subst hu
                        have hq2 : q = k := by
                          simp only [T.len, Option.some.injEq] at hl
                          rw [← hl]; simp; omega
                        subst hq2
                        exact SrcT.viewL h e2 hy hv hv2 c1 c2 (fun t ht => by simpa using c3 t ht)
                      · cases hu
                    · cases hu
                  · cases hu
                · exact SrcT.slice e2 (slice?_spec hu hy) hl hk
              split at hq
              · refine appW_ok h ho hc (toArray_of ha) (toArray_of ht) e1 (evalO_spec h hg e3) (fun q hl hk => ?_) hq hobs
                have hsz : tySz P e = some 1 := by
                  unfold appW at hq
                  split at hq
                  · split at hq
                    · split at hq
                      · rename_i hcond
                        rw [Bool.and_eq_true] at hcond
                        simp only [Bool.and_eq_true, beq_iff_eq] at hcond
                        exact hcond.1.1.2
                      · cases hq
                    · cases hq
                  · cases hq
                exact hsrc 1 q hsz hl hk
              · exact appU_ok h ho hc (toArray_of ha) (toArray_of ht) e1 (evalO_spec h hg e3) (fun n q hn hl hk => hsrc n q hn hl hk) hq hobs
            · cases hq
          · cases hq
        · cases hq
      · cases hq
    · cases hq
  · cases hq

/-- EVERY OPERATION. -/
theorem hop0_sound {st : St} {a : Act} (h : Rel U κ st a w) {g : Option (Nat × Bool)} (hg : GuardOk a g) {o : Oper} {it : Option Item} {q : OpR} {s0 : List SObj} (hs0 : touch o.op ≠ 0 → s0 = st.s) (hq : hop0 P st.t s0 g o it = some q) (hobs : ∀ p ∈ q.obs, p) :
    OpOk P U κ st.s a w o ⟨q.v, match touch o.op with | 0 => st.s | _ => q.s, q.obs⟩ := by
  unfold hop0 at hq
  simp only at hq
  split at hq
  · rename_i x ho
    simp only [ho] at hs0 ⊢
    simp only [touch] at hs0 ⊢
    obtain ⟨v, hv, rfl⟩ := opmap hq
    exact move_ok h (.inl ho) (evalO_spec h hg hv)
  · rename_i x ho
    simp only [ho] at hs0 ⊢
    simp only [touch] at hs0 ⊢
    obtain ⟨v, hv, rfl⟩ := opmap hq
    exact move_ok h (.inr ho) (evalO_spec h hg hv)
  · rename_i c x y ho
    simp only [ho] at hs0 ⊢
    simp only [touch] at hs0 ⊢
    split at hq
    · rename_i cv d hc hd
      obtain ⟨v, hv, rfl⟩ := opmap hq
      exact pick_ok h hg ho hc hd hv
    · cases hq
  · rename_i e ho
    simp only [ho] at hs0 ⊢
    simp only [touch] at hs0 ⊢
    obtain rfl := hs0 (by simp)
    obtain ⟨z, hz, rfl⟩ := opmap hq
    exact alloc_ok h ho hz
  · rename_i e x ho
    simp only [ho] at hs0 ⊢
    simp only [touch] at hs0 ⊢
    obtain rfl := hs0 (by simp)
    split at hq
    · rename_i v hv
      split at hq
      · rename_i hp
        injection hq with hq; subst hq
        exact box_ok h ho (evalO_spec h hg hv) hp
      · cases hq
    · cases hq
  · rename_i ty parts ho
    simp only [ho] at hs0 ⊢
    simp only [touch] at hs0 ⊢
    obtain ⟨v, hv, rfl⟩ := opmap hq
    exact build_ok h hg ho hv
  · rename_i ty len parts ho
    simp only [ho] at hs0 ⊢
    simp only [touch] at hs0 ⊢
    have keep : ∀ {v : V}, buildSl P ty len (evalO P st.t g) parts.toList = some v → q = ⟨v, s0, []⟩ → OpOk P U κ st.s a w o ⟨q.v, match (if constParts parts.toList = true then 2 else 0) with | 0 => st.s | _ => q.s, q.obs⟩ := by
      intro v hv hqv
      subst hqv
      have key := buildSlice_ok h hg ho hv
      split
      · exact key
      · rename_i hne
        obtain rfl := hs0 (by intro e; exact hne e)
        exact key
    split at hq
    · rename_i xf bs hv
      split at hq
      · rename_i hcp
        injection hq with hq; subst hq
        obtain rfl := hs0 (by rw [if_pos hcp]; simp)
        rw [if_pos hcp]
        exact buildSlice_box h hg ho hv
      · injection hq with hq; exact keep hv hq.symm
    · rename_i v hne hv
      injection hq with hq; exact keep hv hq.symm
    · cases hq
  · rename_i ty x ho
    simp only [ho] at hs0 ⊢
    simp only [touch] at hs0 ⊢
    obtain rfl := hs0 (by simp)
    split at hq
    · rename_i id off n ag e1 e2 e3
      split at hq
      · rename_i v hb
        obtain ⟨u, hu, rfl⟩ := opmap hq
        exact load_box h ho (evalO_spec h hg e1) e2 e3 hb hu
      · cases hq
    · rename_i t off n ag e1 e2 e3
      obtain ⟨u, hu, rfl⟩ := opmap hq
      simp only [Option.map_eq_some_iff] at hu
      obtain ⟨u', hu', rfl⟩ := hu
      exact load_rp h ho (evalO_spec h hg e1) e2 e3 hu'
    · cases hq
  · rename_i ty ax x ho
    simp only [ho] at hs0 ⊢
    simp only [touch] at hs0 ⊢
    obtain rfl := hs0 (by simp)
    split at hq
    · rename_i id off u e1 e2
      split at hq
      · rename_i v hb
        split at hq
        · rename_i hc
          simp only [Bool.and_eq_true, beq_iff_eq] at hc
          split at hq
          · rename_i v' hset
            injection hq with hq; subst hq
            exact store_ok h ho (evalO_spec h hg e1) (evalO_spec h hg e2) hc.1 hc.2 hb hset
          · cases hq
        · cases hq
      · cases hq
    · cases hq
  · rename_i x ho
    simp only [ho] at hs0 ⊢
    simp only [touch] at hs0 ⊢
    split at hq <;> first
      | (rename_i e1; injection hq with hq; subst hq; exact nilCheck_ok h ho (evalO_spec h hg e1) (by first | exact .inl ⟨_, _, rfl⟩ | exact .inr (.inl ⟨_, _, rfl⟩) | exact .inr (.inr (.inl ⟨_, _, rfl⟩)) | exact .inr (.inr (.inr ⟨_, _, rfl⟩))))
      | cases hq
  · rename_i ty x f ho
    simp only [ho] at hs0 ⊢
    simp only [touch] at hs0 ⊢
    split at hq
    · rename_i fs v e1 e2
      split at hq
      · rename_i fd e3
        split at hq
        · rename_i n id off e4
          injection hq with hq; subst hq
          exact fieldAddr_ptr h ho e1 e3 e4 (evalO_spec h hg e2)
        · rename_i n u off e4
          injection hq with hq; subst hq
          exact fieldAddr_rp h ho e1 e3 e4 (evalO_spec h hg e2)
        · cases hq
      · cases hq
    · cases hq
  · rename_i ty x ix ho
    simp only [ho] at hs0 ⊢
    simp only [touch] at hs0 ⊢
    split at hq
    · rename_i e xv k i e1 e2 e3
      split at hq
      · rename_i ts n e4 e5
        simp only [Option.bind_eq_some_iff] at e4
        obtain ⟨sl, s1, s2⟩ := e4
        split at hq
        · rename_i u
          split at hq
          · rename_i hu
            injection hq with hq; subst hq
            exact indexAddr_sl h ho e1 e5 (evalO_spec h hg e2) (evalO_spec h hg e3) s1 s2 (by simpa using hu) (hobs _ (by simp))
          · cases hq
        · split at hq
          · rename_i u e6
            simp only [Option.bind_eq_some_iff] at e6
            obtain ⟨j, j1, j2⟩ := e6
            split at hq
            · rename_i hu
              injection hq with hq; subst hq
              have := intNat_spec j1
              exact indexAddr_sl h ho e1 e5 (evalO_spec h hg e2) (evalO_spec h hg e3) s1 s2 (by simpa using hu) ⟨by omega, by rw [this]; simpa using j2⟩
            · cases hq
          · cases hq
      · cases hq
    · rename_i len e xv k i e1 e2 e3
      split at hq
      · rename_i j n id off e4 e5
        split at hq
        · rename_i hlt
          injection hq with hq; subst hq
          exact indexAddr_ptr h ho e1 e5 (evalO_spec h hg e2) (evalO_spec h hg e3) (intNat_spec e4) (by simpa [Nat.blt_eq] using hlt)
        · cases hq
      · rename_i j n u off e4 e5
        split at hq
        · rename_i hlt
          injection hq with hq; subst hq
          exact indexAddr_rp h ho e1 e5 (evalO_spec h hg e2) (evalO_spec h hg e3) (intNat_spec e4) (by simpa [Nat.blt_eq] using hlt)
        · cases hq
      · cases hq
    · cases hq
  · rename_i ty x f ho
    simp only [ho] at hs0 ⊢
    simp only [touch] at hs0 ⊢
    split at hq
    · rename_i fs v e1 e2
      split at hq
      · rename_i fd e3
        split at hq
        · rename_i n ag e4 e5
          split at hq
          · rename_i hag
            obtain ⟨u, hu, rfl⟩ := opmap hq
            exact field_ok h ho e1 e3 e4 e5 (evalO_spec h hg e2) hag hu
          · cases hq
        · cases hq
      · cases hq
    · cases hq
  · rename_i x i ho
    simp only [ho] at hs0 ⊢
    simp only [touch] at hs0 ⊢
    split at hq
    · rename_i vs e1
      obtain ⟨u, hu, rfl⟩ := opmap hq
      exact extract_ok h ho (evalO_spec h hg e1) hu
    · cases hq
  · rename_i f first caps ho
    simp only [ho] at hs0 ⊢
    simp only [touch] at hs0 ⊢
    split at hq
    · rename_i hf
      split at hq
      · rename_i vs e1
        split at hq
        · rename_i hp
          injection hq with hq; subst hq
          exact makeFunc_ok h ho (by simpa using hf) hg e1 hp
        · cases hq
      · cases hq
    · cases hq
  · rename_i op xT x y yT ho
    simp only [ho] at hs0 ⊢
    simp only [touch] at hs0 ⊢
    split at hq
    · rename_i xv yv e1 e2
      have hsc : (if (xv.sc.isSome && yv.sc.isSome) = true then (scOp P (evalO P st.t g xT) o).map (fun v => (⟨v, s0, []⟩ : OpR)) else none) = some q → OpOk P U κ st.s a w o ⟨q.v, st.s, q.obs⟩ := by
        intro hq
        split at hq
        · rename_i hc
          simp only [Bool.and_eq_true] at hc
          refine sc_ok h hq (by rw [ho]; intro _ _ hk; cases hk) (fun z hz => ?_)
          rw [ho] at hz
          simp [Op.operands] at hz
          rcases hz with rfl | rfl
          · exact V.sc_eval h hg e1 hc.1
          · exact V.sc_eval h hg e2 hc.2
        · cases hq
      split at hq
      · rename_i ta tb h1 h2
        split at hq
        · rename_i hf
          simp only [Option.map_some, Option.some.injEq] at hq; subst hq; try simp only [ho, touch]
          exact binEq_ok h hg ho e1 e2 h1 h2 rfl rfl hf (.inl rfl)
        · cases hq
      · rename_i ta tb h1 h2
        split at hq
        · rename_i hf
          simp only [Option.map_some, Option.some.injEq] at hq; subst hq; try simp only [ho, touch]
          exact binEq_ok h hg ho e1 e2 h1 h2 rfl rfl hf (.inr rfl)
        · cases hq
      · rename_i m ta n tb h1 h2
        split at hq
        · rename_i hf
          simp only [Option.map_some, Option.some.injEq] at hq; subst hq; try simp only [ho, touch]
          exact binEq_ok h hg ho e1 e2 h1 h2 rfl rfl hf (.inl rfl)
        · cases hq
      · rename_i m ta n tb h1 h2
        split at hq
        · rename_i hf
          simp only [Option.map_some, Option.some.injEq] at hq; subst hq; try simp only [ho, touch]
          exact binEq_ok h hg ho e1 e2 h1 h2 rfl rfl hf (.inr rfl)
        · cases hq
      · exact hsc hq
    · cases hq
  · rename_i op ty x ho
    simp only [ho] at hs0 ⊢
    simp only [touch] at hs0 ⊢
    split at hq
    · rename_i b e1
      split at hq
      · injection hq with hq; subst hq
        have := VV_rb (evalO_spec h hg e1)
        refine OpOk.still h.store (x := .bool (!b)) ?_ (VV_of1 (VV1_of_cell (.rb _) rfl))
        unfold execOp
        simp only [ho, this]
        exact run_v _ rfl
      · cases hq
    · rename_i xv e1 e2
      split at hq
      · rename_i hc
        refine sc_ok h hq (by rw [ho]; intro _ _ hk; cases hk) (fun z hz => ?_)
        rw [ho] at hz
        simp [Op.operands] at hz
        subst hz
        exact V.sc_eval h hg e2 hc
      · cases hq
    · cases hq
  · rename_i src dst x ho
    simp only [ho] at hs0 ⊢
    simp only [touch] at hs0 ⊢
    split at hq
    · rename_i xv e1
      split at hq
      · rename_i hc
        have key := sc_ok h hq (by rw [ho]; intro _ _ hk; cases hk) (fun z hz => by
          rw [ho] at hz
          simp [Op.operands] at hz
          subst hz
          exact V.sc_eval h hg e1 hc)
        obtain ⟨v, hv, rfl⟩ := opmap hq
        split
        · exact key
        · rename_i hne
          obtain rfl := hs0 (by split <;> simp_all)
          exact key
      · cases hq
    · cases hq
  · rename_i c ho
    simp only [ho] at hs0 ⊢
    simp only [touch] at hs0 ⊢
    split at hq
    · rename_i hc
      simp only [hc] at hs0 ⊢
      split at hq
      · rename_i x ty ha ht
        split at hq
        · rename_i e xv e1 e2
          split at hq
          · rename_i n e3
            simp only [Option.bind_eq_some_iff] at e3
            obtain ⟨u, u1, u2⟩ := e3
            injection hq with hq; subst hq
            exact len_ok h ho hc ha ht e1 (evalO_spec h hg e2) u1 u2
          · cases hq
        · rename_i n e xv e1 e2
          injection hq with hq; subst hq
          exact lenArr_ok h ho hc ha ht e1
        · rename_i xv e1 e2
          split at hq
          · rename_i hcs
            refine sc_ok h hq (by rw [ho]; intro _ _ hk; cases hk) (fun z hz => ?_)
            rw [ho] at hz
            have ha' := toArray_of ha
            simp [Op.operands, Call.operands, hc, ha'] at hz
            subst hz
            exact V.sc_eval h hg e2 hcs
          · cases hq
        · cases hq
      · cases hq
    · rename_i hc
      simp only [hc] at hs0 ⊢
      split at hq
      · rename_i x y tx ty ha ht
        split at hq
        · rename_i e e' xv yv e1 e2 e3 e4
          split at hq
          · rename_i htt
            have htt' : tx = ty := by simpa using htt
            subst htt'
            obtain rfl := hs0 (by simp)
            exact appV_ok h ho hc (toArray_of ha) (toArray_of ht) e1 (evalO_spec h hg e3) (evalO_spec h hg e4) hq hobs
          · cases hq
        · cases hq
      · cases hq
    · rename_i hc
      simp only [hc] at hs0 ⊢
      split at hq
      · rename_i hs
        refine sc_ok h hq (by rw [ho]; intro _ _ hk; cases hk) (fun z hz => ?_)
        rw [ho] at hz
        simp [Op.operands, Call.operands, hc] at hz
        exact scalarOperands_spec h hg hs z (by simpa using hz)
      · cases hq
    · rename_i hc
      simp only [hc] at hs0 ⊢
      split at hq
      · rename_i hs
        refine sc_ok h hq (by rw [ho]; intro _ _ hk; cases hk) (fun z hz => ?_)
        rw [ho] at hz
        simp [Op.operands, Call.operands, hc] at hz
        exact scalarOperands_spec h hg hs z (by simpa using hz)
      · cases hq
    · cases hq
  · skip
    exact hop1_sound h hg hs0 hq hobs


theorem hopA_sound {st : St} {a : Act} (h : Rel U κ st a w) {g : Option (Nat × Bool)} (hg : GuardOk a g) {o : Oper} {it : Option Item} {q : OpR} {s0 : List SObj} (hs0 : touch o.op ≠ 0 → s0 = st.s) (hq : hopA P st.t s0 g o it = some q) (hobs : ∀ p ∈ q.obs, p) :
    OpOk P U κ st.s a w o ⟨q.v, match touch o.op with | 0 => st.s | _ => q.s, q.obs⟩ := by
  unfold hopA at hq
  split at hq
  · rename_i e; injection hq with hq; subst hq; exact hop0_sound h hg hs0 e hobs
  · exact hop2_sound h hg hs0 hq hobs

theorem hop_sound {st : St} {a : Act} (h : Rel U κ st a w) {g : Option (Nat × Bool)} (hg : GuardOk a g) {o : Oper} {it : Option Item} {q : OpR} (hq : hop P st.t st.s g o it = some q) (hobs : ∀ p ∈ q.obs, p) : OpOk P U κ st.s a w o q := by
  unfold hop at hq
  split at hq
  · rename_i ht
    split at hq
    · rename_i q' e
      injection hq with hq; subst hq
      have := hopA_sound h hg (fun hne => absurd ht hne) e hobs
      rw [ht] at this
      exact this
    · cases hq
  · rename_i ht
    have := hopA_sound h hg (fun _ => rfl) hq hobs
    split at this
    · rename_i h0; exact absurd h0 ht
    · exact this

end Go.HM
