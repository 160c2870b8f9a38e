/- HM, part Pc: parts of slices, parts of arrays. -/
import Derived.Test.YtaghnihkkofmnaaGreatHmPb
import Derived.Laws.Slices
namespace Go.HM

variable {P : Program} {U : Nat → Nat → Prop} {κ : List Place} {s : List SObj} {w : World} {ok : Nat → Nat → Prop}

theorem tcs_drop {e : Nat} : ∀ {ts : List T} {cs : List Value} (k : Nat), Tcs w ok ts cs → (∀ t ∈ ts, t.sz = e) → Tcs w ok (ts.drop k) (cs.drop (k * e))
  | _, _, 0, h, _ => by simpa using h
  | [], _, k + 1, .nil, _ => by simpa using Tcs.nil
  | t :: ts, _, k + 1, .cons h1 h2, hs => by
    rename_i c1 c2
    have hl : c1.length = e := by rw [h1.len]; exact hs t (List.mem_cons_self ..)
    have := tcs_drop k h2 (fun t ht => hs t (List.mem_cons_of_mem _ ht))
    rw [List.drop_succ_cons, drop_append_right (by rw [Nat.succ_mul]; omega), hl, show (k + 1) * e - e = k * e by rw [Nat.succ_mul]; omega]
    exact this

theorem tcs_take {e : Nat} : ∀ {ts : List T} {cs : List Value} (k : Nat), Tcs w ok ts cs → (∀ t ∈ ts, t.sz = e) → Tcs w ok (ts.take k) (cs.take (k * e))
  | _, _, 0, h, _ => by simpa using Tcs.nil
  | [], _, k + 1, .nil, _ => by simpa using Tcs.nil
  | t :: ts, _, k + 1, .cons h1 h2, hs => by
    rename_i c1 c2
    have hl : c1.length = e := by rw [h1.len]; exact hs t (List.mem_cons_self ..)
    have := tcs_take k h2 (fun t ht => hs t (List.mem_cons_of_mem _ ht))
    have hcs : (c1 ++ c2).take ((k + 1) * e) = c1 ++ c2.take (k * e) := by
      rw [List.take_append, List.take_of_length_le (l := c1) (by rw [Nat.succ_mul]; omega), hl, show (k + 1) * e - e = k * e by rw [Nat.succ_mul]; omega]
    rw [hcs, List.take_succ_cons]
    exact .cons h1 this

theorem viewT_spec {t : T} {cells : List Value} {b o off n : Nat} (ht : Tc w ok t cells) (hc : ∀ (j : Nat) (v : Value), cells[j]? = some v → w.cell? ⟨b, o + j, none⟩ = some v ∧ ok b (o + j)) {κ : List Place} {s : List SObj} (hok : ok = okOf U κ) :
    Vc U κ s w (viewT t off n) [.slice (some ⟨b, o + off, none⟩) n n] ∧ (viewT t off n).isAgg = false := by
  subst hok
  have bad : Vc U κ s w .bad [.slice (some ⟨b, o + off, none⟩) n n] := .bad (by simp [Value.oneCell'])
  unfold viewT
  split
  · rename_i m bs
    split
    · rename_i hle
      have hle' : off + n ≤ m := by simpa using hle
      refine ⟨.p ?_, rfl⟩
      cases ht with
      | ba hb =>
        refine .bl (by simp; omega) (Nat.le_refl _) (fun _ => rfl) (fun j v hj => ?_)
        have hjn : j < n := by
          rcases Nat.lt_or_ge j n with q | q
          · exact q
          · rw [List.getElem?_eq_none (by simp; omega)] at hj; cases hj
        rw [List.getElem?_take_of_lt hjn, List.getElem?_drop] at hj
        have := hc (off + j) (byteV v) (by simp [hj])
        rw [Nat.add_assoc]; exact this
    · exact ⟨bad, rfl⟩
  · rename_i ts
    split
    · exact ⟨bad, rfl⟩
    · rename_i t0 r
      split
      · rename_i hle
        simp only [Bool.and_eq_true, Nat.blt_eq, beq_iff_eq, Nat.ble_eq, List.all_eq_true] at hle
        obtain ⟨⟨⟨h0, h1⟩, h2⟩, h3⟩ := hle
        refine ⟨.p ?_, rfl⟩
        cases ht with
        | agg hts =>
          have hA := tcs_take n (tcs_drop (off / t0.sz) hts (fun t ht => by simpa using h3 t ht)) (fun t ht => by simpa using h3 t (List.drop_subset _ _ ht))
          rw [h1] at hA
          refine .lst (by simp at h2 ⊢; omega) (Nat.le_refl _) (fun _ => rfl) (fun t ht => by simpa using h3 t (List.drop_subset _ _ (List.take_subset _ _ ht))) hA (fun j v hj => ?_)
          have hjn : j < n * t0.sz := by
            rcases Nat.lt_or_ge j (n * t0.sz) with q | q
            · exact q
            · rw [List.getElem?_eq_none (by simp; omega)] at hj; cases hj
          rw [List.getElem?_take_of_lt hjn, List.getElem?_drop] at hj
          have := hc (off + j) v hj
          rw [Nat.add_assoc]; exact this
      · exact ⟨bad, rfl⟩
  · exact ⟨bad, rfl⟩

theorem intNat_eq {i : Int} {n : Nat} (h : intNat i = some n) : i = n := by
  cases i <;> simp [intNat] at h; subst h; rfl

theorem index_ok {st : St} {a : Act} (h : Rel U κ st a w) {o : Oper} {ty e : TypeId} {x ix : Operand} (ho : o.op = .index ty x ix) {len j n : Nat} {k : IntKind} {i : Int} {ag : Bool} {v u : V} (h1 : P.underlying ty = some (.array len e)) (hn : tySz P e = some n) (ha : tyAg P e = some ag)
    (hx : VV U κ st.s w v (a.eval x)) (hi : VV U κ st.s w (.p (.int k i)) (a.eval ix)) (hj : i = j) (hlt : j < len) (hag : v.isAgg = true) (hu : V.at' v (j * n) n ag = some u) : OpOk P U κ st.s a w o ⟨u, st.s, []⟩ := by
  have hx1 := VV_one hx (by cases v <;> first | rfl | simp [V.isAgg] at hag)
  obtain ⟨c1, c2, c3, c4⟩ := V.at_spec hx1.1 hu
  have hxa := hx1.2
  rw [hag] at hxa
  generalize he : a.eval x = y at hxa hx1 c1 c4
  cases y <;> simp [isAggV] at hxa
  rename_i cells
  simp only [Value.cells] at c1 c4
  obtain ⟨z, hr, hz⟩ := run_part (P := P) (w := w) hn ha (cs := (cells.toList.drop (j * n)).take n) (by simp at c4 ⊢; omega) (fun e => by rw [← c2]; exact V.isAgg_false_sz (by rw [c3, e])) rfl
  refine OpOk.still h.store (x := z) ?_ (VV_of1 (VV1_cells c1 c3 hz))
  have hi' := TV_int (VV_p hi)
  subst hj
  unfold execOp
  simp only [ho, he, hi']
  refine run_v _ ?_
  have h5 : (0 : Int) ≤ (j : Int) ∧ (j : Int) < (len : Int) := by omega
  simp [Instr.index, asIntOf, run_under h1, Result.andThen, h5, hlt, run_size hn, hr]

theorem indexStr_ok {st : St} {a : Act} (h : Rel U κ st a w) {o : Oper} {ty : TypeId} {x ix : Operand} (ho : o.op = .index ty x ix) {j : Nat} {k : IntKind} {i : Int} {b : ByteArray} {c : UInt8} (h1 : P.underlying ty = some .string)
    (hx : VV U κ st.s w (.p (.str b)) (a.eval x)) (hi : VV U κ st.s w (.p (.int k i)) (a.eval ix)) (hj : i = j) (hc : b[j]? = some c) : OpOk P U κ st.s a w o ⟨.p (.int .u8 c.toNat), st.s, []⟩ := by
  refine OpOk.still h.store (x := .int .u8 c.toNat) ?_ (VV_of (.of_cells (.int _ _) rfl))
  have hi' := TV_int (VV_p hi)
  have hx' := TV_str (VV_p hx)
  subst hj
  unfold execOp
  simp only [ho, hx', hi']
  refine run_v _ ?_
  simp [Instr.index, asIntOf, run_under h1, Result.andThen, hc]

/-- A bound, in the model. -/
theorem bnd_spec {st : St} {a : Act} (h : Rel U κ st a w) {g : Option (Nat × Bool)} (hg : GuardOk a g) {x : Option Operand} {r : Option Nat} (hb : bndOf (evalO P st.t g 0) x = some r) :
    (x.map a.eval = none ∧ r = none) ∨ ∃ k n, x.map a.eval = some (.int k (n : Nat)) ∧ r = some n := by
  unfold bndOf at hb
  split at hb
  · injection hb with hb; exact .inl ⟨rfl, hb.symm⟩
  · rename_i y
    split at hb
    · rename_i k i e
      simp only [Option.map_eq_some_iff] at hb
      obtain ⟨n, hn, rfl⟩ := hb
      have := intNat_eq hn
      subst this
      exact .inr ⟨k, n, by rw [Option.map_some, TV_int (VV_p (evalO_spec h hg e))], rfl⟩
    · cases hb

theorem bnds_run {st : St} {a : Act} (h : Rel U κ st a w) {g : Option (Nat × Bool)} (hg : GuardOk a g) {lo hi mx : Option Operand} {n l hh : Nat} {m : Option Nat} (hb : bnds (evalO P st.t g 0) n lo hi mx = some (l, hh, m)) :
    l ≤ hh ∧ hh ≤ n ∧ (∀ k, m = some k → hh ≤ k ∧ k ≤ n) ∧ ∀ sl cap, n ≤ cap → (Instr.sliceBounds sl n cap (lo.map a.eval) (hi.map a.eval) (mx.map a.eval)).run P w = .ok (l, hh, m.getD cap) w := by
  unfold bnds at hb
  split at hb
  · rename_i l' h' m' e1 e2 e3
    split at hb
    · rename_i hc
      simp only [Bool.and_eq_true, Nat.ble_eq, Bool.or_eq_true] at hc
      obtain ⟨⟨⟨c0, c1⟩, c2⟩, c3⟩ := hc
      simp only [Option.some.injEq, Prod.mk.injEq] at hb
      obtain ⟨rfl, rfl, rfl⟩ := hb
      have hm : ∀ k, m' = some k → h'.getD n ≤ k ∧ k ≤ n := fun k hk => by subst hk; simpa [bndM] using c3
      refine ⟨c1, c2, hm, fun sl cap hcap => ?_⟩
      have sb : ∀ (k : IntKind) (v y : Nat) (code : BoundsCode), v ≤ y → (Instr.sliceBound (.int k (v : Int)) y code).run P w = .ok v w := fun k v y code hv => by
        have := run_sliceBound (P := P) w k (v : Int) y code (by omega) (by omega)
        simpa using this
      rcases bnd_spec h hg e1 with ⟨l1, l2⟩ | ⟨kl, vl, l1, l2⟩ <;> rcases bnd_spec h hg e2 with ⟨h1, h2⟩ | ⟨kh, vh, h1, h2⟩ <;> rcases bnd_spec h hg e3 with ⟨m1, m2⟩ | ⟨km, vm, m1, m2⟩ <;> subst l2 h2 m2 <;> rw [l1, h1, m1] <;> simp only [Option.getD_none, Option.getD_some] at c1 c2 hm ⊢
      · simp [Instr.sliceBounds]
      · have hmx : mx.isNone = false := by cases mx <;> simp at m1 ⊢
        have hhi : hi.isSome = false := by cases hi <;> simp at h1 ⊢
        rw [hmx, hhi] at c0; simp at c0
      · simp [Instr.sliceBounds, sb kh vh cap _ (by omega), Result.andThen]
      · have := hm vm rfl
        simp [Instr.sliceBounds, sb kh vh vm _ (by omega), sb km vm cap _ (by omega), Result.andThen]
      · simp [Instr.sliceBounds, sb kl vl n _ (by omega), Result.andThen]
      · have hmx : mx.isNone = false := by cases mx <;> simp at m1 ⊢
        have hhi : hi.isSome = false := by cases hi <;> simp at h1 ⊢
        rw [hmx, hhi] at c0; simp at c0
      · simp [Instr.sliceBounds, sb kh vh cap _ (by omega), sb kl vl vh _ (by omega), Result.andThen]
      · have := hm vm rfl
        simp [Instr.sliceBounds, sb kh vh vm _ (by omega), sb km vm cap _ (by omega), sb kl vl vh _ (by omega), Result.andThen]
    · cases hb
  · cases hb

/-- A part of a slice's tree. -/
theorem cut_ok {u t : T} {base : Option Addr} {n cap sz l h : Nat} {m : Option Nat} (hx : Tc w ok u [.slice base n cap]) (hlen : u.len = some n) (hk : kindE sz u) (hc : cutT u (l, h, m) = some t) (h1 : l ≤ h) (h2 : h ≤ n) (h3 : ∀ k, m = some k → h ≤ k ∧ k ≤ n) :
    n ≤ cap ∧ Tc w ok t [.slice (if m.getD cap = l then base else base.map (·.add (l * sz))) (h - l) (m.getD cap - l)] ∧ t.isAgg = false := by
  cases u with
  | bl x bs =>
    simp only [cutT, Option.some.injEq] at hc
    simp only [T.len, Option.some.injEq] at hlen
    simp only [kindE] at hk
    subst hk hlen
    cases hx with
    | blnil =>
      have hl0 : l = 0 := by simp at h2; omega
      have hh0 : h = 0 := by simpa using h2
      subst hl0 hh0
      refine ⟨Nat.le_refl _, ?_, by rw [← hc]; rfl⟩
      have hm0 : m.getD 0 = 0 := by cases m with | none => rfl | some k => have := h3 k rfl; simp at this ⊢; omega
      rw [hm0, ← hc]
      simpa using Tc.blnil
    | bl0 q =>
      rename_i ad
      have hl0 : l = 0 := by simp at h2; omega
      have hh0 : h = 0 := by simpa using h2
      subst hl0 hh0
      refine ⟨Nat.zero_le _, ?_, by rw [← hc]; rfl⟩
      have hbase : ∀ k, (if m.getD cap = 0 then some ad else (some ad).map (·.add (0 * k))) = some ad := by intro k; split <;> simp [Addr.add]
      rw [hbase, ← hc]
      simp only [Nat.sub_self, Nat.sub_zero]
      refine Tc.bl0 fun hf => ?_
      unfold cutX at hf
      cases m with
      | none => simp only [Bool.and_eq_true, beq_iff_eq] at hf; have := q hf.1; simp only [Option.getD_none]; omega
      | some k => simp only [beq_iff_eq] at hf; subst hf; rfl
    | bl q1 q2 q3 q4 =>
      rename_i b o
      refine ⟨q2, ?_, by rw [← hc]; rfl⟩
      have hmle : h ≤ m.getD cap := by cases m with | none => simp; omega | some k => exact (h3 k rfl).1
      have hflag : cutX m x h bs.length = true → m.getD cap - l = h - l := by
        intro hf
        unfold cutX at hf
        cases m with
        | none => simp only [Bool.and_eq_true, beq_iff_eq] at hf; have := q3 hf.1; simp only [Option.getD_none]; omega
        | some k => simp only [beq_iff_eq] at hf; subst hf; rfl
      rw [← hc]
      by_cases hml : m.getD cap = l
      · rw [if_pos hml]
        have : h = l := by omega
        subst this
        have he : (bs.take h).drop h = [] := List.drop_eq_nil_of_le (by simp; omega)
        rw [he]
        refine Tc.bl (by simp) (by omega) hflag (fun j v hj => by simp at hj)
      · rw [if_neg hml, Option.map_some, addr_add]
        refine Tc.bl (by simp; omega) (by omega) hflag (fun j v hj => ?_)
        rw [List.getElem?_drop] at hj
        have hlt : l + j < h := by
          rcases Nat.lt_or_ge (l + j) h with q | q
          · exact q
          · rw [List.getElem?_eq_none (by simp; omega)] at hj; cases hj
        rw [List.getElem?_take_of_lt hlt] at hj
        have := q4 (l + j) v hj
        rw [Nat.mul_one, Nat.add_assoc]; exact this
  | lst x e ts =>
    simp only [cutT, Option.some.injEq] at hc
    simp only [T.len, Option.some.injEq] at hlen
    simp only [kindE] at hk
    subst hk hlen
    cases hx with
    | lstnil =>
      have hl0 : l = 0 := by simp at h2; omega
      have hh0 : h = 0 := by simpa using h2
      subst hl0 hh0
      refine ⟨Nat.le_refl _, ?_, by rw [← hc]; rfl⟩
      have hm0 : m.getD 0 = 0 := by cases m with | none => rfl | some k => have := h3 k rfl; simp at this ⊢; omega
      rw [hm0, ← hc]
      simpa using Tc.lstnil
    | lst0 q =>
      rename_i ad
      have hl0 : l = 0 := by simp at h2; omega
      have hh0 : h = 0 := by simpa using h2
      subst hl0 hh0
      refine ⟨Nat.zero_le _, ?_, by rw [← hc]; rfl⟩
      have hbase : ∀ k, (if m.getD cap = 0 then some ad else (some ad).map (·.add (0 * k))) = some ad := by intro k; split <;> simp [Addr.add]
      rw [hbase, ← hc]
      simp only [Nat.sub_self, Nat.sub_zero]
      refine Tc.lst0 fun hf => ?_
      unfold cutX at hf
      cases m with
      | none => simp only [Bool.and_eq_true, beq_iff_eq] at hf; have := q hf.1; simp only [Option.getD_none]; omega
      | some k => simp only [beq_iff_eq] at hf; subst hf; rfl
    | lst q1 q2 q3 q4 q5 q6 =>
      rename_i cs b o
      refine ⟨q2, ?_, by rw [← hc]; rfl⟩
      have hmle : h ≤ m.getD cap := by cases m with | none => simp; omega | some k => exact (h3 k rfl).1
      have hflag : cutX m x h ts.length = true → m.getD cap - l = h - l := by
        intro hf
        unfold cutX at hf
        cases m with
        | none => simp only [Bool.and_eq_true, beq_iff_eq] at hf; have := q3 hf.1; simp only [Option.getD_none]; omega
        | some k => simp only [beq_iff_eq] at hf; subst hf; rfl
      rw [← hc]
      by_cases hml : m.getD cap = l
      · rw [if_pos hml]
        have : h = l := by omega
        subst this
        have he : (ts.take h).drop h = [] := List.drop_eq_nil_of_le (by simp; omega)
        rw [he]
        refine Tc.lst (by simp) (by omega) hflag (by simp) .nil (fun j v hj => by simp at hj)
      · rw [if_neg hml, Option.map_some, addr_add]
        have hsub : ∀ t ∈ (ts.take h).drop l, t.sz = e := fun t ht => q4 t (List.take_subset _ _ (List.drop_subset _ _ ht))
        have hT := tcs_drop l (tcs_take h q5 q4) (fun t ht => q4 t (List.take_subset _ _ ht))
        refine Tc.lst (by simp; omega) (by omega) hflag hsub hT (fun j v hj => ?_)
        rw [List.getElem?_drop] at hj
        have hlt : l * e + j < h * e := by
          rcases Nat.lt_or_ge (l * e + j) (h * e) with q | q
          · exact q
          · rw [List.getElem?_eq_none (by simp; omega)] at hj; cases hj
        rw [List.getElem?_take_of_lt hlt] at hj
        have := q6 (l * e + j) v hj
        rw [Nat.add_assoc]; exact this
  | _ => simp [cutT] at hc

theorem slice_tree_ok {st : St} {a : Act} (h : Rel U κ st a w) {g : Option (Nat × Bool)} (hg : GuardOk a g) {o : Oper} {ty e : TypeId} {x : Operand} {lo hi mx : Option Operand} (ho : o.op = .slice ty x lo hi mx) {xv : V} {u t : T} {n sz l hh : Nat} {m : Option Nat} (hu : P.underlying ty = some (.slice e))
    (hx : VV U κ st.s w xv (a.eval x)) (hs : xv.slice? = some u) (hl : u.len = some n) (hsz : tySz P e = some sz) (hk : kindE sz u) (hb : bnds (evalO P st.t g 0) n lo hi mx = some (l, hh, m)) (hc : cutT u (l, hh, m) = some t) : OpOk P U κ st.s a w o ⟨.p t, st.s, []⟩ := by
  obtain ⟨b1, b2, b3, b4⟩ := bnds_run h hg hb
  have hT := slice?_spec hs hx
  obtain ⟨base, cap, cs, e1, e2, e3, e4, e5⟩ := slice_parts hT hl hk
  have hag : u.isAgg = false := by cases u <;> first | rfl | exact hk.elim
  have hT1 := hT.cell hag
  rw [e1] at hT1
  obtain ⟨c1, c2, c3⟩ := cut_ok hT1 hl hk hc b1 b2 b3
  refine OpOk.still h.store ?_ (VV_of (.of_cells c2 c3))
  unfold execOp
  simp only [ho, e1]
  refine run_v _ ?_
  simp [Instr.sliceAt, Instr.slice, run_under hu, Result.andThen, b4 true cap c1, run_size hsz]

theorem slice_rp_ok {st : St} {a : Act} (h : Rel U κ st a w) {g : Option (Nat × Bool)} (hg : GuardOk a g) {o : Oper} {ty e : TypeId} {x : Operand} {lo hi mx : Option Operand} (ho : o.op = .slice ty x lo hi mx) {u : T} {len n off l hh : Nat} {m : Option Nat} (hu : P.underlying ty = some (.array len e))
    (hx : VV U κ st.s w (.p (.rp u off)) (a.eval x)) (hsz : tySz P e = some n) (hb : bnds (evalO P st.t g 0) len lo hi mx = some (l, hh, m)) (hlt : l < hh) (hm : m.getD len = hh) {v : V} {sub : T} (hsub : T.at' u off (len * n) true = some sub) (hv : viewT sub (l * n) (hh - l) = v) : OpOk P U κ st.s a w o ⟨v, st.s, []⟩ := by
  obtain ⟨b1, b2, b3, b4⟩ := bnds_run h hg hb
  have hc := (VV_p hx).cell rfl
  generalize hex : a.eval x = vx at hc
  cases hc with
  | rp q1 q2 =>
    rename_i cs b o'
    obtain ⟨s1, s2, s3, s4⟩ := T.at_spec q1 hsub
    have q3 : ∀ (j : Nat) (v : Value), ((cs.drop off).take (len * n))[j]? = some v → w.cell? ⟨b, (o' + off) + j, none⟩ = some v ∧ okOf U κ b ((o' + off) + j) := fun j v hj => by
      have hjl : j < len * n := by
        rcases Nat.lt_or_ge j (len * n) with q | q
        · exact q
        · rw [List.getElem?_eq_none (by simp; omega)] at hj; cases hj
      rw [List.getElem?_take_of_lt hjl, List.getElem?_drop] at hj
      have := q2 (off + j) v hj
      rw [Nat.add_assoc]; exact this
    have hT := viewT_spec (off := l * n) (n := hh - l) s1 q3 (κ := κ) (s := st.s) rfl
    rw [hv] at hT
    refine OpOk.still h.store ?_ (VV_of1 (VV1_of_cell hT.1 hT.2))
    unfold execOp
    simp only [ho, hex]
    refine run_v _ ?_
    have hne : ¬ m.getD len = l := by omega
    simp [Instr.sliceAt, run_under hu, Result.andThen, Instr.sureAddr, b4 false len (Nat.le_refl _), run_size hsz, hne, addr_add, hm, Nat.add_assoc]
    intro e; omega

theorem slice_ptr_ok {st : St} {a : Act} (h : Rel U κ st a w) {g : Option (Nat × Bool)} (hg : GuardOk a g) {o : Oper} {ty e : TypeId} {x : Operand} {lo hi mx : Option Operand} (ho : o.op = .slice ty x lo hi mx) {len n id off l hh : Nat} {m : Option Nat} (hu : P.underlying ty = some (.array len e))
    (hx : VV U κ st.s w (.ptr id off) (a.eval x)) (hsz : tySz P e = some n) (hb : bnds (evalO P st.t g 0) len lo hi mx = some (l, hh, m)) (hlt : l < hh) (hm : m.getD len = hh) : OpOk P U κ st.s a w o ⟨.view id (off + l * n) (hh - l), st.s, []⟩ := by
  obtain ⟨b1, b2, b3, b4⟩ := bnds_run h hg hb
  obtain ⟨pl, v0, h1, h2, h3⟩ := VV_ptr hx
  refine OpOk.still h.store ?_ (VV_of1 (VV1_of_cell (.view h1 h2) rfl))
  unfold execOp
  simp only [ho, h3]
  refine run_v _ ?_
  have hne : ¬ m.getD len = l := by omega
  simp [Instr.sliceAt, run_under hu, Result.andThen, Instr.sureAddr, b4 false len (Nat.le_refl _), run_size hsz, hne, addr_add, hm]
  intro e; omega

/-- Nothing of an array. -/
theorem slice_ptr0_ok {st : St} {a : Act} (h : Rel U κ st a w) {g : Option (Nat × Bool)} (hg : GuardOk a g) {o : Oper} {ty e : TypeId} {x : Operand} {lo hi mx : Option Operand} (ho : o.op = .slice ty x lo hi mx) {len n id off l : Nat} {m : Option Nat} (hu : P.underlying ty = some (.array len e))
    (hx : VV U κ st.s w (.ptr id off) (a.eval x)) (hsz : tySz P e = some n) (hb : bnds (evalO P st.t g 0) len lo hi mx = some (l, l, m)) (hm : m.getD len ≠ l) {t : T} (ht : ∀ b o' cap, TV w (okOf U κ) t (.slice (some ⟨b, o', none⟩) 0 cap)) : OpOk P U κ st.s a w o ⟨.p t, st.s, []⟩ := by
  obtain ⟨b1, b2, b3, b4⟩ := bnds_run h hg hb
  obtain ⟨pl, v0, h1, h2, h3⟩ := VV_ptr hx
  refine OpOk.still (x := .slice (some ⟨pl.blk, off + l * n, none⟩) 0 (m.getD len - l)) h.store ?_ (VV_of (ht _ _ _))
  unfold execOp
  simp only [ho, h3]
  refine run_v _ ?_
  simp [Instr.sliceAt, run_under hu, Result.andThen, Instr.sureAddr, b4 false len (Nat.le_refl _), run_size hsz, hm, addr_add]

end Go.HM
