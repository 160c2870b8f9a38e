/- HM, part I: zero values, alloc, box, load, store, moves, addresses. -/
import Derived.Test.YtaghnihkkofmnaaGreatHmH
namespace Go.HM

variable {P : Program} {U : Nat → Nat → Prop} {κ : List Place} {s : List SObj} {w : World} {ok : Nat → Nat → Prop}

theorem chkBytes_spec : ∀ {bs : List Int} {cs r : List Value}, chkBytes bs cs = some r → cs = bs.map byteV ++ r
  | [], cs, r, h => by simp [chkBytes] at h; simp [h]
  | b :: bs, [], r, h => by simp [chkBytes] at h
  | b :: bs, c :: cs, r, h => by
    unfold chkBytes at h
    split at h
    · rename_i b' bs' e; cases e
    · rename_i b' bs' c' cs' e1 e2
      injection e1 with e3 e4; injection e2 with e5 e6
      subst e3 e4 e5 e6
      split at h
      · rename_i hb
        have hb' : b = c' := by simpa using hb
        subst hb'
        rw [chkBytes_spec h]; rfl
      · cases h
    · cases h

theorem chk1_spec {p : Value → Bool} {cs r : List Value} (h : chk1 p cs = some r) : ∃ c, cs = [c] ++ r ∧ p c = true := by
  cases cs with
  | nil => simp [chk1] at h
  | cons c cs => simp only [chk1] at h; split at h; rename_i hp; injection h with h; subst h; exact ⟨c, rfl, hp⟩; cases h

mutual
theorem T.chk_spec : ∀ {t : T} {cs r : List Value}, T.chk t cs = some r → ∃ c, cs = c ++ r ∧ Tc w ok t c
  | .int k n, cs, r, h => by
    simp only [T.chk] at h; obtain ⟨c, e, hp⟩ := chk1_spec h
    cases c <;> simp at hp
    obtain ⟨rfl, rfl⟩ := hp; exact ⟨_, e, .int _ _⟩
  | .bool b, cs, r, h => by
    simp only [T.chk] at h; obtain ⟨c, e, hp⟩ := chk1_spec h
    cases c <;> simp at hp
    subst hp; exact ⟨_, e, .bool _⟩
  | .str b, cs, r, h => by
    simp only [T.chk] at h; obtain ⟨c, e, hp⟩ := chk1_spec h
    cases c <;> simp at hp
    rename_i u; obtain ⟨d⟩ := u; obtain ⟨d'⟩ := b; simp at hp; subst hp; exact ⟨_, e, .str _⟩
  | .flt k n, cs, r, h => by
    simp only [T.chk] at h; obtain ⟨c, e, hp⟩ := chk1_spec h
    cases c <;> simp at hp
    obtain ⟨rfl, rfl⟩ := hp; exact ⟨_, e, .flt _ _⟩
  | .nilP, cs, r, h => by
    simp only [T.chk] at h; obtain ⟨c, e, hp⟩ := chk1_spec h
    split at hp <;> first | exact ⟨_, e, .nilP⟩ | cases hp
  | .nilM, cs, r, h => by
    simp only [T.chk] at h; obtain ⟨c, e, hp⟩ := chk1_spec h
    split at hp <;> first | exact ⟨_, e, .nilM⟩ | cases hp
  | .nilF, cs, r, h => by
    simp only [T.chk] at h; obtain ⟨c, e, hp⟩ := chk1_spec h
    split at hp <;> first | exact ⟨_, e, .nilF⟩ | cases hp
  | .nilI, cs, r, h => by
    simp only [T.chk] at h; obtain ⟨c, e, hp⟩ := chk1_spec h
    split at hp <;> first | exact ⟨_, e, .nilI⟩ | cases hp
  | .bl _ [], cs, r, h => by
    simp only [T.chk] at h; obtain ⟨c, e, hp⟩ := chk1_spec h
    split at hp <;> first | exact ⟨_, e, .blnil⟩ | cases hp
  | .bl _ (_ :: _), cs, r, h => by simp [T.chk] at h
  | .lst _ _ [], cs, r, h => by
    simp only [T.chk] at h; obtain ⟨c, e, hp⟩ := chk1_spec h
    split at hp <;> first | exact ⟨_, e, .lstnil⟩ | cases hp
  | .lst _ _ (_ :: _), cs, r, h => by simp [T.chk] at h
  | .ba n bs, cs, r, h => by
    simp only [T.chk] at h
    split at h
    · rename_i hn; exact ⟨_, chkBytes_spec h, .ba (by simpa using hn)⟩
    · cases h
  | .agg ts, cs, r, h => by
    simp only [T.chk] at h
    obtain ⟨c, a, b⟩ := T.chks_spec h
    exact ⟨c, a, .agg b⟩
  | .rp _ _, cs, r, h => by simp [T.chk] at h
  | .clo _ _, cs, r, h => by simp [T.chk] at h
theorem T.chks_spec : ∀ {ts : List T} {cs r : List Value}, T.chks ts cs = some r → ∃ c, cs = c ++ r ∧ Tcs w ok ts c
  | [], cs, r, h => by simp [T.chks] at h; subst h; exact ⟨[], rfl, .nil⟩
  | t :: ts, cs, r, h => by
    simp only [T.chks] at h
    split at h
    · rename_i r' e
      obtain ⟨c, h1, h2⟩ := T.chk_spec e
      obtain ⟨d, h3, h4⟩ := T.chks_spec h
      exact ⟨c ++ d, by rw [h1, h3, List.append_assoc], .cons h2 h4⟩
    · cases h
end

theorem zeroOf_spec {t : TypeId} {z : T} (h : zeroOf P t = some z) : ∃ i v, P.info? t = some i ∧ i.zero = some v ∧ TV w ok z v ∧ z.sz = i.size := by
  unfold zeroOf at h
  split at h
  · rename_i z' i e1 e2
    split at h
    · rename_i v e3
      split at h
      · rename_i e4
        split at h
        · rename_i hc
          injection h with h; subst h
          simp only [Bool.and_eq_true, beq_iff_eq] at hc
          obtain ⟨c, a, b⟩ := T.chk_spec (w := w) (ok := ok) e4
          exact ⟨i, v, e2, e3, ⟨by rw [a, List.append_nil]; exact b, hc.1⟩, hc.2⟩
        · cases h
      · cases h
    · cases h
  · cases h

theorem run_info {t : TypeId} {i : TypeInfo} (h : P.info? t = some i) : (typeInfo t).run P w = .ok i w := by
  simp [typeInfo, h]

theorem run_zero {t : TypeId} {i : TypeInfo} {v : Value} (h : P.info? t = some i) (hz : i.zero = some v) : (zeroValue t).run P w = .ok v w := by
  simp [zeroValue, run_info h, hz, Result.andThen]

theorem run_size {t : TypeId} {n : Nat} (h : tySz P t = some n) : (sizeOf t).run P w = .ok n w := by
  unfold tySz at h
  split at h
  · rename_i i e; injection h with h; simp [sizeOf, run_info e, Result.andThen, ← h]
  · cases h

theorem run_under {t : TypeId} {d : TypeDesc} (h : P.underlying t = some d) : (underlying t).run P w = .ok d w := by
  simp [underlying, h]

theorem run_isAgg {t : TypeId} {b : Bool} (h : tyAg P t = some b) : (Go.isAgg t).run P w = .ok b w := by
  unfold tyAg at h
  unfold Go.isAgg
  split at h
  · rename_i e; injection h with h; subst h; simp [run_under e, Result.andThen]
  · rename_i e; injection h with h; subst h; simp [run_under e, Result.andThen]
  · rename_i d h1 h2 e; injection h with h; subst h
    simp only [Sem.run_bind, run_under e, Result.andThen]
    cases d <;> first | rfl | exact absurd rfl (h1 _) | exact absurd rfl (h2 _ _)
  · cases h

theorem addr_add (b o n : Nat) : (⟨b, o, none⟩ : Addr).add n = ⟨b, o + n, none⟩ := by unfold Addr.add; split <;> simp_all

/-- A variable is read. -/
theorem run_loadVar {t : TypeId} {n b o : Nat} {ag : Bool} {cs : List Value} (hs : tySz P t = some n) (ha : tyAg P t = some ag) (hl : cs.length = n) (h1 : ag = false → n = 1)
    (hc : ∀ (j : Nat) (v : Value), cs[j]? = some v → w.cell? ⟨b, o + j, none⟩ = some v) : ∃ x, (loadVar t ⟨b, o, none⟩).run P w = .ok x w ∧ ((ag = true ∧ x = .agg cs.toArray) ∨ (ag = false ∧ cs = [x])) := by
  unfold loadVar
  cases ag with
  | true =>
    refine ⟨.agg cs.toArray, ?_, .inl ⟨rfl, rfl⟩⟩
    have := run_loadCells_list (P := P) w ⟨b, o, none⟩ cs (fun j v hj => by rw [addr_add]; exact hc j v hj)
    rw [hl] at this
    simp [run_isAgg ha, Result.andThen, run_size hs, this]
  | false =>
    have hn := h1 rfl
    obtain ⟨x, rfl⟩ : ∃ x, cs = [x] := by
      cases cs with
      | nil => simp at hl; omega
      | cons x r => cases r with
        | nil => exact ⟨x, rfl⟩
        | cons y r => simp at hl; omega
    refine ⟨x, ?_, .inr ⟨rfl, rfl⟩⟩
    have := hc 0 x rfl
    simp only [Nat.add_zero] at this
    simp [run_isAgg ha, Result.andThen, this]

theorem VV1_cells {v : V} {x : Value} {cs : List Value} {ag : Bool} (hv : Vc U κ s w v cs) (ha : v.isAgg = ag) (hx : (ag = true ∧ x = .agg cs.toArray) ∨ (ag = false ∧ cs = [x])) : VV1 U κ s w v x := by
  rcases hx with ⟨rfl, rfl⟩ | ⟨rfl, rfl⟩
  · exact ⟨by simpa [Value.cells] using hv, by rw [ha]; rfl⟩
  · exact VV1_of_cell hv ha

theorem TV_cells {v : T} {x : Value} {cs : List Value} {ag : Bool} (hv : Tc w ok v cs) (ha : v.isAgg = ag) (hx : (ag = true ∧ x = .agg cs.toArray) ∨ (ag = false ∧ cs = [x])) : TV w ok v x := by
  rcases hx with ⟨rfl, rfl⟩ | ⟨rfl, rfl⟩
  · exact ⟨by simpa [Value.cells] using hv, by rw [ha]; rfl⟩
  · exact .of_cells hv ha

theorem drop_take_get {α : Type} (l : List α) (o n j : Nat) (v : α) (h : ((l.drop o).take n)[j]? = some v) : l[o + j]? = some v := by
  rw [List.getElem?_take] at h
  split at h
  · rwa [List.getElem?_drop] at h
  · cases h

theorem heap_cell {b : Nat} {cells : Array Value} {e : TypeId} {fr : Nat × Nat} (h : w.heap[b]? = some (.cells cells e fr)) (o : Nat) : w.cell? ⟨b, o, none⟩ = cells[o]? := by
  simp [World.cell?, h]

theorem RelS.boxCells (h : RelS U κ s w) {id : Nat} {v : V} {pl : Place} (hs : s[id]? = some (.box v)) (hk : κ[id]? = some pl) :
    pl.on = true ∧ pl.lo = 0 ∧ pl.hi = v.sz ∧ pl.blk < w.heap.size ∧ ∃ cells elem, BoxAt w pl.blk cells elem ∧ Vc U κ s w v cells.toList := h.obj id _ pl hs hk

/-- LOAD out of a box. -/
theorem load_box {st : St} {a : Act} (h : Rel U κ st a w) {o : Oper} {ty : TypeId} {ax : Operand} (ho : o.op = .load ty ax) {id off n : Nat} {ag : Bool} {v u : V} (hx : VV U κ st.s w (.ptr id off) (a.eval ax))
    (hn : tySz P ty = some n) (ha : tyAg P ty = some ag) (hb : st.s[id]? = some (.box v)) (hu : V.at' v off n ag = some u) : OpOk P U κ st.s a w o ⟨u, st.s, []⟩ := by
  obtain ⟨pl, v', h1, h2, h3⟩ := VV_ptr hx
  obtain ⟨_, _, _, _, cells, elem, h4, h5⟩ := h.store.boxCells hb h2
  obtain ⟨c1, c2, c3, c4⟩ := V.at_spec h5 hu
  obtain ⟨x, hr, hx'⟩ := run_loadVar (P := P) (w := w) (b := pl.blk) (o := off) hn ha (cs := (cells.toList.drop off).take n) (by simp at c4 ⊢; omega)
    (fun e => by rw [← c2]; exact V.isAgg_false_sz (by rw [c3, e]))
    (fun j y hj => by rw [h4.cell]; have := drop_take_get _ _ _ _ _ hj; simpa using this)
  refine OpOk.still h.store (x := x) ?_ (VV_of1 (VV1_cells c1 c3 hx'))
  unfold execOp
  simp only [ho, h3]
  exact run_v _ (by simp [Instr.loadAt, Instr.sureAddr, hr, Result.andThen])

/-- LOAD out of memory that stays. -/
theorem load_rp {st : St} {a : Act} (h : Rel U κ st a w) {o : Oper} {ty : TypeId} {ax : Operand} (ho : o.op = .load ty ax) {off n : Nat} {ag : Bool} {v u : T} (hx : VV U κ st.s w (.p (.rp v off)) (a.eval ax))
    (hn : tySz P ty = some n) (ha : tyAg P ty = some ag) (hu : T.at' v off n ag = some u) : OpOk P U κ st.s a w o ⟨.p u, st.s, []⟩ := by
  have hx1 := (VV_p hx).cell rfl
  generalize he : a.eval ax = y at hx1
  cases hx1 with
  | rp h5 h6 =>
    rename_i cs b o'
    obtain ⟨c1, c2, c3, c4⟩ := T.at_spec h5 hu
    obtain ⟨x, hr, hx'⟩ := run_loadVar (P := P) (w := w) (b := b) (o := o' + off) hn ha (cs := (cs.drop off).take n) (by simp; omega)
      (fun e => by rw [← c2]; exact T.isAgg_false_sz (by rw [c3, e]))
      (fun j y hj => by have := h6 _ _ (drop_take_get _ _ _ _ _ hj); rw [show o' + off + j = o' + (off + j) by omega]; exact this.1)
    refine OpOk.still h.store (x := x) ?_ (VV_of (TV_cells c1 c3 hx'))
    unfold execOp
    simp only [ho, he]
    exact run_v _ (by simp [Instr.loadAt, Instr.sureAddr, hr, Result.andThen])

/-- ALLOC. -/
theorem alloc_ok {st : St} {a : Act} (h : Rel U κ st a w) {o : Oper} {e : TypeId} (ho : o.op = .alloc e) {z : T} (hz : zeroOf P e = some z) : OpOk P U κ st.s a w o ⟨.ptr st.s.length 0, st.s ++ [.box (.p z)], []⟩ := by
  obtain ⟨i, v, h1, h2, h3, h4⟩ := zeroOf_spec (w := w) (ok := okOf U κ) hz
  obtain ⟨r1, r2, r3⟩ := h.box (v := .p z) (cells := v.cells) e (.p h3.1)
  refine ⟨.value (.pointer (some ⟨w.heap.size, 0, none⟩)), _, _, ?_, .inl ⟨_, rfl, VV_of1 (VV1_of_cell r3 rfl)⟩, r1.store, r2, Ext.append h.store.len _ _⟩
  unfold execOp
  simp only [ho]
  exact run_v _ (by simp [Instr.alloc, run_zero h1 h2, Result.andThen, newVar, newRow])

theorem plain_spec {v : V} {x : Value} (h : VV1 U κ s w v x) : VV1 U κ s w v.plain x := by
  cases v with
  | rb b => have := VV_rb (VV_of1 h); subst this; exact VV1_of (.of_cells (.bool _) rfl)
  | _ => exact h

theorem okPart_plain {v : V} (h : okPart v = true) : okPart v.plain = true := by cases v <;> first | exact h | rfl

/-- BOX. -/
theorem box_ok {st : St} {a : Act} (h : Rel U κ st a w) {o : Oper} {e : TypeId} {x : Operand} (ho : o.op = .box e x) {v : V} (hv : VV U κ st.s w v (a.eval x)) (hp : okPart v = true) : OpOk P U κ st.s a w o ⟨.ptr st.s.length 0, st.s ++ [.box v.plain], []⟩ := by
  obtain ⟨r1, r2, r3⟩ := h.box (v := v.plain) (cells := (a.eval x).cells) e (plain_spec (VV_one hv hp)).1
  refine ⟨.value (.pointer (some ⟨w.heap.size, 0, none⟩)), _, _, ?_, .inl ⟨_, rfl, VV_of1 (VV1_of_cell r3 rfl)⟩, r1.store, r2, Ext.append h.store.len _ _⟩
  unfold execOp
  simp only [ho]
  exact run_v _ (by simp [Instr.box, Result.andThen, newVar, newRow])

end Go.HM
