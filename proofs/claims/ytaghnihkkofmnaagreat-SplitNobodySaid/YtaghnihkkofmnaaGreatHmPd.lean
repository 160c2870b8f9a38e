/- HM, part Pd: made slices, views, strings' bytes. -/
import Derived.Test.YtaghnihkkofmnaaGreatHmPc
import Derived.Laws.MakeOwn
import Derived.Laws.IdiomStrings
namespace Go.HM

variable {P : Program} {U : Nat → Nat → Prop} {κ : List Place} {s : List SObj} {w : World} {ok : Nat → Nat → Prop}

theorem VV_view {id off n : Nat} {x : Value} (h : VV U κ s w (.view id off n) x) : ∃ pl v, s[id]? = some (.box v) ∧ κ[id]? = some pl ∧ x = .slice (some ⟨pl.blk, off, none⟩) n n := by
  have h' := Vc_one_cell (VV_one h rfl) rfl
  cases h' with | view a b => exact ⟨_, _, a, b, rfl⟩

theorem indexAddr_view {st : St} {a : Act} (h : Rel U κ st a w) {o : Oper} {ty e : TypeId} {x ix : Operand} (ho : o.op = .indexAddr ty x ix) {n m id off j : Nat} {k : IntKind} {i : Int} (h1 : P.underlying ty = some (.slice e)) (h3 : tySz P e = some (n + 1))
    (hx : VV U κ st.s w (.view id off m) (a.eval x)) (hi : VV U κ st.s w (.p (.int k i)) (a.eval ix)) (hj : i = j) (hlt : j < m) : OpOk P U κ st.s a w o ⟨.ptr id (off + j * (n + 1)), st.s, []⟩ := by
  obtain ⟨pl, v, e1, e2, e3⟩ := VV_view hx
  refine OpOk.still h.store ?_ (VV_of1 (VV1_of_cell (.ptr e1 e2) rfl))
  unfold execOp
  have hi' := TV_int (VV_p hi)
  subst hj
  simp only [ho, e3, hi']
  exact run_v _ (run_indexAt_sl h1 h3 hlt)

theorem load_seg {st : St} {a : Act} (h : Rel U κ st a w) {o : Oper} {ty : TypeId} {ax : Operand} (ho : o.op = .load ty ax) {id off n : Nat} {v : V} {t u : T} (hx : VV U κ st.s w (.ptr id off) (a.eval ax))
    (hn : tySz P ty = some n) (ha : tyAg P ty = some true) (hb : st.s[id]? = some (.box v)) (ht : v.toT = some t) (hu : T.seg t off n = some u) : OpOk P U κ st.s a w o ⟨.p u, st.s, []⟩ := by
  obtain ⟨pl, v', h1, h2, h3⟩ := VV_ptr hx
  obtain ⟨_, _, _, _, cells, elem, h4, h5⟩ := h.store.boxCells hb h2
  obtain ⟨c1, c2, c4⟩ := T.seg_spec (V.toT_spec ht h5).1 hu
  obtain ⟨x, hr, hx'⟩ := run_loadVar (P := P) (w := w) (b := pl.blk) (o := off) hn ha (cs := (cells.toList.drop off).take n) (by simp at c4 ⊢; omega)
    (fun e => by cases e)
    (fun j y hj => by rw [h4.cell]; have := drop_take_get _ _ _ _ _ hj; simpa using this)
  refine OpOk.still h.store (x := x) ?_ (VV_of (TV_cells c1 c2 hx'))
  unfold execOp
  simp only [ho, h3]
  exact run_v _ (by simp [Instr.loadAt, Instr.sureAddr, hr, Result.andThen])

theorem toArr_ok {st : St} {a : Act} (h : Rel U κ st a w) {o : Oper} {ty e : TypeId} {x : Operand} (ho : o.op = .sliceToArrayPointer ty x) {len n id off : Nat} (h1 : P.underlying ty = some (.array len e)) (hx : VV U κ st.s w (.view id off n) (a.eval x)) (hle : len ≤ n) : OpOk P U κ st.s a w o ⟨.ptr id off, st.s, []⟩ := by
  obtain ⟨pl, v, e1, e2, e3⟩ := VV_view hx
  refine OpOk.still h.store ?_ (VV_of1 (VV1_of_cell (.ptr e1 e2) rfl))
  unfold execOp
  simp only [ho, e3]
  refine run_v _ ?_
  have : ¬ n < len := by omega
  simp [Instr.arrayAt, run_under h1, Result.andThen, this]

theorem madeCells_list (z : Array Value) (hz : 0 < z.size) (c : Nat) : (madeCells z (c * z.size)).toList = (List.replicate c z.toList).flatten := by
  rw [← range_mod _ (by simpa using hz)]
  simp only [madeCells, Array.toList_map, Array.toList_range, Array.length_toList]
  apply List.map_congr_left
  intro i hi
  have hlt : i % z.size < z.size := Nat.mod_lt _ hz
  rw [getElem!_pos z (i % z.size) hlt, getElem!_pos z.toList (i % z.size) (by simpa using hlt)]
  simp

theorem tcs_replicate {t : T} {cs : List Value} (h : Tc w ok t cs) : ∀ n : Nat, Tcs w ok (List.replicate n t) (List.replicate n cs).flatten
  | 0 => by simpa using Tcs.nil
  | n + 1 => by simp only [List.replicate_succ, List.flatten_cons]; exact .cons h (tcs_replicate h n)

theorem flatten_one {α : Type} (v : α) : ∀ n : Nat, (List.replicate n [v]).flatten = List.replicate n v
  | 0 => rfl
  | n + 1 => by simp only [List.replicate_succ, List.flatten_cons, flatten_one v n]; rfl

theorem zerosT_tc {z : T} {cs : List Value} (h : Tc w ok z cs) (h0 : ∀ n, z = .int .u8 n → n = 0) (n : Nat) : Tc w ok (zerosT z n) (List.replicate n cs).flatten ∧ (zerosT z n).sz = n * z.sz := by
  unfold zerosT
  split
  · rename_i m
    have := h0 m rfl
    subst this
    cases h
    rw [flatten_one]
    refine ⟨?_, by simp [T.sz]⟩
    have := Tc.ba (w := w) (ok := ok) (n := n) (bs := List.replicate n 0) (by simp)
    rw [List.map_replicate] at this
    exact this
  · refine ⟨.agg (tcs_replicate h n), ?_⟩
    have : ∀ k : Nat, T.szs (List.replicate k z) = k * z.sz := by
      intro k
      induction k with
      | zero => simp [T.szs]
      | succ k ih => simp only [List.replicate_succ, T.szs, ih, Nat.succ_mul]; omega
    simp only [T.sz, this]

theorem zerosS_tc {z : T} {zc : List Value} (h : Tc w ok z zc) (h0 : ∀ n, z = .int .u8 n → n = 0) (n cap b : Nat) (x : Bool) (hc : n ≤ cap) (hx : x = true → cap = n)
    (hm : ∀ (j : Nat) (v : Value), ((List.replicate n zc).flatten)[j]? = some v → w.cell? ⟨b, j, none⟩ = some v ∧ ok b j) : Tc w ok (zerosS z n x) [.slice (some ⟨b, 0, none⟩) n cap] ∧ (zerosS z n x).isAgg = false := by
  unfold zerosS
  split
  · rename_i m
    have := h0 m rfl
    subst this
    cases h
    rw [flatten_one] at hm
    refine ⟨.bl (by simp) hc hx (fun j v hj => ?_), rfl⟩
    rw [Nat.zero_add]
    refine hm j (byteV v) ?_
    have hjn : j < n := by rcases Nat.lt_or_ge j n with q | q; exact q; rw [List.getElem?_eq_none (by simp; omega)] at hj; cases hj
    rw [List.getElem?_replicate_of_lt hjn] at hj ⊢
    injection hj with hj; subst hj; rfl
  · refine ⟨.lst (by simp) hc hx (fun t ht => by rw [(List.mem_replicate.1 ht).2]) (tcs_replicate h n) (fun j v hj => ?_), rfl⟩
    rw [Nat.zero_add]
    exact hm j v hj

theorem zero_u8 {e : TypeId} {z : T} (h : zeroOf P e = some z) : ∀ n, z = .int .u8 n → n = 0 := by
  intro n hn
  subst hn
  unfold zeroOf at h
  split at h
  · rename_i z' i e1 e2
    split at h
    · split at h
      · split at h
        · injection h with h
          subst h
          unfold zeroT at e1
          split at e1 <;> simp_all
          · unfold nilS at e1
            split at e1
            · cases e1
            · simp at e1
          · split at e1
            · cases e1
            · simp at e1
        · cases h
      · cases h
    · cases h
  · cases h

theorem frozen_push (w : World) (cs : Array Value) (e : TypeId) (j : Nat) : ({ w with heap := w.heap.push (.cells cs e) } : World).frozen? ⟨w.heap.size, j, none⟩ = false := by
  simp [World.frozen?]

theorem makeSlice_ok {st : St} {a : Act} (h : Rel U κ st a w) {o : Oper} {ty e : TypeId} {l c : Operand} (ho : o.op = .makeSlice ty l c) {kl kc : IntKind} {li ci : Int} {ln cn : Nat} {z : T} {i : TypeInfo} (hu : P.underlying ty = some (.slice e))
    (hl : VV U κ st.s w (.p (.int kl li)) (a.eval l)) (hc : VV U κ st.s w (.p (.int kc ci)) (a.eval c)) (hl2 : intNat li = some ln) (hc2 : intNat ci = some cn) (hz : zeroOf P e = some z) (hi : P.info? e = some i) (hle : ln ≤ cn) (hb : i.bytes * cn ≤ 281474976710656) (h63 : cn ≤ 9223372036854775807) (h0 : 0 < z.sz) (hzi : z.sz = i.size) :
    (ln = cn → OpOk P U κ st.s a w o ⟨.p (zerosS z cn true), st.s, []⟩ ∧ OpOk P U κ st.s a w o ⟨.view st.s.length 0 cn, st.s ++ [.box (.p (zerosT z cn))], []⟩) ∧ OpOk P U κ st.s a w o ⟨.row st.s.length 0 (zerosS z ln false), st.s ++ [.row 0 z.sz], []⟩ := by
  obtain ⟨iz, zv, z1, z2, z3, z4⟩ := zeroOf_spec (w := w) (ok := okOf U κ) hz
  rw [hi] at z1; injection z1 with z1; subst z1
  have hzs : zv.cells.size = i.size := by have := z3.1.len; rw [z4] at this; simpa using this
  have hz8 := zero_u8 hz
  have e1 := intNat_eq hl2
  have e2 := intNat_eq hc2
  subst e1 e2
  have hl' := TV_int (VV_p hl)
  have hc' := TV_int (VV_p hc)
  have hrun : (execOp a.eval o).run P w = .ok (.value (.slice (some ⟨w.heap.size, 0, none⟩) ln cn)) { w with heap := w.heap.push (.cells (madeCells zv.cells (cn * i.size)) e) } := by
    unfold execOp
    simp only [ho, hl', hc']
    refine run_v _ ?_
    have hb' : (i.bytes : Int) * (cn : Int) ≤ 281474976710656 := by
      have h : ((i.bytes * cn : Nat) : Int) ≤ 281474976710656 := by omega
      rwa [Int.natCast_mul] at h
    have := run_make (P := P) w ty e i zv hu hi z2 kl kc ln cn (by omega) (by omega) hb' (by omega)
    simp only [Int.toNat_natCast] at this
    exact this
  have hcells : (madeCells zv.cells (cn * i.size)).toList = (List.replicate cn zv.cells.toList).flatten := by
    rw [← hzs]; exact madeCells_list _ (by omega) _
  generalize hC : madeCells zv.cells (cn * i.size) = C at hrun hcells
  have hCs : C.size = cn * i.size := by rw [← hC, size_madeCells]
  refine ⟨fun hlc => ⟨?_, ?_⟩, ?_⟩
  · subst hlc
    obtain ⟨r1, r2⟩ := h.pushStill (.cells C e)
    obtain ⟨t1, t2⟩ := zerosS_tc (ok := okOf U κ) (z3.1.pres r2.pres) hz8 ln ln w.heap.size true (Nat.le_refl _) (fun _ => rfl) (fun j v hj => by
      rw [cell_push]
      exact ⟨by rw [← hcells] at hj; simpa using hj, h.store.okNew j⟩)
    exact ⟨_, _, κ, hrun, .inl ⟨_, rfl, VV_of (.of_cells t1 t2)⟩, r1.store, r2, .refl _ _⟩
  · subst hlc
    have hT := zerosT_tc (n := ln) z3.1 hz8
    have hV : Vc U κ st.s w (.p (zerosT z ln)) C.toList := .p (by rw [hcells]; exact hT.1)
    obtain ⟨b1, b2, b3⟩ := h.box e hV
    refine ⟨_, _, _, hrun, .inl ⟨_, rfl, ?_⟩, b1.store, b2, Ext.append h.store.len _ _⟩
    exact VV_of1 (VV1_of_cell (.view (v := .p (zerosT z ln)) (pl := ⟨w.heap.size, 0, (V.p (zerosT z ln)).sz, true⟩) (by simp) (by simp [← h.store.len])) rfl)
  · have hmul : ln * i.size ≤ cn * i.size := Nat.mul_le_mul_right _ hle
    have hst := step_push (U := U) (κ := κ) (w := w) (.cells C e) ⟨w.heap.size, ln * i.size, cn * i.size, true⟩ rfl
    have hs := h.store.push (.cells C e) ⟨w.heap.size, ln * i.size, cn * i.size, true⟩ (.row 0 z.sz) rfl (fun _ => ⟨by simp, fun o a b => by
      refine ⟨?_, frozen_push _ _ _ _, h.store.up _ _ (Nat.le_refl _)⟩
      rw [cell_push]
      simp only at b
      simp [hCs, b]⟩)
    have hokn : ∀ j, j < ln * i.size → okOf U (κ ++ [⟨w.heap.size, ln * i.size, cn * i.size, true⟩]) w.heap.size j := fun j hj => ⟨h.store.up _ _ (Nat.le_refl _), fun p hp hh => by
      rcases List.mem_append.1 hp with q | q
      · have := h.store.below p q hh.2.2.2; have := hh.1; omega
      · simp at q; subst q; have := hh.2.1; simp at this; omega⟩
    obtain ⟨t1, t2⟩ := zerosS_tc (ok := okOf U (κ ++ [⟨w.heap.size, ln * i.size, cn * i.size, true⟩])) (z3.1.pres hst.pres) hz8 ln cn w.heap.size false hle (fun e => by cases e) (fun j v hj => by
      rw [cell_push]
      have hjl : j < ln * i.size := by
        have := getElem?_lt hj
        simp at this
        rw [hzs] at this; exact this
      refine ⟨?_, hokn j hjl⟩
      have : (List.replicate cn zv.cells.toList).flatten[j]? = some v := by
        have e1 : List.replicate cn zv.cells.toList = List.replicate ln zv.cells.toList ++ List.replicate (cn - ln) zv.cells.toList := by rw [List.replicate_append_replicate]; congr 1; omega
        rw [e1, List.flatten_append, List.getElem?_append_left (getElem?_lt hj)]
        exact hj
      rw [← hcells] at this
      simpa using this)
    refine ⟨_, _, _, hrun, .inl ⟨_, rfl, ?_⟩, hs, hst, Ext.append h.store.len _ _⟩
    refine VV_of1 (VV1_of_cell (.row (cur := 0) (e := z.sz) t1 (by simp) (Nat.le_refl _) (fun _ => .inr ⟨⟨w.heap.size, ln * i.size, cn * i.size, true⟩, 0, ?_, rfl, rfl, by simp [hzi], by simp [hzi]⟩)) rfl)
    rw [← h.store.len]; simp

theorem grownCap_le (w : World) (n : Nat) (e : TypeId) : n ≤ grownCap w n 0 e := grownCap_ge w n 0 e

theorem bytesRow_get {b : ByteArray} {cap j : Nat} {v : Int} (h : (bytesOf b)[j]? = some v) : (bytesRow b cap)[j]? = some (byteV v) := by
  unfold bytesRow
  unfold bytesOf at h
  have hlt := getElem?_lt h
  rw [Array.getElem?_append_left (by simpa using hlt)]
  simp only [List.getElem?_map, Option.map_eq_some_iff] at h
  obtain ⟨c, hc, rfl⟩ := h
  simp only [Array.getElem?_map, Option.map_eq_some_iff]
  exact ⟨c, by simpa using hc, rfl⟩

theorem bytesOf_len (b : ByteArray) : (bytesOf b).length = b.size := by simp [bytesOf]

theorem strBytes_ok' {st : St} {a : Act} (h : Rel U κ st a w) {o : Oper} {src dst e : TypeId} {x : Operand} {b : ByteArray} (ho : o.op = .convert src dst x) (hx : a.eval x = .string b) (hs : P.underlying src = some .string) (hd : P.underlying dst = some (.slice e)) (he : P.underlying e = some (.int .u8)) :
    OpOk P U κ st.s a w o ⟨.row st.s.length 0 (.bl false (bytesOf b)), st.s ++ [.row 0 1], []⟩ := by
  have hr := run_bytes_of_string (P := P) w src dst e b hs hd he
  have hcap := grownCap_le w b.size e
  generalize grownCap w b.size 0 e = cap at hr hcap
  have hsz : (bytesRow b cap).size = cap := by simp [bytesRow]; omega
  rw [hsz] at hr
  have hrun : (execOp a.eval o).run P w = .ok (.value (.slice (some ⟨w.heap.size, 0, none⟩) b.size cap)) (w.drew.alloc (.cells (bytesRow b cap) e (cap, cap + 1))) := by
    unfold execOp
    simp only [ho, hx]
    exact run_v _ hr
  have hw' : w.drew.alloc (.cells (bytesRow b cap) e (cap, cap + 1)) = { ({ w with drawn := w.drawn + 1 } : World) with heap := w.heap.push (.cells (bytesRow b cap) e (cap, cap + 1)) } := rfl
  rw [hw'] at hrun
  have hst0 : Step U κ w κ { w with drawn := w.drawn + 1 } := (Kept.step0 ⟨rfl, rfl, rfl, Nat.le_refl _, fun _ _ _ => rfl⟩)
  have hcell : ∀ j, ({ ({ w with drawn := w.drawn + 1 } : World) with heap := w.heap.push (.cells (bytesRow b cap) e (cap, cap + 1)) } : World).cell? ⟨w.heap.size, j, none⟩ = (bytesRow b cap)[j]? := fun j => by simp [World.cell?]
  have hst := step_push (U := U) (κ := κ) (w := { w with drawn := w.drawn + 1 }) (.cells (bytesRow b cap) e (cap, cap + 1)) ⟨w.heap.size, b.size, cap, true⟩ rfl
  have hS := (h.drew (w.drawn + 1)).store.push (.cells (bytesRow b cap) e (cap, cap + 1)) ⟨w.heap.size, b.size, cap, true⟩ (.row 0 1) rfl (fun _ => ⟨by simp, fun o a b' => by
    refine ⟨?_, ?_, h.store.up _ _ (Nat.le_refl _)⟩
    · simp only at b'
      have := hcell o
      simp only at this
      rw [this]
      simp [hsz, b']
    · simp only at b'
      simp [World.frozen?]
      omega⟩)
  have hokn : ∀ j, j < b.size → okOf U (κ ++ [⟨w.heap.size, b.size, cap, true⟩]) w.heap.size j := fun j hj => ⟨h.store.up _ _ (Nat.le_refl _), fun p hp hh => by
    rcases List.mem_append.1 hp with q | q
    · have := h.store.below p q hh.2.2.2; have := hh.1; omega
    · simp at q; subst q; have := hh.2.1; simp at this; omega⟩
  refine ⟨_, _, _, hrun, .inl ⟨_, rfl, ?_⟩, hS, hst0.trans hst, Ext.append h.store.len _ _⟩
  have hT : Tc { ({ w with drawn := w.drawn + 1 } : World) with heap := w.heap.push (.cells (bytesRow b cap) e (cap, cap + 1)) } (okOf U (κ ++ [⟨w.heap.size, b.size, cap, true⟩])) (.bl false (bytesOf b)) [.slice (some ⟨w.heap.size, 0, none⟩) b.size cap] :=
    .bl (bytesOf_len b) hcap (fun e => by cases e) (fun j v hj => by
      have hlt := getElem?_lt hj
      rw [bytesOf_len] at hlt
      rw [Nat.zero_add, hcell j]
      exact ⟨bytesRow_get hj, hokn j hlt⟩)
  refine VV_of1 (VV1_of_cell (.row (cur := 0) (e := 1) hT (by simp) (Nat.le_refl _) (fun _ => .inr ⟨⟨w.heap.size, b.size, cap, true⟩, 0, ?_, rfl, rfl, by simp, by simp⟩)) rfl)
  rw [← h.store.len]; simp

theorem strBytes_ok {st : St} {a : Act} (h : Rel U κ st a w) {o : Oper} {src dst e : TypeId} {b : ByteArray} (ho : o.op = .convert src dst (.const (.string b))) (hs : P.underlying src = some .string) (hd : P.underlying dst = some (.slice e)) (he : P.underlying e = some (.int .u8)) :
    OpOk P U κ st.s a w o ⟨.row st.s.length 0 (.bl false (bytesOf b)), st.s ++ [.row 0 1], []⟩ := strBytes_ok' h ho rfl hs hd he

theorem SrcT.string {t : TypeId} {b : ByteArray} {y : Value} (ht : P.underlying t = some .string) (h : TV w ok (.str b) y) : SrcT P w ok t 1 y b.size (.bl true (bytesOf b)) := by
  rw [TV_str h]
  refine ⟨(bytesOf b).map byteV, ⟨⟨_, ht, fun k e => by cases e⟩, fun w' => rfl, fun w' _ => ?_, by simp [bytesOf_len], fun v hv => ?_⟩, rfl, rfl⟩
  · have : b.extract 0 b.size = b := by
      cases b with | mk d => simp [ByteArray.extract, ByteArray.size, ByteArray.copySlice]
    simp only [Builtin.firstCells, this, Sem.run_pure]
    congr 1
    apply Array.ext'
    simp [bytesOf, byteV, Function.comp_def]
  · obtain ⟨c, _, rfl⟩ := List.mem_map.1 hv; rfl

theorem SrcT.view {st : St} {a : Act} (h : Rel U κ st a w) {t e : TypeId} {id off n m : Nat} {v : V} {bs : List Int} {y : Value} (ht : P.underlying t = some (.slice e)) (hy : VV U κ st.s w (.view id off n) y) (hs : st.s[id]? = some (.box v)) (hv : v.toT = some (.ba m bs)) (hle : off + n ≤ m) :
    SrcT P w (okOf U κ) t 1 y n (.bl true ((bs.drop off).take n)) := by
  obtain ⟨pl, v0, h1, h2, h3⟩ := VV_view hy
  obtain ⟨_, _, _, _, cells, elem, h4, h5⟩ := h.store.boxCells hs h2
  have hT := (V.toT_spec hv h5).1
  have hb : cells.toList = bs.map byteV ∧ bs.length = m := by
    generalize cells.toList = l at hT
    cases hT with | ba q => exact ⟨rfl, q⟩
  subst h3
  have hcell : ∀ (j : Nat) (x : Value), (((bs.drop off).take n).map byteV)[j]? = some x → w.cell? ⟨pl.blk, off + j, none⟩ = some x := by
    intro j x hj
    rw [h4.cell]
    have hjn : j < n := by
      have := getElem?_lt hj
      simp at this; omega
    simp only [List.getElem?_map, List.getElem?_take_of_lt hjn, List.getElem?_drop] at hj
    have : cells.toList[off + j]? = some x := by rw [hb.1, List.getElem?_map]; exact hj
    simpa using this
  have hlen : (((bs.drop off).take n).map byteV).length = n * 1 := by simp; omega
  have hone : ∀ x ∈ ((bs.drop off).take n).map byteV, x.oneCell' = true := fun x hx => by obtain ⟨c, _, rfl⟩ := List.mem_map.1 hx; rfl
  refine ⟨((bs.drop off).take n).map byteV, .slice (ok := fun _ _ => True) ht ⟨hlen, Nat.le_refl _, .inr ⟨_, _, rfl, fun j x hj => ⟨hcell j x hj, trivial⟩⟩⟩ hone, rfl, rfl⟩

theorem SrcT.viewL {st : St} {a : Act} (h : Rel U κ st a w) {t e : TypeId} {id off n k : Nat} {v : V} {ts : List T} {y : Value} (ht : P.underlying t = some (.slice e)) (hy : VV U κ st.s w (.view id off k) y) (hs : st.s[id]? = some (.box v)) (hv : v.toT = some (.agg ts)) (h1 : off / n * n = off) (h2 : off / n + k ≤ ts.length) (h3 : ∀ t ∈ ts, t.sz = n) :
    SrcT P w (okOf U κ) t n y k (.lst true n ((ts.drop (off / n)).take k)) := by
  obtain ⟨pl, v0, v1, v2, v3⟩ := VV_view hy
  obtain ⟨_, _, _, _, cells, elem, h4, h5⟩ := h.store.boxCells hs v2
  have hT := (V.toT_spec hv h5).1
  have hTs : Tcs w (okOf U κ) ts cells.toList := by
    generalize cells.toList = l at hT
    cases hT with | agg q => exact q
  subst v3
  have hA := tcs_take k (tcs_drop (off / n) hTs h3) (fun t ht => h3 t (List.drop_subset _ _ ht))
  rw [h1] at hA
  have hlen : ((cells.toList.drop off).take (k * n)).length = k * n := by
    have hl := hA.len
    rw [hl, szs_all (e := n) (fun t ht => h3 t (List.drop_subset _ _ (List.take_subset _ _ ht)))]
    congr 1
    simp; omega
  refine ⟨(cells.toList.drop off).take (k * n), .slice (ok := fun _ _ => True) ht ⟨hlen, Nat.le_refl _, .inr ⟨_, _, rfl, fun j x hj => ⟨?_, trivial⟩⟩⟩ hA.one, rfl, hA, fun t ht => h3 t (List.drop_subset _ _ (List.take_subset _ _ ht))⟩
  rw [h4.cell]
  have hjn : j < k * n := by have := getElem?_lt hj; rw [hlen] at this; exact this
  rw [List.getElem?_take_of_lt hjn, List.getElem?_drop] at hj
  simpa using hj

theorem freeze_box {b : Nat} {cells : Array Value} {elem : TypeId} (h : BoxAt w b cells elem) : BoxAt (w.freeze ⟨b, cells.size, none⟩ 1) b cells elem ∧ (∀ k, k ≠ b → (w.freeze ⟨b, cells.size, none⟩ 1).heap[k]? = w.heap[k]?) ∧ (w.freeze ⟨b, cells.size, none⟩ 1).heap.size = w.heap.size ∧
    (w.freeze ⟨b, cells.size, none⟩ 1).os = w.os ∧ (w.freeze ⟨b, cells.size, none⟩ 1).tape = w.tape ∧ (w.freeze ⟨b, cells.size, none⟩ 1).output = w.output := by
  obtain ⟨fr, h1, h2⟩ := h
  have e : w.freeze ⟨b, cells.size, none⟩ 1 = { w with heap := w.heap.modify b fun | .cells c elem (lo, hi) => .cells c elem (if lo == hi then (cells.size, cells.size + 1) else (min lo cells.size, max hi (cells.size + 1))) | o => o } := by
    unfold World.freeze
    rw [if_neg (by decide)]
    rfl
  rw [e]
  refine ⟨⟨if fr.1 == fr.2 then (cells.size, cells.size + 1) else (min fr.1 cells.size, max fr.2 (cells.size + 1)), ?_, ?_⟩, fun k hk => ?_, by simp, rfl, rfl, rfl⟩
  · simp [Array.getElem?_modify, h1]
  · split
    · right; simp
    · rename_i hne
      right
      simp at hne ⊢
      omega
  · simp only [Array.getElem?_modify]; rw [if_neg (by omega)]

theorem RelS.mark (h : RelS U κ s w) {id : Nat} {v : V} {pl : Place} (hs : s[id]? = some (.box v)) (hk : κ[id]? = some pl) {w' : World} (hsz : w'.heap.size = w.heap.size) (h1 : w'.os = w.os) (h2 : w'.tape = w.tape) (h3 : w'.output = w.output)
    (hb : ∀ cells elem, BoxAt w pl.blk cells elem → BoxAt w' pl.blk cells elem) (hne : ∀ k, k ≠ pl.blk → w'.heap[k]? = w.heap[k]?) : RelS U κ s w' ∧ Step U κ w κ w' := by
  obtain ⟨hon, hlo, hhi, hlt, cells, elem, h4, h5⟩ := h.boxCells hs hk
  have h4' := hb _ _ h4
  have hkept : Kept κ w w' := ⟨h1, h2, h3, by omega, fun j _ hn => hne j (hn pl (List.mem_of_getElem? hk) hon)⟩
  have hpres : Pres w (okOf U κ) w' (okOf U κ) := fun b o y hy ho => by
    refine ⟨?_, ho⟩
    by_cases hbb : b = pl.blk
    · subst hbb; rw [h4.cell] at hy; rw [h4'.cell]; exact hy
    · rw [cell_heap (hne b hbb)]; exact hy
  refine ⟨⟨fun b o hbb => h.up b o (by omega), h.len, fun i o' p a b => ?_, h.apart, fun p a b => by rw [hsz]; exact h.below p a b, h.mine, h.glob.pres hpres⟩, hkept, fun p a b => .inl ⟨p, a, b, rfl⟩, hpres⟩
  by_cases hi : i = id
  · subst hi
    rw [hk] at b; injection b with b; subst b
    rw [hs] at a; injection a with a; subst a
    exact ⟨hon, hlo, hhi, by omega, cells, elem, h4', h5.ext hpres (.refl _ _)⟩
  · have hob := h.obj i o' p a b
    have hn : p.on = true → p.blk ≠ pl.blk := fun hp => h.apart i id p pl b hk hi hp hon
    cases o' with
    | box x =>
      obtain ⟨x0, x1, x2, x3, cs, el, x4, x5⟩ := hob
      exact ⟨x0, x1, x2, by omega, cs, el, x4.of_eq (hne _ (hn x0)), x5.ext hpres (.refl _ _)⟩
    | row c e =>
      intro x0
      obtain ⟨x3, x4⟩ := hob x0
      exact ⟨by omega, fun q q1 q2 => by rw [cell_heap (hne _ (hn x0)), frozen_heap (hne _ (hn x0))]; exact x4 q q1 q2⟩
    | map es =>
      obtain ⟨x0, x3, ents, clock, x4, x5⟩ := hob
      exact ⟨x0, by omega, ents, clock, by rw [hne _ (hn x0)]; exact x4, x5.pres hpres⟩
    | vec c x =>
      obtain ⟨x0, x1, x3, cs, el, ⟨cs', more, q1, q2⟩, x4, x5⟩ := hob
      exact ⟨x0, x1, by omega, cs, el, ⟨cs', more, q1, q2.ext hpres (.refl _ _)⟩, x4.of_eq (hne _ (hn x0)), x5⟩
    | dead => exact hob
    | lp ls pd d f n t ps as bd => exact ObjR.lpMove hpres (.refl _ _) (by omega) (fun x0 => hne _ (hn x0)) hob
    | dfr => exact ObjR.dfrMove (by omega) (fun x0 => hne _ (hn x0)) hob

theorem convMark_ok {st : St} {a : Act} (h : Rel U κ st a w) {o : Oper} {src e e0 : TypeId} {x : Operand} (ho : o.op = .convert src src x) (hs : P.underlying src = some (.slice e0)) (hd : P.underlying src = some (.slice e)) (he : P.underlying e = some (.int .u8)) {id off n : Nat} (hx : VV U κ st.s w (.view id off n) (a.eval x)) :
    OpOk P U κ st.s a w o ⟨.view id off n, st.s, []⟩ := by
  obtain ⟨pl, v, v1, v2, v3⟩ := VV_view hx
  obtain ⟨hon, hlo, hhi, hlt, cells, elem, h4, h5⟩ := h.store.boxCells v1 v2
  obtain ⟨g1, g2, g3, g4, g5, g6⟩ := freeze_box h4
  have h4c := h4
  obtain ⟨fr, h4a, _⟩ := h4c
  have hsh : w.shape? pl.blk = some (elem, cells.size) := by unfold World.shape?; rw [h4a]
  obtain ⟨r1, r2⟩ := h.store.mark v1 v2 g3 g4 g5 g6 (fun c el hb => by
    obtain ⟨fr', q1, _⟩ := hb
    rw [h4a] at q1
    injection q1 with q1; injection q1 with q1 q2 q3
    subst q1 q2
    exact g1) g2
  refine ⟨.value (.slice (some ⟨pl.blk, off, none⟩) n n), w.freeze ⟨pl.blk, cells.size, none⟩ 1, κ, ?_, .inl ⟨_, rfl, VV_of1 (VV1_of_cell (.view v1 v2) rfl)⟩, r1, r2, .refl _ _⟩
  unfold execOp
  simp only [ho, v3]
  refine run_v _ ?_
  simp [convert, run_underlying hs, run_underlying he, markStringish, hsh, Result.andThen]
  have : e0 = e := by rw [hs] at hd; injection hd with hd; injection hd
  subst this
  simp [run_underlying he, markStringish, hsh, Result.andThen]

/-- append onto a view that is full. -/
theorem appW_ok {st : St} {a : Act} (h : Rel U κ st a w) {o : Oper} {c : Call} {x y : Operand} {t e : TypeId} (ho : o.op = .call c) (hc : c.callee = .builtin .append) (ha : c.args = #[x, y]) (ht : c.argTypes = #[t, t])
    (hu : P.underlying t = some (.slice e)) {id off n : Nat} {u : T} {dec : Bool} (hx : VV U κ st.s w (.view id off n) (a.eval x)) (hy : ∀ q, u.len = some q → kindE 1 u → SrcT P w (okOf U κ) t 1 (a.eval y) q u) {q : OpR} (hq : appW P st.s e dec id off n u = some q) (hobs : ∀ p ∈ q.obs, p) : OpOk P U κ st.s a w o q := by
  unfold appW at hq
  split at hq
  · rename_i i v hi hs
    split at hq
    · rename_i m bs _ c0 cs0 hv
      split at hq
      · rename_i hcond
        rw [Bool.and_eq_true] at hcond
        obtain ⟨hcond, hdec⟩ := hcond
        simp only [Bool.and_eq_true, Nat.ble_eq, beq_iff_eq] at hcond
        obtain ⟨⟨⟨hby, hzs⟩, hn1⟩, hle⟩ := hcond
        obtain ⟨z, hz⟩ := Option.isSome_iff_exists.1 hzs
        injection hq with hq; subst hq
        have hsum : n + (cs0.length + 1) ≤ 4294967296 := by
          cases dec
          · exact hobs _ (by simp)
          · simpa using hdec
        obtain ⟨iz, zv, z1, z2, z3, z4⟩ := zeroOf_spec (w := w) (ok := okOf U κ) hz
        have hiz : iz = i := by rw [hi] at z1; injection z1 with z1; exact z1.symm
        subst hiz
        have hin : iz.size = 1 := by unfold tySz at hn1; rw [hi] at hn1; simpa using hn1
        have hxs := SrcT.view h hu hx hs hv hle
        obtain ⟨csx, sx, ex⟩ := hxs.src
        obtain ⟨ds, d2, d4⟩ := (hy (cs0.length + 1) (by simp [T.len]) rfl).src
        obtain ⟨pl, v0, w1, w2, w3⟩ := VV_view hx
        obtain ⟨_, _, _, _, cells, elem, h4, h5⟩ := h.store.boxCells hs w2
        have hT := (V.toT_spec hv h5).1
        have hb : cells.toList = bs.map byteV ∧ bs.length = m := by
          generalize cells.toList = l at hT
          cases hT with | ba q => exact ⟨rfl, q⟩
        have hcx : csx = ((bs.drop off).take n).map byteV := ex.2
        have hSx : SliceC w (fun _ _ => True) 1 csx (some ⟨pl.blk, off, none⟩) n n := by
          refine ⟨sx.len, Nat.le_refl _, .inr ⟨_, _, rfl, fun j v hj => ⟨?_, trivial⟩⟩⟩
          rw [h4.cell]
          rw [hcx] at hj
          have hjn : j < n := by
            have := getElem?_lt hj
            simp at this; omega
          simp only [List.getElem?_map, List.getElem?_take_of_lt hjn, List.getElem?_drop] at hj
          have : cells.toList[off + j]? = some v := by rw [hb.1, List.getElem?_map]; exact hj
          simpa using this
        rcases run_append (P := P) (w := w) (ok := fun _ _ => True) (oty := o.type) hu hi z2 hby hsum (by rw [hin]; exact hSx) (by rw [hin]; exact d2) (fun hle' => .inl ⟨_, _, rfl⟩) (fun hle' => by omega) with ⟨hle', _⟩ | ⟨newCap, hle', hrun⟩
        · omega
        · have hrun' := eval_append (P := P) (w := w) (a := a) ho hc ha ht (by rw [w3]; exact hrun)
          have hcsl : csx.length = n * 1 := sx.len
          have hdsl : ds.length = (cs0.length + 1) * 1 := d2.len
          have hzl : zv.cells.size = 1 := by have := z3.1.len; rw [z4, hin] at this; simpa using this
          have hsz : (csx.toArray ++ ds.toArray ++ Builtin.zeroCells zv.cells (newCap - (n + (cs0.length + 1)))).size = newCap * 1 := by
            simp only [Array.size_append, List.size_toArray, size_zeroCells, hzl, hcsl, hdsl, ← Nat.add_mul]
            congr 1; omega
          obtain ⟨g1, g2, g3⟩ := h.store.rowNew (csx.toArray ++ ds.toArray ++ Builtin.zeroCells zv.cells (newCap - (n + (cs0.length + 1)))) e ((n + (cs0.length + 1)) * 1) 1
          simp only [hsz] at g1 g2 g3
          refine ⟨_, _, _, hrun', .inl ⟨_, rfl, ?_⟩, g1, g2, Ext.append h.store.len _ _⟩
          have happ : appT (.bl true ((bs.drop off).take n)) (.bl true (c0 :: cs0)) = some (.bl false ((bs.drop off).take n ++ (c0 :: cs0))) := rfl
          have hd4 : ElemsC w (okOf U κ) 1 (.bl true (c0 :: cs0)) ds := d4
          have hap := app_elems happ (ex.pres g2.pres) (hd4.pres g2.pres)
          have hbl : ((bs.drop off).take n).length = n := by simp; omega
          have htc := elems_slice (b := w.heap.size) (o := 0) (n := n + (cs0.length + 1)) hap (by simp [T.len]; omega) hle' rfl (fun j v hj => by
            have hjl := getElem?_lt hj
            rw [Nat.zero_add, cell_drewAlloc]
            refine ⟨?_, g3 j (by rw [List.length_append, hcsl, hdsl, ← Nat.add_mul] at hjl; exact hjl)⟩
            rw [Array.getElem?_append_left (by simpa using hjl)]
            simpa using hj)
          refine VV_of1 (VV1_of_cell (.row (cur := 0) (e := 1) htc (by simp) (Nat.le_refl _) (fun _ => .inr ⟨⟨w.heap.size, (n + (cs0.length + 1)) * 1, newCap * 1, true⟩, 0, ?_, rfl, rfl, by simp, by simp⟩)) rfl)
          rw [← h.store.len]; simp
      · cases hq
    · cases hq
  · cases hq

theorem nilPtr_spec {v : V} {x : Value} {b : Bool} (h : VV U κ s w v x) (hb : nilPtr v = some b) : ∃ p, x = .pointer p ∧ p.isNone = b := by
  unfold nilPtr at hb
  split at hb <;> first
    | (injection hb with hb; subst hb)
    | cases hb
  · obtain ⟨pl, v, _, _, e⟩ := VV_ptr h; exact ⟨_, e, rfl⟩
  · have h1 := (VV_p h).cell rfl; cases h1; exact ⟨_, rfl, rfl⟩
  · exact ⟨_, TV_nilP (VV_p h), rfl⟩

theorem nilFn_spec {v : V} {x : Value} {b : Bool} (h : VV U κ s w v x) (hb : nilFn v = some b) : (x = .nilFunc ∧ b = true) ∨ ((∃ f xs cs, x = .func f xs cs) ∧ b = false) := by
  unfold nilFn at hb
  split at hb <;> first
    | (injection hb with hb; subst hb)
    | cases hb
  · have h1 := Vc_one_cell (VV_one h rfl) rfl
    generalize x = y at h1
    cases h1 with | clo _ _ => exact .inr ⟨⟨_, _, _, rfl⟩, rfl⟩
  · have h1 := (VV_p h).cell rfl
    generalize x = y at h1
    cases h1; exact .inr ⟨⟨_, _, _, rfl⟩, rfl⟩
  · have h1 := (VV_p h).cell rfl
    generalize x = y at h1
    cases h1; exact .inl ⟨rfl, rfl⟩

theorem nilMap_spec {v : V} {x : Value} {b : Bool} (h : VV U κ s w v x) (hb : nilMap v = some b) : ∃ p, x = .map p ∧ p.isNone = b := by
  unfold nilMap at hb
  split at hb <;> first
    | (injection hb with hb; subst hb)
    | cases hb
  · obtain ⟨_, pl, _, _, e⟩ := VV_map h; exact ⟨_, e, rfl⟩
  · exact ⟨_, TV_nilM (VV_p h), rfl⟩

theorem consSl {x : Bool} {e : Nat} {t : T} {ts : List T} {y : Value} (h : Tc w ok (.lst x e (t :: ts)) [y]) : ∃ a n c, y = .slice (some a) n c := by
  cases h with | lst => exact ⟨_, _, _, rfl⟩
theorem consBl {x : Bool} {t : Int} {ts : List Int} {y : Value} (h : Tc w ok (.bl x (t :: ts)) [y]) : ∃ a n c, y = .slice (some a) n c := by
  cases h with | bl => exact ⟨_, _, _, rfl⟩

theorem nilSl_spec {v : V} {x : Value} {b : Bool} (h : VV U κ s w v x) (hb : nilSl v = some b) : ∃ a n c, x = .slice a n c ∧ a.isNone = b := by
  unfold nilSl at hb
  split at hb <;> first
    | (injection hb with hb; subst hb)
    | cases hb
  · obtain ⟨pl, v, _, _, e⟩ := VV_view h; exact ⟨_, _, _, e, rfl⟩
  · have h1 := Vc_one_cell (VV_one h rfl) rfl
    generalize x = y at h1
    cases h1 with | row q _ _ _ => obtain ⟨a, n, c, e⟩ := consSl q; exact ⟨_, _, _, e, rfl⟩
  · have h1 := Vc_one_cell (VV_one h rfl) rfl
    generalize x = y at h1
    cases h1 with | row q _ _ _ => obtain ⟨a, n, c, e⟩ := consBl q; exact ⟨_, _, _, e, rfl⟩
  · have h1 := (VV_p h).cell rfl
    generalize x = y at h1
    cases h1 with | sl q1 q2 q3 => exact ⟨_, _, _, rfl, q2⟩
  · obtain ⟨a, n, c, e⟩ := consSl ((VV_p h).cell rfl); exact ⟨_, _, _, e, rfl⟩
  · obtain ⟨a, n, c, e⟩ := consBl ((VV_p h).cell rfl); exact ⟨_, _, _, e, rfl⟩

theorem eqIn_ptr (d : Nat) {t e : TypeId} (p : Option Addr) (hu : P.underlying t = some (.pointer e)) : (Op.equalIn (d + 1) t (.pointer p) (.pointer none)).run P w = .ok p.isNone w := by
  cases p <;> simp [Op.equalIn, run_underlying hu]
theorem eqIn_map (d : Nat) {t k e : TypeId} (p : Option Nat) (hu : P.underlying t = some (.map k e)) : (Op.equalIn (d + 1) t (.map p) (.map none)).run P w = .ok p.isNone w := by
  cases p <;> simp [Op.equalIn, run_underlying hu]
theorem eqIn_sl (d : Nat) {t e : TypeId} (p : Option Addr) (n c : Nat) (hu : P.underlying t = some (.slice e)) : (Op.equalIn (d + 1) t (.slice p n c) (.slice none 0 0)).run P w = .ok p.isNone w := by
  cases p <;> simp [Op.equalIn, run_underlying hu]

theorem eqIn_nf (d : Nat) {t : TypeId} {a b c} (hu : P.underlying t = some (.func a b c)) : (Op.equalIn (d + 1) t .nilFunc .nilFunc).run P w = .ok true w := by
  simp [Op.equalIn, run_underlying hu]
theorem eqIn_fn (d : Nat) {t : TypeId} {a b c f xs cs} (hu : P.underlying t = some (.func a b c)) : (Op.equalIn (d + 1) t (.func f xs cs) .nilFunc).run P w = .ok false w := by
  simp [Op.equalIn, run_underlying hu]

theorem nilK_ok {st : St} {a : Act} (h : Rel U κ st a w) {o : Oper} {op : BinOp} {xT yT : TypeId} {x : Operand} {y : Value} (ho : o.op = .binOp op xT x (.const y) yT) {v : V} {b : Bool} (hx : VV U κ st.s w v (a.eval x)) (hb : nilK P xT y v = some b) (hop : op = .eql ∨ op = .neq) :
    OpOk P U κ st.s a w o ⟨.rb (if op = .eql then b else !b), st.s, []⟩ := by
  have key : ∃ vx, a.eval x = vx ∧ (Op.equal xT vx y).run P w = .ok b w ∧ isAggV vx = false ∧ (∀ z, (binOp .eql xT vx y).run P z = ((Op.equal xT vx y).run P z).andThen fun r w' => .ok (.bool r) w') ∧ (∀ z, (binOp .neq xT vx y).run P z = ((Op.equal xT vx y).run P z).andThen fun r w' => .ok (.bool (!r)) w') ∧ (∀ op, eqGuard op xT x (.const y) vx y = pure ()) := by
    unfold nilK at hb
    split at hb
    · rename_i e1 e2 e3 hu
      rcases nilFn_spec hx hb with ⟨q1, rfl⟩ | ⟨⟨f, xs, cs, q1⟩, rfl⟩
      · refine ⟨_, rfl, ?_, by rw [q1]; rfl, fun z => ?_, fun z => ?_, fun op => by rw [q1]; cases op <;> rfl⟩
        · rw [q1]
          exact eqIn_nf 9999 hu
        · rw [q1]; simp only [binOp, Sem.run_bind, Sem.run_pure]
        · rw [q1]; simp only [binOp, Sem.run_bind, Sem.run_pure]
      · refine ⟨_, rfl, ?_, by rw [q1]; rfl, fun z => ?_, fun z => ?_, fun op => by rw [q1]; cases op <;> rfl⟩
        · rw [q1]
          exact eqIn_fn 9999 hu
        · rw [q1]; simp only [binOp, Sem.run_bind, Sem.run_pure]
        · rw [q1]; simp only [binOp, Sem.run_bind, Sem.run_pure]
    · rename_i e hu
      obtain ⟨p, e1, e2⟩ := nilPtr_spec hx hb
      refine ⟨_, rfl, ?_, by rw [e1]; rfl, fun z => ?_, fun z => ?_, fun op => by rw [e1]; cases op <;> rfl⟩
      · rw [e1, ← e2]
        exact eqIn_ptr 9999 p hu
      · rw [e1]; simp only [binOp, Sem.run_bind, Sem.run_pure]
      · rw [e1]; simp only [binOp, Sem.run_bind, Sem.run_pure]
    · rename_i e1 e2 hu
      obtain ⟨p, e1, e2⟩ := nilMap_spec hx hb
      refine ⟨_, rfl, ?_, by rw [e1]; rfl, fun z => ?_, fun z => ?_, fun op => by rw [e1]; cases op <;> rfl⟩
      · rw [e1, ← e2]
        exact eqIn_map 9999 p hu
      · rw [e1]; simp only [binOp, Sem.run_bind, Sem.run_pure]
      · rw [e1]; simp only [binOp, Sem.run_bind, Sem.run_pure]
    · rename_i e hu
      obtain ⟨p, n, c, e1, e2⟩ := nilSl_spec hx hb
      refine ⟨_, rfl, ?_, by rw [e1]; rfl, fun z => ?_, fun z => ?_, fun op => by rw [e1]; cases op <;> rfl⟩
      · rw [e1, ← e2]
        exact eqIn_sl 9999 p n c hu
      · rw [e1]; simp only [binOp, Sem.run_bind, Sem.run_pure]
      · rw [e1]; simp only [binOp, Sem.run_bind, Sem.run_pure]
    · cases hb
  obtain ⟨vx, k1, k2, k3, k4, k5, k6⟩ := key
  rcases hop with rfl | rfl
  · refine OpOk.still h.store (x := .bool b) ?_ (VV_of1 (VV1_of_cell (by simpa using Vc.rb b) rfl))
    unfold execOp
    simp only [ho]
    refine run_v _ ?_
    have : a.eval (.const y) = y := rfl
    rw [this, k1, Sem.run_bind, k6]
    simp [k4, k2, Result.andThen]
  · refine OpOk.still h.store (x := .bool (!b)) ?_ (VV_of1 (VV1_of_cell (by simpa using Vc.rb (!b)) rfl))
    unfold execOp
    simp only [ho]
    refine run_v _ ?_
    have : a.eval (.const y) = y := rfl
    rw [this, k1, Sem.run_bind, k6]
    simp [k5, k2, Result.andThen]

end Go.HM
