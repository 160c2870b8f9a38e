/- HN, part V: growing arrays that may be written. -/
import Derived.Test.YtaghnihkkofmnaaGreatHmY
namespace Go.HM

variable {P : Program} {U : Nat → Nat → Prop} {κ : List Place} {s : List SObj} {w : World} {ok : Nat → Nat → Prop}

def allSz (n : Nat) : List V → Bool
  | [] => true
  | v :: r => Nat.beq v.sz n && allSz n r

/-- Some elements of an array. -/
def segV (v : V) (off n k : Nat) : Option (List V) := match v with
  | .agg vs => if Nat.blt 0 n && (off / n * n == off) && Nat.ble (off / n + k) vs.length && allSz n vs then some ((vs.drop (off / n)).take k) else none
  | .p (.agg ts) => if Nat.blt 0 n && (off / n * n == off) && Nat.ble (off / n + k) ts.length && allSz n (ts.map .p) then some (((ts.map .p).drop (off / n)).take k) else none
  | .p (.ba _ bs) => if Nat.blt 0 n && (off / n * n == off) && Nat.ble (off / n + k) (bs.map fun b => V.p (.int .u8 b)).length && allSz n (bs.map fun b => V.p (.int .u8 b)) then some (((bs.map fun b => V.p (.int .u8 b)).drop (off / n)).take k) else none
  | _ => none

/-- What a slice holds. -/
def elemsV (s : List SObj) (n : Nat) (y : V) : Option (List V) := match y with
  | .view id off k => match s[id]? with
    | some (.box v) => segV v off n k
    | _ => none
  | .cv id ver off k e => match s[id]? with
    | some (.vec cur v) => if Nat.beq ver cur && Nat.beq e n then segV v off n k else none
    | _ => none
  | y => match y.slice? with
    | some (.lst _ e ts) => if Nat.beq e n then some (ts.map .p) else none
    | some (.bl _ bs) => if Nat.beq n 1 then some (bs.map fun b => .p (.int .u8 b)) else none
    | _ => none

theorem allSz_spec {n : Nat} : ∀ {vs : List V}, allSz n vs = true → ∀ v ∈ vs, v.sz = n
  | [], _, v, h => by simp at h
  | u :: r, h, v, hv => by
    simp only [allSz, Bool.and_eq_true, Nat.beq_eq] at h
    rcases List.mem_cons.1 hv with rfl | hv
    · exact h.1
    · exact allSz_spec h.2 v hv

theorem vszs_all {e : Nat} : ∀ {vs : List V}, (∀ v ∈ vs, v.sz = e) → V.szs vs = vs.length * e
  | [], _ => by simp [V.szs]
  | t :: ts, h => by rw [V.szs, h t (by simp), vszs_all (fun t ht => h t (by simp [ht])), List.length_cons, Nat.succ_mul]; omega

theorem vcs_drop {e : Nat} : ∀ {vs : List V} {cs : List Value} (k : Nat), Vcs U κ s w vs cs → (∀ v ∈ vs, v.sz = e) → Vcs U κ s w (vs.drop k) (cs.drop (k * e))
  | _, _, 0, h, _ => by simpa using h
  | [], _, k + 1, .nil, _ => by simpa using Vcs.nil
  | v :: vs, _, k + 1, .cons (cs := c) (ds := d) h1 h2, hs => by
    have hl := h1.len
    rw [hs v (by simp)] at hl
    rw [show (k + 1) * e = c.length + k * e by rw [Nat.succ_mul, hl]; omega, List.drop_length_add_append, List.drop_succ_cons]
    exact vcs_drop k h2 (fun t ht => hs t (by simp [ht]))

theorem vcs_take {e : Nat} : ∀ {vs : List V} {cs : List Value} (k : Nat), Vcs U κ s w vs cs → (∀ v ∈ vs, v.sz = e) → Vcs U κ s w (vs.take k) (cs.take (k * e))
  | _, _, 0, h, _ => by simpa using Vcs.nil
  | [], _, k + 1, .nil, _ => by simpa using Vcs.nil
  | v :: vs, _, k + 1, .cons (cs := c) (ds := d) h1 h2, hs => by
    have hl := h1.len
    rw [hs v (by simp)] at hl
    rw [show (k + 1) * e = c.length + k * e by rw [Nat.succ_mul, hl]; omega, List.take_length_add_append]
    exact .cons h1 (vcs_take k h2 (fun t ht => hs t (by simp [ht])))

theorem vcs_append : ∀ {vs us : List V} {cs ds : List Value}, Vcs U κ s w vs cs → Vcs U κ s w us ds → Vcs U κ s w (vs ++ us) (cs ++ ds)
  | _, _, _, _, .nil, k => by simpa using k
  | _, _, _, _, .cons a b, k => by rw [List.cons_append, List.append_assoc]; exact .cons a (vcs_append b k)

theorem vcs_p : ∀ {ts : List T} {cs : List Value}, Tcs w (okOf U κ) ts cs → Vcs U κ s w (ts.map .p) cs
  | _, _, .nil => .nil
  | _, _, .cons a b => .cons (.p a) (vcs_p b)

theorem vcs_bytes : ∀ (bs : List Int), Vcs U κ s w (bs.map fun b => V.p (.int .u8 b)) (bs.map byteV)
  | [] => .nil
  | b :: bs => .cons (cs := [byteV b]) (.p (.int .u8 b)) (vcs_bytes bs)

theorem segV_spec {v : V} {cs : List Value} {off n k : Nat} {us : List V} (hv : Vc U κ s w v cs) (h : segV v off n k = some us) :
    Vcs U κ s w us ((cs.drop off).take (k * n)) ∧ us.length = k ∧ (∀ u ∈ us, u.sz = n) ∧ off + k * n ≤ cs.length := by
  have main : ∀ {vs : List V}, Vcs U κ s w vs cs → (Nat.blt 0 n && (off / n * n == off) && Nat.ble (off / n + k) vs.length && allSz n vs) = true → us = (vs.drop (off / n)).take k →
      Vcs U κ s w us ((cs.drop off).take (k * n)) ∧ us.length = k ∧ (∀ u ∈ us, u.sz = n) ∧ off + k * n ≤ cs.length := by
    intro vs hvs hc hu
    simp only [Bool.and_eq_true, Nat.blt_eq, beq_iff_eq, Nat.ble_eq] at hc
    obtain ⟨⟨⟨h0, h1⟩, h2⟩, h3⟩ := hc
    have hall := allSz_spec h3
    subst hu
    have hA := vcs_take k (vcs_drop (off / n) hvs hall) (fun t ht => hall t (List.drop_subset _ _ ht))
    rw [h1] at hA
    refine ⟨hA, by simp; omega, fun u hu => hall u (List.drop_subset _ _ (List.take_subset _ _ hu)), ?_⟩
    rw [hvs.len, vszs_all hall]
    have := Nat.mul_le_mul_right n h2
    rw [Nat.add_mul] at this
    omega
  unfold segV at h
  split at h
  · split at h
    · rename_i hc; injection h with h; cases hv with | agg hv => exact main hv hc h.symm
    · cases h
  · split at h
    · rename_i hc; injection h with h
      cases hv with | p hv => cases hv with | agg hv => exact main (vcs_p hv) (by simpa using hc) h.symm
    · cases h
  · split at h
    · rename_i hc; injection h with h
      cases hv with | p hv => cases hv with | ba hv => exact main (vcs_bytes _) hc h.symm
    · cases h
  · cases h

/-- What is appended. -/
theorem elemsV_spec {st : St} {a : Act} (h : Rel U κ st a w) {t e : TypeId} {n : Nat} {y : V} {x : Value} {us : List V} (ht : P.underlying t = some (.slice e)) (hy : VV U κ st.s w y x) (he : elemsV st.s n y = some us) :
    ∃ ds, SrcC P w t n x us.length ds ∧ Vcs U κ st.s w us ds ∧ ∀ u ∈ us, u.sz = n := by
  unfold elemsV at he
  split at he
  · rename_i id off k
    split at he
    · rename_i v hs
      obtain ⟨pl, v0, h1, h2, h3⟩ := VV_view hy
      obtain ⟨_, _, _, _, cells, elem, h4, h5⟩ := h.store.boxCells hs h2
      obtain ⟨g1, g2, g3, g4⟩ := segV_spec h5 he
      subst h3 g2
      refine ⟨_, .slice (ok := fun _ _ => True) ht ⟨by simp at g4 ⊢; omega, Nat.le_refl _, .inr ⟨_, _, rfl, fun j v hj => ⟨?_, trivial⟩⟩⟩ g1.one, g1, g3⟩
      rw [h4.cell]
      have := drop_take_get _ _ _ _ _ hj
      simpa using this
    · cases he
  · rename_i id ver off k e'
    split at he
    · rename_i cur v hs
      split at he
      · rename_i hc
        simp only [Bool.and_eq_true, Nat.beq_eq] at hc
        obtain ⟨rfl, rfl⟩ := hc
        have hy1 := Vc_one_cell (VV_one hy rfl) rfl
        generalize x = vx at hy1
        cases hy1 with
        | cv q1 q2 q3 q4 =>
          rename_i cur' cap b v'
          rw [hs] at q1; injection q1 with q1; injection q1 with q1 q1'
          subst q1 q1'
          obtain ⟨pl, p1, p2, p3⟩ := q4 rfl
          obtain ⟨_, _, _, cells, elem, ⟨cs, more, c1, c2⟩, h4, h5⟩ := h.store.obj id _ pl hs p1
          obtain ⟨g1, g2, g3, g4⟩ := segV_spec c2 he
          subst p2 g2
          refine ⟨_, .slice (ok := fun _ _ => True) ht ⟨by simp at g4 ⊢; omega, q3, .inr ⟨_, _, rfl, fun j v hj => ⟨?_, trivial⟩⟩⟩ g1.one, g1, g3⟩
          rw [h4.cell]
          have := drop_take_get _ _ _ _ _ hj
          have h6 : cells.toList[off + j]? = some v := by rw [c1, List.getElem?_append_left (getElem?_lt this)]; exact this
          simpa using h6
      · cases he
    · cases he
  · split at he
    · rename_i xf e' ts hsl
      split at he
      · rename_i hc
        have hc' : e' = n := by simpa using hc
        subst hc'
        injection he with he; subst he
        have hT := slice?_spec hsl hy
        obtain ⟨base, cap, ds, d1, d2, d3, d4, _⟩ := slice_parts hT (n := ts.length) rfl (e := e') rfl
        obtain ⟨_, d5, d6⟩ := d4
        subst d1
        refine ⟨ds, by simpa using SrcC.slice ht d2 d3, vcs_p d5, fun u hu => ?_⟩
        obtain ⟨t, ht', rfl⟩ := List.mem_map.1 hu
        exact d6 t ht'
      · cases he
    · rename_i xf bs hsl
      split at he
      · rename_i hc
        have hc' : n = 1 := by simpa using hc
        subst hc'
        injection he with he; subst he
        have hT := slice?_spec hsl hy
        obtain ⟨base, cap, ds, d1, d2, d3, d4, _⟩ := slice_parts hT (n := bs.length) rfl (e := 1) rfl
        obtain ⟨_, d5⟩ := d4
        subst d1
        refine ⟨ds, by simpa using SrcC.slice ht d2 d3, by rw [d5]; exact vcs_bytes bs, fun u hu => ?_⟩
        obtain ⟨t, _, rfl⟩ := List.mem_map.1 hu
        rfl
      · cases he
    · cases he

/-! The store -/

theorem Ext.setVec {id cur cur' : Nat} {v v' : V} (hs : s[id]? = some (.vec cur v)) (pl' : Place) (hc : cur ≤ cur') (hk : cur' = cur → κ[id]? = some pl') : Ext κ s (κ.set id pl') (s.set id (.vec cur' v')) := by
  refine ⟨fun i x p a b => ?_, fun i x p a b => ?_, fun i c e' a => ?_, fun i c x a => ?_, fun i ls pd d f n t ps as bd p a b => ?_, fun i p a b => ?_⟩
  · have hi : id ≠ i := by rintro rfl; rw [hs] at a; cases a
    exact ⟨x, p, by rw [List.getElem?_set_ne hi]; exact a, by rw [List.getElem?_set_ne hi]; exact b, rfl⟩
  · have hi : id ≠ i := by rintro rfl; rw [hs] at a; cases a
    exact ⟨x, p, by rw [List.getElem?_set_ne hi]; exact a, by rw [List.getElem?_set_ne hi]; exact b, rfl⟩
  · have hi : id ≠ i := by rintro rfl; rw [hs] at a; cases a
    exact ⟨c, by rw [List.getElem?_set_ne hi]; exact a, Nat.le_refl _, fun _ => by rw [List.getElem?_set_ne hi]⟩
  · by_cases hi : id = i
    · subst hi
      rw [hs] at a; injection a with a; injection a with a1 a2; subst a1 a2
      refine ⟨cur', v', by rw [List.getElem?_set_self (getElem?_lt hs)], hc, fun h => ?_⟩
      have := hk h
      rw [List.getElem?_set_self (getElem?_lt this), this]
    · exact ⟨c, x, by rw [List.getElem?_set_ne hi]; exact a, Nat.le_refl _, fun _ => by rw [List.getElem?_set_ne hi]⟩
  · have hi : id ≠ i := by rintro rfl; rw [hs] at a; cases a
    exact ⟨ls, pd, t, p, by rw [List.getElem?_set_ne hi]; exact a, by rw [List.getElem?_set_ne hi]; exact b, rfl⟩
  · have hi : id ≠ i := by rintro rfl; rw [hs] at a; cases a
    exact ⟨p, by rw [List.getElem?_set_ne hi]; exact a, by rw [List.getElem?_set_ne hi]; exact b, rfl⟩

theorem RelS.setVec (h : RelS U κ s w) {id cur cur' : Nat} {v v' : V} {w' : World} (hs : s[id]? = some (.vec cur v)) (pl' : Place) (hc : cur ≤ cur') (hk : cur' = cur → κ[id]? = some pl') (hp : Pres w (okOf U κ) w' (okOf U (κ.set id pl'))) (hsz : w.heap.size ≤ w'.heap.size)
    (hother : ∀ i o pl, i ≠ id → s[i]? = some o → κ[i]? = some pl → pl.on = true → w'.heap[pl.blk]? = w.heap[pl.blk]? ∧ pl.blk ≠ pl'.blk)
    (hnew : ObjR U (κ.set id pl') (s.set id (.vec cur' v')) w' pl' (.vec cur' v')) (hm : ∀ o, U pl'.blk o) : RelS U (κ.set id pl') (s.set id (.vec cur' v')) w' := by
  have he := Ext.setVec (κ := κ) (v' := v') hs pl' hc hk
  have hobj : ∀ i pl, κ[i]? = some pl → ∃ o, s[i]? = some o := fun i pl hk => by
    have := getElem?_lt hk
    rw [h.len] at this
    exact ⟨s[i], List.getElem?_eq_getElem this⟩
  refine ⟨fun b o hb => h.up b o (by omega), by simp [h.len], fun i o pl a b => ?_, fun i j p p' a b hne hl hl' => ?_, fun p hp' hl => ?_, fun p hp' hl o => ?_, h.glob.pres hp⟩
  · rcases get_set_cases a with ⟨rfl, rfl⟩ | ⟨hi, a⟩
    · rcases get_set_cases b with ⟨_, rfl⟩ | ⟨hi, _⟩
      · exact hnew
      · exact absurd rfl hi
    · rcases get_set_cases b with ⟨e', _⟩ | ⟨_, b⟩
      · exact absurd e' hi
      · exact (h.obj i o pl a b).move hp he hsz (fun hon => (hother i o pl (Ne.symm hi) a b hon).1)
  · rcases get_set_cases a with ⟨rfl, rfl⟩ | ⟨hi, a⟩ <;> rcases get_set_cases b with ⟨rfl, rfl⟩ | ⟨hj, b⟩
    · exact absurd rfl hne
    · obtain ⟨o, ho⟩ := hobj j p' b
      exact ((hother j o p' (Ne.symm hj) ho b hl').2).symm
    · obtain ⟨o, ho⟩ := hobj i p a
      exact (hother i o p (Ne.symm hi) ho a hl).2
    · exact h.apart i j p p' a b hne hl hl'
  · obtain ⟨i, hi⟩ := List.getElem?_of_mem hp'
    rcases get_set_cases hi with ⟨rfl, rfl⟩ | ⟨_, hi⟩
    · exact hnew.2.2.1
    · have := h.below p (List.mem_of_getElem? hi) hl; omega
  · obtain ⟨i, hi⟩ := List.getElem?_of_mem hp'
    rcases get_set_cases hi with ⟨rfl, rfl⟩ | ⟨_, hi⟩
    · exact hm o
    · exact h.mine p (List.mem_of_getElem? hi) hl o

/-- A write into the array, where it lies. -/
theorem RelS.vecWrite (h : RelS U κ s w) {id cur cur' : Nat} {v v' : V} {pl : Place} (hs : s[id]? = some (.vec cur v)) (hk : κ[id]? = some pl) {cells : Array Value} {elem : TypeId} (hbox : BoxAt w pl.blk cells elem) (hhi : pl.hi = cells.size) {off : Nat} {us cs' more' : List Value}
    (hle : off + us.length ≤ cells.size) (hcur : cur ≤ cur') (hput : putCells cells.toList off us = cs' ++ more') (hv' : Vc U κ s w v' cs') :
    RelS U κ (s.set id (.vec cur' v')) (w.setCells pl.blk off us) ∧ Step U κ w κ (w.setCells pl.blk off us) ∧ Ext κ s κ (s.set id (.vec cur' v')) ∧
      (∀ j, j < us.length → (w.cell? ⟨pl.blk, off + j, none⟩).isSome = true ∧ w.frozen? ⟨pl.blk, off + j, none⟩ = false) := by
  obtain ⟨hon, hlo, hlt, _⟩ := h.obj id _ pl hs hk
  have hset : κ.set id pl = κ := by
    apply List.ext_getElem?
    intro j
    by_cases hj : id = j
    · subst hj; rw [List.getElem?_set_self (getElem?_lt hk), hk]
    · rw [List.getElem?_set_ne hj]
  obtain ⟨fr, h4a, h4b⟩ := hbox
  have h4 : BoxAt w pl.blk cells elem := ⟨fr, h4a, h4b⟩
  obtain ⟨cells', d1, d2⟩ := setCells_block pl.blk elem fr us off w cells h4a hle
  have dsz : cells'.size = cells.size := by
    have := congrArg List.length d2
    simp [putCells] at this
    omega
  have d3 : BoxAt (w.setCells pl.blk off us) pl.blk cells' elem := ⟨fr, d1, by rw [dsz]; exact h4b⟩
  obtain ⟨e1, e2, e3, e4, e5⟩ := setCells_rest pl.blk us off w
  have hkept : Kept κ w (w.setCells pl.blk off us) := ⟨e1, e2, e3, by omega, fun j _ hn => e5 j (hn pl (List.mem_of_getElem? hk) hon)⟩
  have hpres : Pres w (okOf U κ) (w.setCells pl.blk off us) (okOf U κ) := fun b o y hy ho => by
    refine ⟨?_, ho⟩
    by_cases hb : b = pl.blk
    · subst hb
      exfalso
      rw [h4.cell] at hy
      have : o < cells.size := by rcases Nat.lt_or_ge o cells.size with q | q; exact q; simp [Array.getElem?_eq_none q] at hy
      exact ho.2 pl (List.mem_of_getElem? hk) ⟨rfl, by omega, by omega, hon⟩
    · rw [cell_heap (e5 b hb)]; exact hy
  have hext : Ext κ s κ (s.set id (.vec cur' v')) := by
    have := Ext.setVec (κ := κ) (v' := v') hs pl hcur (fun _ => hk)
    rwa [hset] at this
  have hrel := h.setVec (v' := v') (w' := w.setCells pl.blk off us) hs pl hcur (fun _ => hk) (by rw [hset]; exact hpres) (by omega)
    (fun i o p hi ho hp hpon => ⟨e5 _ (h.apart i id p pl hp hk hi hpon hon), h.apart i id p pl hp hk hi hpon hon⟩)
    ⟨hon, hlo, by omega, cells', elem, ⟨cs', more', by rw [d2, hput], by rw [hset]; exact hv'.ext hpres hext⟩, d3, by rw [dsz]; exact hhi⟩ (h.mine pl (List.mem_of_getElem? hk) hon)
  rw [hset] at hrel
  refine ⟨hrel, ⟨hkept, fun p a b => .inl ⟨p, a, b, rfl⟩, hpres⟩, hext, fun j hj => ⟨?_, ?_⟩⟩
  · rw [h4.cell]; simp; omega
  · exact h4.thaw (by omega)

theorem run_appendStay {t t2 e oty : TypeId} {i : TypeInfo} {bk o : Nat} {y : Value} {a cap : Nat} (ht : P.underlying t = some (.slice e))
    (hi : P.info? e = some i) (hroom : a ≤ cap) (h2 : SrcC P w t2 i.size y 0 []) :
    (Builtin.append_ #[t, t2] oty #[.slice (some ⟨bk, o, none⟩) a cap, y]).run P w = .ok (.slice (some ⟨bk, o, none⟩) a cap) w := by
  obtain ⟨d, hd, hnd⟩ := h2.ty
  have hno : (match d with | .int _ => true | _ => false) = false := by cases d <;> first | rfl | exact absurd rfl (hnd _)
  have hf := h2.cells w (.inl rfl)
  have hl := h2.lenOf w
  simp [Builtin.append_, run_underlying ht, run_underlying hd, hno, sizeOf, typeInfo, hi, hl, hroom, hf, storeCells, Result.andThen]

theorem run_append0 {t t2 e oty : TypeId} {ik kk : IntKind} {i : TypeInfo} {z : Value} {base : Option Addr} {j : Nat} (ht : P.underlying t = some (.slice e)) (hd : P.underlying t2 = some (.int ik))
    (hi : P.info? e = some i) (hz : i.zero = some z) (hby : i.bytes ≤ 4096) (hj : 0 < j) (hsum : j ≤ 4294967296) (hn0 : 0 < i.size) :
    ∃ newCap, j ≤ newCap ∧ (Builtin.append_ #[t, t2] oty #[.slice base 0 0, .int kk (j : Int)]).run P w =
      .ok (.slice (some ⟨w.heap.size, 0, none⟩) j newCap) (w.drew.alloc (.cells (Builtin.zeroCells z.cells j ++ Builtin.zeroCells z.cells (newCap - j)) e)) := by
  refine ⟨grownCap w j 0 e, grownCap_ge w j 0 e, ?_⟩
  have hw : IntKind.i64.wrap (j : Int) = j := by unfold IntKind.wrap; simp [IntKind.i64, IntKind.bits, IntKind.signed, BitVec.toInt_ofInt]; omega
  have h1 : ¬ ((j : Int) < 0) := by omega
  have h2 : ¬ ((281474976710656 : Int) < (j : Int) * (i.bytes : Int)) := by
    have := Nat.mul_le_mul hsum hby
    omega
  have h63' : ¬ (9223372036854775807 < (j : Int)) := by omega
  have hle := nextslicecap_le (need := j) (old := 0) (by omega)
  have h48' : ¬ (281474976710656 < Builtin.nextslicecap j 0 * i.bytes) := by
    have := Nat.mul_le_mul hle hby
    omega
  have hne : ¬ (j ≤ 0) := by omega
  have hz0 : ¬ (j * i.size = 0) := by
    have := Nat.mul_pos hj hn0
    omega
  have hai : ∀ w' : World, (asIntOf (.int kk (j : Int))).run P w' = .ok (kk, (j : Int)) w' := fun w' => by simp [asIntOf]
  have hmx : max (j : Int) 0 = j := by omega
  cases base with
  | none => simp [Builtin.append_, run_underlying ht, run_underlying hd, sizeOf, typeInfo, zeroValue, hi, hz, asInt, hai, hw, hmx, h1, h2, h63', h48', hne, hz0, Question.forced, Builtin.firstCells, newRow, grownCap, Result.andThen, show ¬ j = 0 by omega] <;> rfl
  | some ad => simp [Builtin.append_, run_underlying ht, run_underlying hd, sizeOf, typeInfo, zeroValue, hi, hz, asInt, hai, hw, hmx, h1, h2, h63', h48', hne, hz0, Question.forced, Builtin.firstCells, loadCells, loadCellsFrom, newRow, grownCap, Result.andThen, show ¬ j = 0 by omega] <;> rfl

/-! Operations -/

/-- A list of none, with room behind it. -/
def noneOf (z : T) : T := match z with
  | .int .u8 _ => .bl false []
  | z => .lst false z.sz []
theorem noneOf_spec {ok} {z : T} {a : Addr} {cap : Nat} : Tc w ok (noneOf z) [.slice (some a) 0 cap] := by
  unfold noneOf
  split
  · exact .bl0 (fun h => by cases h)
  · exact .lst0 (fun h => by cases h)

/-- What does not look at the store. -/
def hopW0 (P : Program) (t : List (Nat × V)) (o : Oper) : Option V :=
  match o.op with
  | .indexAddr ty x ix => match P.underlying ty, evalO P t none ty x, evalO P t none 0 ix with
    | some (.slice e), some (.cv id ver off m e'), some (.p (.int _ i)) => match intNat i, tySz P e with
      | some j, some n => if Nat.blt j m && Nat.beq n e' then some (.ep id ver (off + j * n)) else none
      | _, _ => none
    | _, _, _ => none
  | .nilCheck x => match evalO P t none o.type x with
    | some (.ep id ver off) => some (.ep id ver off)
    | _ => none
  | .fieldAddr ty x f => match P.underlying ty, evalO P t none 0 x with
    | some (.struct fs), some (.ep id ver off) => match fs[f]? with
      | some fd => match tySz P fd.type with
        | some (_ + 1) => some (.ep id ver (off + fd.offset))
        | _ => none
      | none => none
    | _, _ => none
  | .slice ty x lo hi none => match P.underlying ty, evalO P t none ty x with
    | some (.slice e), some (.cv id ver off n e') => match tySz P e, bnds (evalO P t none 0) n lo hi none with
      | some sz, some (l, h, none) => if Nat.beq sz e' && (Nat.beq l 0 || Nat.blt l n) then some (.cv id ver (off + l * sz) (h - l) e') else match zeroOf P e with
        | some z => if Nat.beq l h then some (.p (noneOf z)) else none
        | none => none
      | _, _ => none
    | some (.slice e), some (.view id off n) => match tySz P e, bnds (evalO P t none 0) n lo hi none, zeroOf P e with
      | some sz, some (l, h, none), some z => if Nat.beq l h then some (.p (noneOf z)) else none
      | _, _, _ => none
    | _, _ => none
  | .call c => match c.callee with
    | .builtin .len => match c.args.toList, c.argTypes.toList with
      | [x], [ty] => match P.underlying ty, evalO P t none ty x with
        | some (.slice _), some (.cv _ _ _ n _) => some (.p (.int .i64 n))
        | _, _ => none
      | _, _ => none
    | _ => none
  | .binOp op xT x (.const y) _ => match P.underlying xT, evalO P t none xT x, y with
    | some (.slice _), some (.cv _ _ _ _ _), .slice none 0 0 => match op with
      | .eql => some (.rb false)
      | .neq => some (.rb true)
      | _ => none
    | some (.pointer _), some (.ep _ _ _), .pointer none => match op with
      | .eql => some (.rb false)
      | .neq => some (.rb true)
      | _ => none
    | _, _, _ => none
  | .binOp op xT x (.tmp y) _ => match P.underlying xT, evalO P t none xT x, evalO P t none xT (.tmp y) with
    | some (.pointer e), some (.ptr i a), some (.ptr j b) => match tySz P e with
      | some (_ + 1) => match Nat.beq i j, op with
        | true, .eql => some (.rb (Nat.beq a b))
        | true, .neq => some (.rb (!Nat.beq a b))
        | _, _ => none
      | _ => none
    | _, _, _ => none
  | _ => none

/-- What looks at one array. -/
def hopW1 (P : Program) (t : List (Nat × V)) (s : List SObj) (o : Oper) : Option V :=
  match o.op with
  | .load ty a => match evalO P t none 0 a, tySz P ty, tyAg P ty with
    | some (.ep id ver off), some n, some ag => match s[id]? with
      | some (.vec cur v) => if Nat.beq ver cur then V.at' v off n ag else none
      | _ => none
    | _, _, _ => none
  | _ => none

def vecEls (v : V) (n : Nat) : Option (List V) := match v with
  | .agg vs => if Nat.blt 0 n && allSz n vs then some vs else none
  | .p (.agg ts) => if Nat.blt 0 n && allSz n (ts.map .p) then some (ts.map .p) else none
  | _ => none

def fullNil (v : V) : Bool := match v.slice? with
  | some (.lst true _ []) => true
  | some (.bl true []) => true
  | _ => false

/-- An entry goes. -/
def delEnt : Option (Nat × T) → List (T × T) → List (T × T)
  | some (i, _), es => es.eraseIdx i
  | none, es => es

/-- What writes. -/
def hopW2 (P : Program) (t : List (Nat × V)) (s : List SObj) (o : Oper) : Option OpR :=
  match o.op with
  | .store ty a x => match evalO P t none 0 a, evalO P t none ty x with
    | some (.ep id ver off), some u => match s[id]? with
      | some (.vec cur v) => if Nat.beq ver cur && okPart u && (tySz P ty == some u.plain.sz) then match V.set' 12 v off u.plain with
        | some v' => some ⟨.bad, s.set id (.vec cur v'), []⟩
        | none => none
        else none
      | _ => none
    | _, _ => none
  | .call c => match c.callee with
    | .builtin .append => match c.args.toList, c.argTypes.toList with
      | [x, y], [tx, ty] => match P.underlying tx, evalO P t none tx x, evalO P t none ty y with
        | some (.slice e), some xv, some yv => match P.underlying ty, yv with
          | some (.int _), .p (.int _ c) => match tySz P e, P.info? e, zeroOf P e, intNat c with
            | some n, some i, some z, some (j + 1) => if Nat.ble i.bytes 4096 && Nat.blt 0 n && fullNil xv && Nat.ble (j + 1) 4294967296 && Nat.beq z.sz n then some ⟨.cv s.length 0 0 (j + 1) n, s ++ [.vec 0 (.agg (List.replicate (j + 1) (.p z)))], []⟩ else none
            | _, _, _, _ => none
          | _, _ => match tySz P e, P.info? e with
            | some n, some i => if tx == ty && Nat.ble i.bytes 4096 && (zeroOf P e).isSome && Nat.blt 0 n then match elemsV s n yv with
              | some us => match xv, us with
                | .cv id ver off k e', [] => if Nat.beq e' n then some ⟨.cv id ver off k e', s, []⟩ else none
                | _, [] => none
                | .cv id ver 0 k e', u0 :: ur => match s[id]? with
                  | some (.vec cur v) => if Nat.beq ver cur && Nat.beq e' n && Nat.ble (k + (ur.length + 1)) 4294967296 then match segV v 0 n k with
                    | some us0 => some ⟨.cv id (cur + 1) 0 (k + (ur.length + 1)) n, s.set id (.vec (cur + 1) (.agg (us0 ++ u0 :: ur))), []⟩
                    | none => none
                    else none
                  | _ => none
                | .view id off k, u0 :: ur => match s[id]? with
                  | some (.box v) => if Nat.ble (k + (ur.length + 1)) 4294967296 then match segV v off n k with
                    | some us0 => some ⟨.cv s.length 0 0 (k + (ur.length + 1)) n, s ++ [.vec 0 (.agg (us0 ++ u0 :: ur))], []⟩
                    | none => none
                    else none
                  | _ => none
                | xv, u0 :: ur => if fullNil xv && Nat.ble (ur.length + 1) 4294967296 then some ⟨.cv s.length 0 0 (ur.length + 1) n, s ++ [.vec 0 (.agg (u0 :: ur))], []⟩ else none
              | none => none
              else none
            | _, _ => none
        | _, _, _ => none
      | _, _ => none
    | .builtin .clear => match c.args.toList, c.argTypes.toList with
      | [x], [tx] => match P.underlying tx, evalO P t none tx x with
        | some (.slice e), some (.cv id ver off k e') => match tySz P e, zeroOf P e, s[id]? with
          | some n, some z, some (.vec cur v) => match vecEls v n with
            | some vs => if Nat.beq ver cur && Nat.beq e' n && (off / n * n == off) && Nat.ble (off / n + k) vs.length && Nat.beq z.sz n && Nat.blt 0 k then
                some ⟨.tup [], s.set id (.vec cur (.agg (vs.take (off / n) ++ (List.replicate k (.p z) ++ vs.drop (off / n + k))))), []⟩ else none
            | none => none
          | _, _, _ => none
        | _, _ => none
      | _, _ => none
    | .builtin .cap => match c.args.toList, c.argTypes.toList with
      | [x], [tx] => match P.underlying tx, evalO P t none tx x with
        | some (.slice _), some xv => if fullNil xv then some ⟨.p (.int .i64 0), s, []⟩ else none
        | _, _ => none
      | _, _ => none
    | .builtin .delete => match c.args.toList, c.argTypes.toList with
      | [x, k], [tx, _] => match P.underlying tx, evalO P t none tx x with
        | some (.map kt _), some (.map id) => match (evalO P t none kt k).bind V.toT, s[id]? with
          | some kk, some (.map es) => if fits P 10 kt kk && keysOk P kt es then some ⟨.tup [], s.set id (.map (delEnt (findT kk es 0) es)), []⟩ else none
          | _, _ => none
        | _, _ => none
      | _, _ => none
    | _ => none
  | _ => none

theorem VV_cv {id ver off n e : Nat} {x : Value} (h : VV U κ s w (.cv id ver off n e) x) :
    ∃ b cap cur v, x = .slice (some ⟨b, off, none⟩) n cap ∧ s[id]? = some (.vec cur v) ∧ ver ≤ cur ∧ n ≤ cap ∧ (ver = cur → ∃ pl, κ[id]? = some pl ∧ b = pl.blk ∧ off + cap * e = pl.hi) := by
  have h1 := Vc_one_cell (VV_one h rfl) rfl
  generalize x = y at h1
  cases h1 with
  | cv q1 q2 q3 q4 => exact ⟨_, _, _, _, rfl, q1, q2, q3, q4⟩

theorem VV_ep {id ver off : Nat} {x : Value} (h : VV U κ s w (.ep id ver off) x) :
    ∃ b cur v, x = .pointer (some ⟨b, off, none⟩) ∧ s[id]? = some (.vec cur v) ∧ ver ≤ cur ∧ (ver = cur → ∃ pl, κ[id]? = some pl ∧ b = pl.blk) := by
  have h1 := Vc_one_cell (VV_one h rfl) rfl
  generalize x = y at h1
  cases h1 with
  | ep q1 q2 q3 => exact ⟨_, _, _, rfl, q1, q2, q3⟩

theorem noGuard {a : Act} : GuardOk a none := fun _ _ e => by cases e

theorem nilW_ok {st : St} {a : Act} (h : Rel U κ st a w) {o : Oper} {op : BinOp} {xT yT : TypeId} {x : Operand} {y : Value} (ho : o.op = .binOp op xT x (.const y) yT) (hop : op = .eql ∨ op = .neq)
    (k2 : (Op.equal xT (a.eval x) y).run P w = .ok false w) (k4 : ∀ z, (binOp .eql xT (a.eval x) y).run P z = ((Op.equal xT (a.eval x) y).run P z).andThen fun r w' => .ok (.bool r) w')
    (k5 : ∀ z, (binOp .neq xT (a.eval x) y).run P z = ((Op.equal xT (a.eval x) y).run P z).andThen fun r w' => .ok (.bool (!r)) w')
    (k6 : ∀ op, eqGuard op xT x (.const y) (a.eval x) y = pure ()) : OpOk P U κ st.s a w o ⟨.rb (if op = .eql then false else true), st.s, []⟩ := by
  rcases hop with rfl | rfl
  · refine OpOk.still h.store (x := .bool false) ?_ (VV_of1 (VV1_of_cell (by simpa using Vc.rb false) rfl))
    unfold execOp
    simp only [ho]
    refine run_v _ ?_
    have : a.eval (.const y) = y := rfl
    rw [this, Sem.run_bind, k6]
    simp [k4, k2, Result.andThen]
  · refine OpOk.still h.store (x := .bool true) ?_ (VV_of1 (VV1_of_cell (by simpa using Vc.rb true) rfl))
    unfold execOp
    simp only [ho]
    refine run_v _ ?_
    have : a.eval (.const y) = y := rfl
    rw [this, Sem.run_bind, k6]
    simp [k5, k2, Result.andThen]

theorem VV_cv_mk {st : St} {id ver off off' n n' e cap cap' b cur : Nat} {v : V} (h2 : st.s[id]? = some (.vec cur v)) (h3 : ver ≤ cur) (h4 : n' ≤ cap') (h5 : ver = cur → ∃ pl, κ[id]? = some pl ∧ b = pl.blk ∧ off' + cap' * e = pl.hi) :
    VV U κ st.s w (.cv id ver off' n' e) (.slice (some ⟨b, off', none⟩) n' cap') := VV_of1 (VV1_of_cell (.cv h2 h3 h4 h5) rfl)

theorem eqIn_same (d : Nat) {t e : TypeId} {n : Nat} (hu : P.underlying t = some (.pointer e)) (hn : tySz P e = some (n + 1)) (k a b : Nat) : (Op.equalIn (d + 1) t (.pointer (some ⟨k, a, none⟩)) (.pointer (some ⟨k, b, none⟩))).run P w = .ok (Nat.beq a b) w := by
  have hab : ((⟨k, a, none⟩ : Addr) == ⟨k, b, none⟩) = Nat.beq a b := by
    rw [Bool.eq_iff_iff]; simp
  simp [Op.equalIn, run_underlying hu, run_size hn, sameAddr, Result.andThen, hab]

theorem hopW0_ok {st : St} {a : Act} (h : Rel U κ st a w) {o : Oper} {v : V} (hq : hopW0 P st.t o = some v) : OpOk P U κ st.s a w o ⟨v, st.s, []⟩ := by
  unfold hopW0 at hq
  split at hq
  · rename_i ty x ix ho
    split at hq
    · rename_i e id ver off m e' k i e1 e2 e3
      split at hq
      · rename_i j n e4 e5
        split at hq
        · rename_i hc
          simp only [Bool.and_eq_true, Nat.blt_eq, Nat.beq_eq] at hc
          obtain ⟨hlt, rfl⟩ := hc
          injection hq with hq; subst hq
          obtain ⟨b, cap, cur, v, q1, q2, q3, q4, q5⟩ := VV_cv (evalO_spec h noGuard e2)
          have hi := TV_int (VV_p (evalO_spec h noGuard e3))
          have hj := intNat_eq e4
          subst hj
          refine OpOk.still h.store (x := .pointer (some ⟨b, off + j * n, none⟩)) ?_ (VV_of1 (VV1_of_cell (.ep q2 q3 (fun q => by obtain ⟨pl, p1, p2, _⟩ := q5 q; exact ⟨pl, p1, p2⟩)) rfl))
          unfold execOp
          simp only [ho, q1, hi]
          exact run_v _ (run_indexAt_sl e1 e5 hlt)
        · cases hq
      · cases hq
    · cases hq
  · rename_i x ho
    split at hq
    · rename_i id ver off e1
      injection hq with hq; subst hq
      have hx := evalO_spec h noGuard e1
      obtain ⟨b, cur, v, q1, q2, q3, q4⟩ := VV_ep hx
      refine OpOk.still h.store (x := a.eval x) ?_ hx
      unfold execOp
      simp only [ho]
      rw [q1]; rfl
    · cases hq
  · rename_i ty x f ho
    split at hq
    · rename_i fs id ver off e1 e2
      split at hq
      · rename_i fd e3
        split at hq
        · rename_i n e4
          injection hq with hq; subst hq
          obtain ⟨b, cur, v, q1, q2, q3, q4⟩ := VV_ep (evalO_spec h noGuard e2)
          refine OpOk.still h.store (x := .pointer (some ⟨b, off + fd.offset, none⟩)) ?_ (VV_of1 (VV1_of_cell (.ep q2 q3 q4) rfl))
          unfold execOp
          simp only [ho, q1]
          exact run_v _ (run_fieldAt e1 e3 e4)
        · cases hq
      · cases hq
    · cases hq
  · rename_i ty x lo hi ho
    split at hq
    · rename_i e id ver off n e' e1 e2
      split at hq
      · rename_i sz l hh e4 e5
        split at hq
        · rename_i hc
          simp only [Bool.and_eq_true, Nat.beq_eq, Bool.or_eq_true, Nat.blt_eq] at hc
          obtain ⟨rfl, hl⟩ := hc
          injection hq with hq; subst hq
          obtain ⟨b, cap, cur, v, q1, q2, q3, q4, q5⟩ := VV_cv (evalO_spec h noGuard e2)
          obtain ⟨b1, b2, b3, b4⟩ := bnds_run h noGuard e5
          have hrun := b4 true cap q4
          simp only [Option.getD_none, Option.map_none] at hrun
          refine OpOk.still h.store (x := .slice (some ⟨b, off + l * sz, none⟩) (hh - l) (cap - l)) ?_ (VV_of1 (VV1_of_cell (.cv q2 q3 (by omega) (fun q => ?_)) rfl))
          · unfold execOp
            simp only [ho, q1]
            refine run_v _ ?_
            by_cases hml : cap = l
            · have : l = 0 := by rcases hl with q | q; exact q; omega
              subst this
              subst hml
              simp [Instr.sliceAt, Instr.slice, run_under e1, Result.andThen, hrun, run_size e4]
            · simp [Instr.sliceAt, Instr.slice, run_under e1, Result.andThen, hrun, run_size e4, hml, addr_add]
          · obtain ⟨pl, p1, p2, p3⟩ := q5 q
            refine ⟨pl, p1, p2, ?_⟩
            rw [← p3, Nat.add_assoc, ← Nat.add_mul]
            congr 2
            omega
        · split at hq
          · rename_i z e6
            split at hq
            · rename_i hc
              rw [Nat.beq_eq] at hc
              subst hc
              injection hq with hq; subst hq
              obtain ⟨b, cap, cur, v, q1, q2, q3, q4, q5⟩ := VV_cv (evalO_spec h noGuard e2)
              obtain ⟨b1, b2, b3, b4⟩ := bnds_run h noGuard e5
              have hrun := b4 true cap q4
              simp only [Option.getD_none, Option.map_none] at hrun
              by_cases hml : cap = l
              · subst hml
                refine OpOk.still h.store (x := .slice (some ⟨b, off, none⟩) 0 0) ?_ (VV_of ⟨noneOf_spec, by unfold noneOf; split <;> rfl⟩)
                unfold execOp
                simp only [ho, q1]
                refine run_v _ ?_
                simp [Instr.sliceAt, Instr.slice, run_under e1, Result.andThen, hrun, run_size e4]
              · refine OpOk.still h.store (x := .slice (some ⟨b, off + l * sz, none⟩) 0 (cap - l)) ?_ (VV_of ⟨noneOf_spec, by unfold noneOf; split <;> rfl⟩)
                unfold execOp
                simp only [ho, q1]
                refine run_v _ ?_
                simp [Instr.sliceAt, Instr.slice, run_under e1, Result.andThen, hrun, run_size e4, hml, addr_add]
            · cases hq
          · cases hq
      · cases hq
    · rename_i e id off n e1 e2
      split at hq
      · rename_i sz l hh z e4 e5 e6
        split at hq
        · rename_i hc
          rw [Nat.beq_eq] at hc
          subst hc
          injection hq with hq; subst hq
          obtain ⟨pl, v, q1, q2, q3⟩ := VV_view (evalO_spec h noGuard e2)
          obtain ⟨b1, b2, b3, b4⟩ := bnds_run h noGuard e5
          have hrun := b4 true n (Nat.le_refl _)
          simp only [Option.getD_none, Option.map_none] at hrun
          by_cases hml : n = l
          · subst hml
            refine OpOk.still h.store (x := .slice (some ⟨pl.blk, off, none⟩) 0 0) ?_ (VV_of ⟨noneOf_spec, by unfold noneOf; split <;> rfl⟩)
            unfold execOp
            simp only [ho, q3]
            refine run_v _ ?_
            simp [Instr.sliceAt, Instr.slice, run_under e1, Result.andThen, hrun, run_size e4]
          · refine OpOk.still h.store (x := .slice (some ⟨pl.blk, off + l * sz, none⟩) 0 (n - l)) ?_ (VV_of ⟨noneOf_spec, by unfold noneOf; split <;> rfl⟩)
            unfold execOp
            simp only [ho, q3]
            refine run_v _ ?_
            simp [Instr.sliceAt, Instr.slice, run_under e1, Result.andThen, hrun, run_size e4, hml, addr_add]
        · cases hq
      · cases hq
    · cases hq
  · rename_i c ho
    split at hq
    · rename_i hcl
      split at hq
      · rename_i x ty ha ht
        split at hq
        · rename_i e id ver off n e' e1 e2
          injection hq with hq; subst hq
          obtain ⟨b, cap, cur, v, q1, q2, q3, q4, q5⟩ := VV_cv (evalO_spec h noGuard e2)
          refine OpOk.still h.store (x := goInt n) ?_ (VV_of (.of_cells (.int _ _) rfl))
          exact eval_len ho hcl ha ht (by rw [q1]; simp [Builtin.len_, run_under e1])
        · cases hq
      · cases hq
    · cases hq
  · rename_i op xT x y yT ho
    split at hq
    · rename_i e id ver off n e' e1 e2
      obtain ⟨b, cap, cur, v', q1, q2, q3, q4, q5⟩ := VV_cv (evalO_spec h noGuard e2)
      have fin := fun hop => nilW_ok h ho hop (by rw [q1]; exact eqIn_sl 9999 _ _ _ e1) (fun z => by rw [q1]; simp only [binOp, Sem.run_bind, Sem.run_pure]) (fun z => by rw [q1]; simp only [binOp, Sem.run_bind, Sem.run_pure]) (fun op => by rw [q1]; cases op <;> rfl)
      split at hq
      · injection hq with hq; subst hq; exact fin (.inl rfl)
      · injection hq with hq; subst hq; exact fin (.inr rfl)
      · cases hq
    · rename_i e id ver off e1 e2
      obtain ⟨b, cur, v', q1, q2, q3, q4⟩ := VV_ep (evalO_spec h noGuard e2)
      have fin := fun hop => nilW_ok h ho hop (by rw [q1]; exact eqIn_ptr 9999 _ e1) (fun z => by rw [q1]; simp only [binOp, Sem.run_bind, Sem.run_pure]) (fun z => by rw [q1]; simp only [binOp, Sem.run_bind, Sem.run_pure]) (fun op => by rw [q1]; cases op <;> rfl)
      split at hq
      · injection hq with hq; subst hq; exact fin (.inl rfl)
      · injection hq with hq; subst hq; exact fin (.inr rfl)
      · cases hq
    · cases hq
  · rename_i op xT x y yT ho
    split at hq
    · rename_i e i a' j b' e1 e2 e3
      split at hq
      · rename_i n e4
        have key : ∀ {r : Bool}, Nat.beq i j = true → r = Nat.beq a' b' → (Op.equal xT (a.eval x) (a.eval (.tmp y))).run P w = .ok r w ∧ ∃ p q, a.eval x = .pointer (some p) ∧ a.eval (.tmp y) = .pointer (some q) := by
          intro r hij hr
          have hij' : i = j := by simpa using hij
          subst hij'
          obtain ⟨pl, v1, s1, k1, x1⟩ := VV_ptr (evalO_spec h noGuard e2)
          obtain ⟨pl', v2, s2, k2, x2⟩ := VV_ptr (evalO_spec h noGuard e3)
          rw [k1] at k2; injection k2 with k2; subst k2
          refine ⟨?_, _, _, x1, x2⟩
          rw [x1, x2, hr]
          exact eqIn_same 9999 e1 e4 _ _ _
        split at hq
        · rename_i hij
          injection hq with hq; subst hq
          obtain ⟨k1, p, q, k2, k3⟩ := key (r := Nat.beq a' b') hij rfl
          refine OpOk.still h.store (x := .bool (Nat.beq a' b')) ?_ (VV_of1 (VV1_of_cell (.rb _) rfl))
          unfold execOp
          simp only [ho]
          refine run_v _ ?_
          rw [k2, k3] at k1 ⊢
          have : eqGuard .eql xT x (.tmp y) (.pointer (some p)) (.pointer (some q)) = pure () := rfl
          rw [Sem.run_bind, this]
          simp only [binOp, Sem.run_bind, Sem.run_pure, Result.andThen_ok, k1]
        · rename_i hij
          injection hq with hq; subst hq
          obtain ⟨k1, p, q, k2, k3⟩ := key (r := Nat.beq a' b') hij rfl
          refine OpOk.still h.store (x := .bool (!Nat.beq a' b')) ?_ (VV_of1 (VV1_of_cell (.rb _) rfl))
          unfold execOp
          simp only [ho]
          refine run_v _ ?_
          rw [k2, k3] at k1 ⊢
          have : eqGuard .neq xT x (.tmp y) (.pointer (some p)) (.pointer (some q)) = pure () := rfl
          rw [Sem.run_bind, this]
          simp only [binOp, Sem.run_bind, Sem.run_pure, Result.andThen_ok, k1]
        · cases hq
      · cases hq
    · cases hq
  · cases hq

theorem hopW1_ok {st : St} {a : Act} (h : Rel U κ st a w) {o : Oper} {v : V} (hq : hopW1 P st.t st.s o = some v) : OpOk P U κ st.s a w o ⟨v, st.s, []⟩ := by
  unfold hopW1 at hq
  split at hq
  · rename_i ty ax ho
    split at hq
    · rename_i id ver off n ag e1 e2 e3
      split at hq
      · rename_i cur v0 hs
        split at hq
        · rename_i hver
          have hver' : ver = cur := by simpa using hver
          obtain ⟨b, cur', v', q1, q2, q3, q4⟩ := VV_ep (evalO_spec h noGuard e1)
          rw [hs] at q2; injection q2 with q2; injection q2 with q2 q2'
          subst q2 q2'
          obtain ⟨pl, p1, p2⟩ := q4 hver'
          obtain ⟨_, _, _, cells, elem, ⟨cs, more, c1, c2⟩, h4, h5⟩ := h.store.obj id _ pl hs p1
          obtain ⟨d1, d2, d3, d4⟩ := V.at_spec c2 hq
          subst p2
          obtain ⟨x, hr, hx'⟩ := run_loadVar (P := P) (w := w) (b := pl.blk) (o := off) e2 e3 (cs := (cs.drop off).take n) (by simp at d4 ⊢; omega)
            (fun e => by rw [← d2]; exact V.isAgg_false_sz (by rw [d3, e]))
            (fun j y hj => by
              rw [h4.cell]
              have := drop_take_get _ _ _ _ _ hj
              have h6 : cells.toList[off + j]? = some y := by rw [c1, List.getElem?_append_left (getElem?_lt this)]; exact this
              simpa using h6)
          refine OpOk.still h.store (x := x) ?_ (VV_of1 (VV1_cells d1 d3 hx'))
          unfold execOp
          simp only [ho, q1]
          exact run_v _ (by simp [Instr.loadAt, Instr.sureAddr, hr, Result.andThen])
        · cases hq
      · cases hq
    · cases hq
  · cases hq


theorem RelS.vecNew (h : RelS U κ s w) (all : Array Value) (et : TypeId) {v : V} {ds more : List Value} (hall : all.toList = ds ++ more) (hv : Vc U κ s w v ds) :
    let pl' : Place := ⟨w.heap.size, 0, all.size, true⟩
    let w' := w.drew.alloc (.cells all et)
    RelS U (κ ++ [pl']) (s ++ [.vec 0 v]) w' ∧ Step U κ w (κ ++ [pl']) w' := by
  intro pl' w'
  have hκ : ∀ p ∈ κ ++ [pl'], p ∈ κ ∨ w.heap.size ≤ p.blk := fun p hp => by
    rcases List.mem_append.1 hp with q | q
    · exact .inl q
    · simp at q; subst q; exact .inr (Nat.le_refl _)
  have hpres : Pres w (okOf U κ) w' (okOf U (κ ++ [pl'])) := pres_drewAlloc _ hκ
  have hext := Ext.append h.len pl' (.vec 0 v)
  have h1 := (h.drew (w.drawn + 1)).push (.cells all et) pl' (.vec 0 v) rfl ⟨rfl, rfl, by simp [pl'], all, et, ⟨ds, more, hall, hv.ext hpres hext⟩, .plain (by simp [pl']), rfl⟩
  refine ⟨h1, kept_drewAlloc κ w _, fun p hp' hl => ?_, hpres⟩
  rcases hκ p hp' with q | q
  · exact .inl ⟨p, q, hl, rfl⟩
  · exact .inr q

theorem RelS.vecMove (h : RelS U κ s w) {id cur : Nat} {v0 : V} (hs : s[id]? = some (.vec cur v0)) (all : Array Value) (et : TypeId) {v : V} {ds more : List Value} (hall : all.toList = ds ++ more) (hv : Vc U κ s w v ds) :
    let pl' : Place := ⟨w.heap.size, 0, all.size, true⟩
    let w' := w.drew.alloc (.cells all et)
    RelS U (κ.set id pl') (s.set id (.vec (cur + 1) v)) w' ∧ Step U κ w (κ.set id pl') w' ∧ Ext κ s (κ.set id pl') (s.set id (.vec (cur + 1) v)) := by
  intro pl' w'
  have hκ : ∀ p ∈ κ.set id pl', p ∈ κ ∨ w.heap.size ≤ p.blk := fun p hp => by
    rcases mem_set_cases hp with rfl | ⟨j, _, hj⟩
    · exact .inr (Nat.le_refl _)
    · exact .inl (List.mem_of_getElem? hj)
  have hpres : Pres w (okOf U κ) w' (okOf U (κ.set id pl')) := pres_drewAlloc _ hκ
  have hext : Ext κ s (κ.set id pl') (s.set id (.vec (cur + 1) v)) := Ext.setVec hs pl' (by omega) (fun q => by omega)
  have hsz : w'.heap.size = w.heap.size + 1 := by simp [w', drew_alloc]
  refine ⟨h.setVec hs pl' (by omega) (fun q => by omega) hpres (by omega) (fun i o p hi ho hp hpon => ?_) ⟨rfl, rfl, by simp [pl', hsz], all, et, ⟨ds, more, hall, hv.ext hpres hext⟩, .plain (by simp [pl', w', drew_alloc]), rfl⟩ (fun o => h.up _ _ (Nat.le_refl _)),
    ⟨kept_drewAlloc κ w _, fun p hp' hl => ?_, hpres⟩, hext⟩
  · have hb := h.below p (List.mem_of_getElem? hp) hpon
    exact ⟨by rw [show w' = w.drew.alloc (.cells all et) from rfl, drew_alloc]; exact heap_push_lt w _ hb, by simp [pl']; omega⟩
  · rcases hκ p hp' with q | q
    · exact .inl ⟨p, q, hl, rfl⟩
    · exact .inr q

theorem tyNe {α : Type} {a b : α} [BEq α] [LawfulBEq α] (h : (a == b) = true) : a = b := by simpa using h

theorem fullNil_spec {x : Value} {xv : V} (hx : VV U κ s w xv x) (hfull : fullNil xv = true) : ∃ base, x = .slice base 0 0 := by
  unfold fullNil at hfull
  split at hfull
  · rename_i e0 hsl
    have hT := slice?_spec hsl hx
    have h1 := hT.cell rfl
    generalize x = vx at h1
    cases h1 with
    | lstnil => exact ⟨none, rfl⟩
    | lst0 q => have := q rfl; subst this; exact ⟨_, rfl⟩
    | lst q1 q2 q3 q4 q5 q6 =>
      have hc := q3 rfl
      simp at q1
      subst q1
      subst hc
      exact ⟨_, rfl⟩
  · rename_i hsl
    have hT := slice?_spec hsl hx
    have h1 := hT.cell rfl
    generalize x = vx at h1
    cases h1 with
    | blnil => exact ⟨none, rfl⟩
    | bl0 q => have := q rfl; subst this; exact ⟨_, rfl⟩
    | bl q1 q2 q3 q4 =>
      have hc := q3 rfl
      simp at q1
      subst q1
      subst hc
      exact ⟨_, rfl⟩
  · cases hfull

/-- Onto nothing: an array is made. -/
theorem vecNew_ok {st : St} {a : Act} (h : Rel U κ st a w) {o : Oper} {c : Call} {x y : Operand} {t e : TypeId} (ho : o.op = .call c) (hc : c.callee = .builtin .append) (ha : c.args = #[x, y]) (ht : c.argTypes = #[t, t])
    (hu : P.underlying t = some (.slice e)) {i : TypeInfo} {z : T} {n : Nat} (hn : tySz P e = some n) (hi : P.info? e = some i) (hz : zeroOf P e = some z) (hby : i.bytes ≤ 4096)
    {xv : V} {us : List V} (hx : VV U κ st.s w xv (a.eval x)) (hfull : fullNil xv = true) (hy : ∃ ds, SrcC P w t n (a.eval y) us.length ds ∧ Vcs U κ st.s w us ds ∧ ∀ u ∈ us, u.sz = n) (h0 : 0 < us.length) (hsum : us.length ≤ 4294967296) :
    OpOk P U κ st.s a w o ⟨.cv st.s.length 0 0 us.length n, st.s ++ [.vec 0 (.agg us)], []⟩ := by
  obtain ⟨iz, zv, z1, z2, z3, z4⟩ := zeroOf_spec (w := w) (ok := okOf U κ) hz
  have hiz : iz = i := by rw [hi] at z1; injection z1 with z1; exact z1.symm
  subst hiz
  have hin : iz.size = n := by unfold tySz at hn; rw [hi] at hn; simpa using hn
  obtain ⟨base, b1⟩ := fullNil_spec hx hfull
  have b2 : SliceC w (okOf U κ) n [] base 0 0 := by
    cases base with
    | none => exact ⟨by simp, Nat.le_refl _, .inl ⟨rfl, fun _ => rfl⟩⟩
    | some ad => exact ⟨by simp, Nat.le_refl _, .inl ⟨rfl, fun q => by cases q⟩⟩
  obtain ⟨ds, d1, d2, d3⟩ := hy
  rcases run_append (P := P) (w := w) (oty := o.type) hu hi z2 hby (a := 0) (b := us.length) (by omega) (by rw [hin]; exact b2) (by rw [hin]; exact d1) (fun hle => .inr (by omega)) (fun hle => by omega) with ⟨hle, _⟩ | ⟨newCap, hle, hrun⟩
  · omega
  · have hrun' := eval_append (P := P) (w := w) (a := a) ho hc ha ht (by rw [b1]; exact hrun)
    have hzl : zv.cells.size = n := by have := z3.1.len; rw [z4, hin] at this; simpa using this
    have hdsl : ds.length = us.length * n := d1.len
    have hsz : ([].toArray ++ ds.toArray ++ Builtin.zeroCells zv.cells (newCap - (0 + us.length))).size = newCap * n := by
      simp only [Array.size_append, List.size_toArray, size_zeroCells, hzl, hdsl, ← Nat.add_mul, List.length_nil, Nat.zero_add]
      congr 1; omega
    have hall : ([].toArray ++ ds.toArray ++ Builtin.zeroCells zv.cells (newCap - (0 + us.length))).toList = ds ++ (Builtin.zeroCells zv.cells (newCap - (0 + us.length))).toList := by simp
    generalize ([].toArray ++ ds.toArray ++ Builtin.zeroCells zv.cells (newCap - (0 + us.length))) = all at hsz hall hrun'
    obtain ⟨g1, g2⟩ := h.store.vecNew all e (v := .agg us) hall (.agg d2)
    rw [Nat.zero_add] at hrun'
    refine ⟨_, _, κ ++ [⟨w.heap.size, 0, all.size, true⟩], hrun', .inl ⟨_, rfl, ?_⟩, g1, g2, Ext.append h.store.len _ _⟩
    exact VV_of1 (VV1_of_cell (.cv (cur := 0) (v := .agg us) (by simp) (Nat.le_refl _) (by omega) (fun _ => ⟨⟨w.heap.size, 0, all.size, true⟩, by rw [← h.store.len]; simp, rfl, by simp [hsz]⟩)) rfl)

/-- Onto a slice of a box, which is full: an array is made. -/
theorem vecView_ok {st : St} {a : Act} (h : Rel U κ st a w) {o : Oper} {c : Call} {x y : Operand} {t e : TypeId} (ho : o.op = .call c) (hc : c.callee = .builtin .append) (ha : c.args = #[x, y]) (ht : c.argTypes = #[t, t])
    (hu : P.underlying t = some (.slice e)) {i : TypeInfo} {z : T} {n : Nat} (hn : tySz P e = some n) (hi : P.info? e = some i) (hz : zeroOf P e = some z) (hby : i.bytes ≤ 4096)
    {id off k : Nat} {v : V} {us0 us : List V} (hs : st.s[id]? = some (.box v)) (hx : VV U κ st.s w (.view id off k) (a.eval x)) (hseg : segV v off n k = some us0) (hy : ∃ ds, SrcC P w t n (a.eval y) us.length ds ∧ Vcs U κ st.s w us ds ∧ ∀ u ∈ us, u.sz = n) (h0 : 0 < us.length) (hsum : k + us.length ≤ 4294967296) :
    OpOk P U κ st.s a w o ⟨.cv st.s.length 0 0 (k + us.length) n, st.s ++ [.vec 0 (.agg (us0 ++ us))], []⟩ := by
  obtain ⟨iz, zv, z1, z2, z3, z4⟩ := zeroOf_spec (w := w) (ok := okOf U κ) hz
  have hiz : iz = i := by rw [hi] at z1; injection z1 with z1; exact z1.symm
  subst hiz
  have hin : iz.size = n := by unfold tySz at hn; rw [hi] at hn; simpa using hn
  obtain ⟨pl, v0, w1, w2, w3⟩ := VV_view hx
  obtain ⟨_, _, _, _, cells, elem, h4, h5⟩ := h.store.boxCells hs w2
  obtain ⟨q1, q2, q3, q4⟩ := segV_spec h5 hseg
  have hcl : ((cells.toList.drop off).take (k * n)).length = k * n := by simp at q4 ⊢; omega
  have b2 : SliceC w (fun _ _ => True) n ((cells.toList.drop off).take (k * n)) (some ⟨pl.blk, off, none⟩) k k := ⟨hcl, Nat.le_refl _, .inr ⟨_, _, rfl, fun j v hj => ⟨by
    rw [h4.cell]
    have := drop_take_get _ _ _ _ _ hj
    simpa using this, trivial⟩⟩⟩
  obtain ⟨ds, d1, d2, d3⟩ := hy
  rcases run_append (P := P) (w := w) (ok := fun _ _ => True) (oty := o.type) hu hi z2 hby (a := k) (b := us.length) hsum (by rw [hin]; exact b2) (by rw [hin]; exact d1) (fun hle => .inr (by omega)) (fun hle => by omega) with ⟨hle, _⟩ | ⟨newCap, hle, hrun⟩
  · omega
  · have hrun' := eval_append (P := P) (w := w) (a := a) ho hc ha ht (by rw [w3]; exact hrun)
    generalize (cells.toList.drop off).take (k * n) = csx at hcl hrun' q1
    have hzl : zv.cells.size = n := by have := z3.1.len; rw [z4, hin] at this; simpa using this
    have hdsl : ds.length = us.length * n := d1.len
    have hsz : (csx.toArray ++ ds.toArray ++ Builtin.zeroCells zv.cells (newCap - (k + us.length))).size = newCap * n := by
      simp only [Array.size_append, List.size_toArray, size_zeroCells, hzl, hdsl, hcl, ← Nat.add_mul]
      congr 1; omega
    have hall : (csx.toArray ++ ds.toArray ++ Builtin.zeroCells zv.cells (newCap - (k + us.length))).toList = (csx ++ ds) ++ (Builtin.zeroCells zv.cells (newCap - (k + us.length))).toList := by simp
    generalize (csx.toArray ++ ds.toArray ++ Builtin.zeroCells zv.cells (newCap - (k + us.length))) = all at hsz hall hrun'
    obtain ⟨g1, g2⟩ := h.store.vecNew all e (v := .agg (us0 ++ us)) hall (.agg (vcs_append q1 d2))
    refine ⟨_, _, κ ++ [⟨w.heap.size, 0, all.size, true⟩], hrun', .inl ⟨_, rfl, ?_⟩, g1, g2, Ext.append h.store.len _ _⟩
    exact VV_of1 (VV1_of_cell (.cv (cur := 0) (v := .agg (us0 ++ us)) (by simp) (Nat.le_refl _) (by omega) (fun _ => ⟨⟨w.heap.size, 0, all.size, true⟩, by rw [← h.store.len]; simp, rfl, by simp [hsz]⟩)) rfl)

theorem zeroRep {z : T} {zv : Value} (h : TV w (okOf U κ) z zv) : ∀ k, Vcs U κ s w (List.replicate k (.p z)) (List.replicate k zv.cells.toList).flatten
  | 0 => .nil
  | k + 1 => by
    rw [List.replicate_succ, List.replicate_succ, List.flatten_cons]
    exact .cons (.p h.1) (zeroRep h k)

theorem zeroCells_flat (z : Array Value) : ∀ k, (Builtin.zeroCells z k).toList = (List.replicate k z.toList).flatten := by
  intro k
  unfold Builtin.zeroCells
  apply List.ext_getElem?
  intro j
  by_cases h0 : z.size = 0
  · have : z = #[] := by simpa using h0
    subst this
    simp
  · have hpos : 0 < z.size := by omega
    rcases Nat.lt_or_ge j (k * z.size) with hj | hj
    · have hm := Nat.mod_lt j hpos
      have hd : j / z.size < k := (Nat.div_lt_iff_lt_mul hpos).2 hj
      have key : ∀ k j, j < k * z.size → ((List.replicate k z.toList).flatten)[j]? = z[j % z.size]? := by
        intro k
        induction k with
        | zero => intro j h; omega
        | succ k ih =>
          intro j h
          rw [List.replicate_succ, List.flatten_cons]
          rcases Nat.lt_or_ge j z.size with q | q
          · rw [List.getElem?_append_left (by simpa using q), Nat.mod_eq_of_lt q]; simp
          · rw [List.getElem?_append_right (by simpa using q)]
            have : j - z.toList.length = j - z.size := by simp
            rw [this, ih (j - z.size) (by rw [Nat.succ_mul] at h; omega), Nat.mod_eq_sub_mod q]
      rw [key k j hj]
      simp [Array.getElem?_toList, hj, getElem!_pos, hm]
    · rw [List.getElem?_eq_none (by simpa using hj), List.getElem?_eq_none (by simp; omega)]

/-- Onto nothing: an array of zeros is made. -/
theorem vecMake_ok {st : St} {a : Act} (h : Rel U κ st a w) {o : Oper} {c : Call} {x y : Operand} {t t2 e : TypeId} (ho : o.op = .call c) (hc : c.callee = .builtin .append) (ha : c.args = #[x, y]) (ht : c.argTypes = #[t, t2])
    (hu : P.underlying t = some (.slice e)) {ik kk : IntKind} (hd : P.underlying t2 = some (.int ik)) {i : TypeInfo} {z : T} {n j : Nat} (hn : tySz P e = some n) (hi : P.info? e = some i) (hz : zeroOf P e = some z) (hby : i.bytes ≤ 4096) (hn0 : 0 < n)
    {xv : V} (hx : VV U κ st.s w xv (a.eval x)) (hfull : fullNil xv = true) (hy : VV U κ st.s w (.p (.int kk (j : Int))) (a.eval y)) (h0 : 0 < j) (hsum : j ≤ 4294967296) (hzs : z.sz = n) :
    OpOk P U κ st.s a w o ⟨.cv st.s.length 0 0 j n, st.s ++ [.vec 0 (.agg (List.replicate j (.p z)))], []⟩ := by
  obtain ⟨iz, zv, z1, z2, z3, z4⟩ := zeroOf_spec (w := w) (ok := okOf U κ) hz
  have hiz : iz = i := by rw [hi] at z1; injection z1 with z1; exact z1.symm
  subst hiz
  have hin : iz.size = n := by unfold tySz at hn; rw [hi] at hn; simpa using hn
  obtain ⟨base, b1⟩ := fullNil_spec hx hfull
  have hy1 := TV_int (VV_p hy)
  obtain ⟨newCap, hle, hrun⟩ := run_append0 (P := P) (w := w) (oty := o.type) (base := base) (kk := kk) hu hd hi z2 hby h0 hsum (by omega)
  have hrun' := eval_append (P := P) (w := w) (a := a) ho hc ha ht (by rw [b1, hy1]; exact hrun)
  have hzl : zv.cells.size = n := by have := z3.1.len; rw [hzs] at this; simpa using this
  have hsz : (Builtin.zeroCells zv.cells j ++ Builtin.zeroCells zv.cells (newCap - j)).size = newCap * n := by
    simp only [Array.size_append, size_zeroCells, hzl, ← Nat.add_mul]
    congr 1; omega
  have hall : (Builtin.zeroCells zv.cells j ++ Builtin.zeroCells zv.cells (newCap - j)).toList = (List.replicate j zv.cells.toList).flatten ++ (Builtin.zeroCells zv.cells (newCap - j)).toList := by simp [zeroCells_flat]
  generalize (Builtin.zeroCells zv.cells j ++ Builtin.zeroCells zv.cells (newCap - j)) = all at hsz hall hrun'
  obtain ⟨g1, g2⟩ := h.store.vecNew all e (v := .agg (List.replicate j (.p z))) hall (.agg (zeroRep z3 j))
  refine ⟨_, _, κ ++ [⟨w.heap.size, 0, all.size, true⟩], hrun', .inl ⟨_, rfl, ?_⟩, g1, g2, Ext.append h.store.len _ _⟩
  exact VV_of1 (VV1_of_cell (.cv (cur := 0) (v := .agg (List.replicate j (.p z))) (by simp) (Nat.le_refl _) (by omega) (fun _ => ⟨⟨w.heap.size, 0, all.size, true⟩, by rw [← h.store.len]; simp, rfl, by simp [hsz]⟩)) rfl)

/-- Onto an array that is there. -/
theorem vecGrow_ok {st : St} {a : Act} (h : Rel U κ st a w) {o : Oper} {c : Call} {x y : Operand} {t e : TypeId} (ho : o.op = .call c) (hc : c.callee = .builtin .append) (ha : c.args = #[x, y]) (ht : c.argTypes = #[t, t])
    (hu : P.underlying t = some (.slice e)) {i : TypeInfo} {z : T} {n : Nat} (hn : tySz P e = some n) (hi : P.info? e = some i) (hz : zeroOf P e = some z) (hby : i.bytes ≤ 4096)
    {id cur k : Nat} {v : V} {us0 us : List V} (hs : st.s[id]? = some (.vec cur v)) (hx : VV U κ st.s w (.cv id cur 0 k n) (a.eval x)) (hseg : segV v 0 n k = some us0) (hy : ∃ ds, SrcC P w t n (a.eval y) us.length ds ∧ Vcs U κ st.s w us ds ∧ ∀ u ∈ us, u.sz = n) (hsum : k + us.length ≤ 4294967296) :
    OpOk P U κ st.s a w o ⟨.cv id (cur + 1) 0 (k + us.length) n, st.s.set id (.vec (cur + 1) (.agg (us0 ++ us))), []⟩ := by
  obtain ⟨iz, zv, z1, z2, z3, z4⟩ := zeroOf_spec (w := w) (ok := okOf U κ) hz
  have hiz : iz = i := by rw [hi] at z1; injection z1 with z1; exact z1.symm
  subst hiz
  have hin : iz.size = n := by unfold tySz at hn; rw [hi] at hn; simpa using hn
  obtain ⟨b, cap, cur', v', q1, q2, q3, q4, q5⟩ := VV_cv hx
  rw [hs] at q2; injection q2 with q2; injection q2 with q2 q2'
  subst q2 q2'
  obtain ⟨pl, p1, p2, p3⟩ := q5 rfl
  obtain ⟨hon, hlo, hlt, cells, elem, ⟨cs, more, c1, c2⟩, hbox, hhi⟩ := h.store.obj id _ pl hs p1
  obtain ⟨g1, g2, g3, g4⟩ := segV_spec c2 hseg
  rw [List.drop_zero] at g1
  obtain ⟨ds, d1, d2, d3⟩ := hy
  have hdsl : ds.length = us.length * n := d1.len
  subst p2
  have hS : SliceC w (fun _ _ => True) n (cs.take (k * n)) (some ⟨pl.blk, 0, none⟩) k cap := by
    refine ⟨by simp; omega, q4, .inr ⟨_, _, rfl, fun j y hj => ⟨?_, trivial⟩⟩⟩
    rw [hbox.cell, Nat.zero_add]
    have hj2 : cs[j]? = some y := by
      rw [List.getElem?_take] at hj
      split at hj
      · exact hj
      · cases hj
    have h6 : cells.toList[j]? = some y := by rw [c1, List.getElem?_append_left (getElem?_lt hj2)]; exact hj2
    simpa using h6
  have hclen : cells.toList.length = cs.length + more.length := by rw [c1, List.length_append]
  have hcl : cells.size = cs.length + more.length := by simpa using hclen
  have hroom : k + us.length ≤ cap → k * n + ds.length ≤ cells.size := fun hle => by
    have := Nat.mul_le_mul_right n hle
    rw [Nat.add_mul] at this
    omega
  rcases run_append (P := P) (w := w) (oty := o.type) hu hi z2 hby (a := k) (b := us.length) hsum (by rw [hin]; exact hS) (by rw [hin]; exact d1) (fun hle => .inl ⟨_, _, rfl⟩) (fun hle bk o' hb j hj => by
      injection hb with hb; injection hb with hb1 hb2
      subst hb1 hb2
      have := hroom hle
      rw [hin, Nat.zero_add]
      exact ⟨by rw [hbox.cell]; simp; omega, hbox.thaw (by omega)⟩) with ⟨hle, hrun⟩ | ⟨newCap, hle, hrun⟩
  · have hrun' := eval_append (P := P) (w := w) (a := a) ho hc ha ht (by rw [q1]; exact hrun)
    have hput : putCells cells.toList (k * n) ds = (cs.take (k * n) ++ ds) ++ cells.toList.drop (k * n + ds.length) := by
      unfold putCells
      rw [c1, List.take_append_of_le_length (by omega)]
    obtain ⟨r1, r2, r3, r4⟩ := h.store.vecWrite (cur' := cur + 1) (v' := .agg (us0 ++ us)) hs p1 hbox hhi (off := k * n) (us := ds) (hroom hle) (by omega) hput (.agg (vcs_append g1 d2))
    have hin1 : inPlace w (some ⟨pl.blk, 0, none⟩) (k * iz.size) ds = w.setCells pl.blk (k * n) ds := by simp only [inPlace, hin, Nat.zero_add]
    rw [hin1] at hrun'
    refine ⟨_, _, κ, hrun', .inl ⟨_, rfl, ?_⟩, r1, r2, r3⟩
    exact VV_of1 (VV1_of_cell (.cv (cur := cur + 1) (v := .agg (us0 ++ us)) (by rw [List.getElem?_set_self (getElem?_lt hs)]) (Nat.le_refl _) hle (fun _ => ⟨pl, p1, rfl, p3⟩)) rfl)
  · have hrun' := eval_append (P := P) (w := w) (a := a) ho hc ha ht (by rw [q1]; exact hrun)
    have hzl : zv.cells.size = n := by have := z3.1.len; rw [z4, hin] at this; simpa using this
    have htl : (cs.take (k * n)).length = k * n := by simp; omega
    have hsz : ((cs.take (k * n)).toArray ++ ds.toArray ++ Builtin.zeroCells zv.cells (newCap - (k + us.length))).size = newCap * n := by
      simp only [Array.size_append, List.size_toArray, size_zeroCells, hzl, hdsl, htl, ← Nat.add_mul]
      congr 1; omega
    have hall : ((cs.take (k * n)).toArray ++ ds.toArray ++ Builtin.zeroCells zv.cells (newCap - (k + us.length))).toList = (cs.take (k * n) ++ ds) ++ (Builtin.zeroCells zv.cells (newCap - (k + us.length))).toList := by simp
    generalize ((cs.take (k * n)).toArray ++ ds.toArray ++ Builtin.zeroCells zv.cells (newCap - (k + us.length))) = all at hsz hall hrun'
    obtain ⟨r1, r2, r3⟩ := h.store.vecMove hs all e (v := .agg (us0 ++ us)) hall (.agg (vcs_append g1 d2))
    refine ⟨_, _, _, hrun', .inl ⟨_, rfl, ?_⟩, r1, r2, r3⟩
    exact VV_of1 (VV1_of_cell (.cv (cur := cur + 1) (v := .agg (us0 ++ us)) (by rw [List.getElem?_set_self (getElem?_lt hs)]) (Nat.le_refl _) hle (fun _ => ⟨⟨w.heap.size, 0, all.size, true⟩, by rw [List.getElem?_set_self (getElem?_lt p1)], rfl, by simp [hsz]⟩)) rfl)

/-- Nothing is appended. -/
theorem vecStay_ok {st : St} {a : Act} (h : Rel U κ st a w) {o : Oper} {c : Call} {x y : Operand} {t e : TypeId} (ho : o.op = .call c) (hc : c.callee = .builtin .append) (ha : c.args = #[x, y]) (ht : c.argTypes = #[t, t])
    (hu : P.underlying t = some (.slice e)) {i : TypeInfo} {n : Nat} (hn : tySz P e = some n) (hi : P.info? e = some i)
    {id ver off k e' : Nat} (hx : VV U κ st.s w (.cv id ver off k e') (a.eval x)) (hy : ∃ ds, SrcC P w t n (a.eval y) 0 ds) :
    OpOk P U κ st.s a w o ⟨.cv id ver off k e', st.s, []⟩ := by
  have hin : i.size = n := by unfold tySz at hn; rw [hi] at hn; simpa using hn
  obtain ⟨b, cap, cur', v', q1, q2, q3, q4, q5⟩ := VV_cv hx
  obtain ⟨ds, d1⟩ := hy
  have hds : ds = [] := List.eq_nil_of_length_eq_zero (by rw [d1.len, Nat.zero_mul])
  subst hds
  refine OpOk.still h.store (eval_append (P := P) (w := w) (a := a) ho hc ha ht ?_) hx
  rw [q1]
  exact run_appendStay hu hi q4 (by rw [hin]; exact d1)

theorem vecEls_spec {v : V} {n : Nat} {vs : List V} {cs : List Value} (hv : Vc U κ s w v cs) (h : vecEls v n = some vs) : Vcs U κ s w vs cs ∧ (∀ u ∈ vs, u.sz = n) ∧ 0 < n := by
  unfold vecEls at h
  split at h
  · split at h
    · rename_i hc
      simp only [Bool.and_eq_true, Nat.blt_eq] at hc
      injection h with h; subst h
      cases hv with | agg hv => exact ⟨hv, allSz_spec hc.2, hc.1⟩
    · cases h
  · split at h
    · rename_i hc
      simp only [Bool.and_eq_true, Nat.blt_eq] at hc
      injection h with h; subst h
      cases hv with | p hv => cases hv with | agg hv => exact ⟨vcs_p hv, allSz_spec hc.2, hc.1⟩
    · cases h
  · cases h

theorem F2_erase {α β : Type} {R : α → β → Prop} : ∀ {l : List α} {m : List β} (i : Nat), F2 R l m → F2 R (l.eraseIdx i) (m.eraseIdx i)
  | _, _, _, .nil => by simpa using F2.nil
  | _, _, 0, .cons _ h => by simpa using h
  | _, _, i + 1, .cons a h => by simp only [List.eraseIdx_cons_succ]; exact .cons a (F2_erase i h)

/-- A map's length. -/
theorem lenMap_ok {st : St} {a : Act} (h : Rel U κ st a w) {o : Oper} {q : OpR} (hq : lenMap P st.t st.s o = some q) : OpOk P U κ st.s a w o q ∧ q.obs = [] := by
  unfold lenMap at hq
  split at hq
  · rename_i c ho
    split at hq
    · rename_i hcl
      split at hq
      · rename_i x ty ha ht
        split at hq
        · rename_i k e id e1 e2
          split at hq
          · rename_i es e3
            injection hq with hq; subst hq
            refine ⟨?_, rfl⟩
            obtain ⟨es', pl, h1, h2, h3⟩ := VV_map (evalO_spec h noGuard e2)
            obtain ⟨_, _, ents, clock, h4, h5⟩ := h.store.mapObj e3 h2
            have hl : ents.size = es.length := by have := F2_len h5.1; simpa using this.symm
            refine OpOk.still h.store (x := goInt es.length) ?_ (VV_of (.of_cells (.int _ _) rfl))
            exact eval_len ho hcl ha ht (by rw [h3]; simp [Builtin.len_, run_under e1, MapKept.run_getObj_map h4, Result.andThen, hl])
          · cases hq
        · rename_i k e e1 e2
          injection hq with hq; subst hq
          refine ⟨?_, rfl⟩
          have hx := TV_nilM (VV_p (evalO_spec h noGuard e2))
          refine OpOk.still h.store (x := goInt 0) ?_ (VV_of (.of_cells (.int _ _) rfl))
          exact eval_len ho hcl ha ht (by rw [hx]; simp [Builtin.len_, run_under e1])
        · cases hq
      · cases hq
    · cases hq
  · cases hq

theorem buildBx_ok {st : St} {a : Act} (h : Rel U κ st a w) {o : Oper} {q : OpR} (hq : buildBx P st.t st.s o = some q) : OpOk P U κ st.s a w o q ∧ q.obs = [] := by
  unfold buildBx at hq
  split at hq
  · rename_i e; injection hq with hq; subst hq; exact buildBx0_ok h e
  · split at hq
    · rename_i e; injection hq with hq; subst hq; exact lenMap_ok h e
    · unfold strBx at hq
      split at hq
      · rename_i src dst x ho
        split at hq
        · rename_i e b e1 e2 e3
          split at hq
          · rename_i he
            injection hq with hq; subst hq
            exact ⟨strBytes_ok' h ho (TV_str (VV_p (evalO_spec h noGuard e3))) e1 e2 (byteUnder he), rfl⟩
          · cases hq
        · cases hq
      · cases hq

theorem eval_delete {a : Act} {o : Oper} {c : Call} {x y : Operand} {t t2 : TypeId} (ho : o.op = .call c) (hc : c.callee = .builtin .delete) (ha : c.args.toList = [x, y]) (ht : c.argTypes.toList = [t, t2]) {v : Value} {w' : World}
    (h : (Builtin.delete_ #[t, t2] o.type #[a.eval x, a.eval y]).run P w = .ok v w') : (execOp a.eval o).run P w = .ok (.value v) w' := by
  have ha' : c.args = #[x, y] := by rw [← ha]
  have ht' : c.argTypes = #[t, t2] := by rw [← ht]
  unfold execOp
  simp only [ho]
  simp only [resolve, hc, ha', ht', List.map_toArray, List.map_cons, List.map_nil, Sem.run_bind, Sem.run_pure, Result.andThen_ok, invoke, builtin]
  simp [h, Result.andThen]

theorem delete_ok {st : St} {a : Act} (h : Rel U κ st a w) {o : Oper} {c : Call} {x y : Operand} {t t2 kt vt : TypeId} (ho : o.op = .call c) (hc : c.callee = .builtin .delete) (ha : c.args.toList = [x, y]) (ht : c.argTypes.toList = [t, t2]) (hu : P.underlying t = some (.map kt vt))
    {k : T} (tk : TV w (okOf U κ) k (a.eval y)) {id : Nat} {es : List (T × T)} (hx : VV U κ st.s w (.map id) (a.eval x)) (hs : st.s[id]? = some (.map es)) (hf : fits P 10 kt k = true) (hk : keysOk P kt es = true) :
    OpOk P U κ st.s a w o ⟨.tup [], st.s.set id (.map (delEnt (findT k es 0) es)), []⟩ := by
  obtain ⟨es0, pl, h1, h2, h3⟩ := VV_map hx
  obtain ⟨_, hblt, ents, clock, h4, h5⟩ := h.store.mapObj hs h2
  obtain ⟨r, r1, r2⟩ := findKey_ok hf tk (keysOk_spec hk) h5.1
  have hck := fun em => checkKey_ok (P := P) (w := w) (ok := okOf U κ) em (D := 10000) (by omega) hf tk
  have fin : ∀ {es' : List (T × T)} {ents' : Array MapEntry}, MapR w (okOf U κ) es' ents' clock → (Builtin.delete_ #[t, t2] o.type #[a.eval x, a.eval y]).run P w = .ok (.tuple #[]) { w with heap := w.heap.setIfInBounds pl.blk (.map ents' clock) } → OpOk P U κ st.s a w o ⟨.tup [], st.s.set id (.map es'), []⟩ := by
    intro es' ents' hm hrun
    obtain ⟨g1, g2, g3⟩ := h.store.setMap hs h2 hm
    exact ⟨.value (.tuple #[]), _, κ, eval_delete ho hc ha ht hrun, .inl ⟨_, rfl, [], rfl, .nil⟩, g1, g2, g3⟩
  cases hfd : findT k es 0 with
  | none =>
    rw [hfd] at r2
    cases r with
    | some r => exact r2.elim
    | none =>
      refine fin (ents' := ents) ⟨h5.1, h5.2⟩ ?_
      rw [h3]
      simp [Builtin.delete_, run_under hu, Result.andThen, MapKept.run_getObj_map h4, hck, r1, MapKept.run_setObj_map _ h4]
  | some iv =>
    obtain ⟨i, v0⟩ := iv
    rw [hfd] at r2
    cases r with
    | none => exact r2.elim
    | some r =>
      obtain ⟨j, y'⟩ := r
      obtain ⟨rfl, r3⟩ := r2
      have hel : (ents.eraseIdxIfInBounds i).toList = ents.toList.eraseIdx i := by
        unfold Array.eraseIdxIfInBounds
        split
        · simp
        · rename_i hn
          rw [List.eraseIdx_of_length_le (by simpa using hn)]
      refine fin (ents' := ents.eraseIdxIfInBounds i) ⟨?_, fun e he => h5.2 e ?_⟩ ?_
      · rw [hel]; exact F2_erase i h5.1
      · have : e ∈ ents.toList.eraseIdx i := by rw [← hel]; exact Array.mem_toList_iff.2 he
        exact Array.mem_toList_iff.1 (List.mem_of_mem_eraseIdx this)
      · rw [h3]
        simp [Builtin.delete_, run_under hu, Result.andThen, MapKept.run_getObj_map h4, hck, r1, MapKept.run_setObj_map _ h4]

theorem hopW2_ok {st : St} {a : Act} (h : Rel U κ st a w) {o : Oper} {q : OpR} (hq : hopW2 P st.t st.s o = some q) : OpOk P U κ st.s a w o q ∧ q.obs = [] := by
  unfold hopW2 at hq
  split at hq
  · rename_i ty ax x ho
    split at hq
    · rename_i id ver off u e1 e2
      split at hq
      · rename_i cur v hs
        split at hq
        · rename_i hc
          simp only [Bool.and_eq_true, Nat.beq_eq, beq_iff_eq] at hc
          obtain ⟨⟨rfl, hp⟩, hn⟩ := hc
          split at hq
          · rename_i v' hset
            injection hq with hq; subst hq
            refine ⟨?_, rfl⟩
            obtain ⟨b, cur', v0, q1, q2, q3, q4⟩ := VV_ep (evalO_spec h noGuard e1)
            rw [hs] at q2; injection q2 with q2; injection q2 with q2 q2'
            subst q2 q2'
            obtain ⟨pl, p1, p2⟩ := q4 rfl
            obtain ⟨hon, hlo, hlt, cells, elem, ⟨cs, more, c1, c2⟩, hbox, hhi⟩ := h.store.obj id _ pl hs p1
            subst p2
            have hu1 := plain_spec (VV_one (evalO_spec h noGuard e2) hp)
            obtain ⟨s1, s2, s3⟩ := V.set_spec hu1.1 _ v cs off v' c2 hset
            have hcl : cells.size = cs.length + more.length := by have := congrArg List.length c1; simpa using this
            obtain ⟨r1, r2, r3, r4⟩ := h.store.vecWrite (cur' := ver) (v' := v') hs p1 hbox hhi (off := off) (us := (a.eval x).cells.toList) (cs' := putCells cs off (a.eval x).cells.toList) (more' := more) (by omega) (Nat.le_refl _) (by rw [c1, putCells_left s3]) s1
            refine ⟨.skip, _, κ, ?_, .inr ⟨rfl, rfl⟩, r1, r2, r3⟩
            unfold execOp
            simp only [ho, q1]
            refine run_u _ ?_
            have hlen : (a.eval x).cells.size = u.plain.sz := by have := hu1.1.len; simpa using this
            have := run_storeCells_cells (P := P) pl.blk off (a.eval x).cells.toList 0 w (fun j hj => by simpa using (r4 j hj).1) (fun j hj => by simpa using (r4 j hj).2) (fun y hy => hu1.1.one y hy)
            simp only [Instr.storeAt, Instr.sureAddr, Sem.run_bind, Result.andThen, storeVar, run_size hn, hlen, Sem.run_pure]
            simpa using this
          · cases hq
        · cases hq
      · cases hq
    · cases hq
  · rename_i c ho
    split at hq
    · rename_i hcl
      split at hq
      · rename_i x y tx ty ha ht
        split at hq
        · rename_i e xv yv e1 e2 e3
          split at hq
          · rename_i ik kk cc e9
            split at hq
            · rename_i n i z j e4 e5 e6 e7
              split at hq
              · rename_i hc
                simp only [Bool.and_eq_true, Nat.ble_eq, Nat.blt_eq, Nat.beq_eq] at hc
                obtain ⟨⟨⟨⟨c1, c2⟩, c3⟩, c4⟩, c5⟩ := hc
                injection hq with hq; subst hq
                have := intNat_eq e7
                subst this
                exact ⟨vecMake_ok h ho hcl (toArray_of ha) (toArray_of ht) e1 e9 e4 e5 e6 c1 c2 (evalO_spec h noGuard e2) c3 (evalO_spec h noGuard e3) (by omega) c4 c5, rfl⟩
              · cases hq
            · cases hq
          split at hq
          · rename_i n i e4 e5
            split at hq
            · rename_i hc
              simp only [Bool.and_eq_true, Nat.ble_eq, Nat.blt_eq] at hc
              obtain ⟨⟨⟨c1, c2⟩, c3⟩, c4⟩ := hc
              have c1' : tx = ty := by simpa using c1
              subst c1'
              obtain ⟨z, hz⟩ := Option.isSome_iff_exists.1 c3
              split at hq
              · rename_i us e6
                have hy := elemsV_spec h e1 (evalO_spec h noGuard e3) e6
                split at hq
                · rename_i id ver off k e'
                  split at hq
                  · injection hq with hq; subst hq
                    obtain ⟨ds, y1, _⟩ := hy
                    exact ⟨vecStay_ok h ho hcl (toArray_of ha) (toArray_of ht) e1 e4 e5 (evalO_spec h noGuard e2) ⟨ds, y1⟩, rfl⟩
                  · cases hq
                · cases hq
                · rename_i id ver k e' u0 ur
                  split at hq
                  · rename_i cur v hs
                    split at hq
                    · rename_i hc
                      simp only [Bool.and_eq_true, Nat.beq_eq, Nat.ble_eq] at hc
                      obtain ⟨⟨rfl, rfl⟩, hle⟩ := hc
                      split at hq
                      · rename_i us0 hseg
                        injection hq with hq; subst hq
                        exact ⟨vecGrow_ok h ho hcl (toArray_of ha) (toArray_of ht) e1 e4 e5 hz c2 hs (evalO_spec h noGuard e2) hseg hy hle, rfl⟩
                      · cases hq
                    · cases hq
                  · cases hq
                · rename_i id off k u0 ur
                  split at hq
                  · rename_i v hs
                    split at hq
                    · rename_i hle
                      simp only [Nat.ble_eq] at hle
                      split at hq
                      · rename_i us0 hseg
                        injection hq with hq; subst hq
                        exact ⟨vecView_ok h ho hcl (toArray_of ha) (toArray_of ht) e1 e4 e5 hz c2 hs (evalO_spec h noGuard e2) hseg hy (by simp) hle, rfl⟩
                      · cases hq
                    · cases hq
                  · cases hq
                · rename_i u0 ur _ _
                  split at hq
                  · rename_i hc
                    simp only [Bool.and_eq_true, Nat.ble_eq] at hc
                    injection hq with hq; subst hq
                    exact ⟨vecNew_ok h ho hcl (toArray_of ha) (toArray_of ht) e1 e4 e5 hz c2 (evalO_spec h noGuard e2) hc.1 hy (by simp) hc.2, rfl⟩
                  · cases hq
              · cases hq
            · cases hq
          · cases hq
        · cases hq
      · cases hq
    · rename_i hcl
      split at hq
      · rename_i x tx ha ht
        split at hq
        · rename_i e id ver off k e' e1 e2
          split at hq
          · rename_i n z cur v e4 hz hs
            split at hq
            · rename_i vs hvs
              split at hq
              · rename_i hc
                simp only [Bool.and_eq_true, Nat.beq_eq, beq_iff_eq, Nat.ble_eq, Nat.blt_eq] at hc
                obtain ⟨⟨⟨⟨⟨rfl, rfl⟩, h1⟩, h2⟩, h3⟩, h0⟩ := hc
                injection hq with hq; subst hq
                refine ⟨?_, rfl⟩
                obtain ⟨iz, zv, z1, z2, z3, z4⟩ := zeroOf_spec (w := w) (ok := okOf U κ) hz
                obtain ⟨b, cap, cur', v0, q1, q2, q3, q4, q5⟩ := VV_cv (evalO_spec h noGuard e2)
                rw [hs] at q2; injection q2 with q2; injection q2 with q2 q2'
                subst q2 q2'
                obtain ⟨pl, p1, p2, p3⟩ := q5 rfl
                obtain ⟨hon, hlo, hlt, cells, elem, ⟨cs, more, c1, c2⟩, hbox, hhi⟩ := h.store.obj id _ pl hs p1
                subst p2
                obtain ⟨d1, d2, d3⟩ := vecEls_spec c2 hvs
                have hzl : zv.cells.size = e' := by have := z3.1.len; rw [h3] at this; simpa using this
                have hcl2 : cells.size = cs.length + more.length := by have := congrArg List.length c1; simpa using this
                have hcsl : cs.length = vs.length * e' := by rw [d1.len, vszs_all d2]
                have hmul := Nat.mul_le_mul_right e' h2
                rw [Nat.add_mul, h1] at hmul
                have hzlen : (Builtin.zeroCells zv.cells k).toList.length = k * e' := by simp [size_zeroCells, hzl]
                have hput : putCells cells.toList off (Builtin.zeroCells zv.cells k).toList = (cs.take off ++ ((Builtin.zeroCells zv.cells k).toList ++ cs.drop (off + k * e'))) ++ more := by
                  rw [c1, putCells_left (by rw [hzlen]; omega)]
                  unfold putCells
                  rw [hzlen]
                  simp
                have hvc : Vc U κ st.s w (.agg (vs.take (off / e') ++ (List.replicate k (.p z) ++ vs.drop (off / e' + k)))) (cs.take off ++ ((Builtin.zeroCells zv.cells k).toList ++ cs.drop (off + k * e'))) := by
                  have t1 := vcs_take (off / e') d1 d2
                  have t2 := vcs_drop (off / e' + k) d1 d2
                  rw [h1] at t1
                  rw [Nat.add_mul, h1] at t2
                  exact .agg (vcs_append t1 (vcs_append (by rw [zeroCells_flat]; exact zeroRep z3 k) t2))
                obtain ⟨r1, r2, r3, r4⟩ := h.store.vecWrite (cur' := ver) hs p1 hbox hhi (off := off) (us := (Builtin.zeroCells zv.cells k).toList) (by rw [hzlen]; omega) (Nat.le_refl _) hput hvc
                refine ⟨.value (.tuple #[]), _, κ, ?_, .inl ⟨_, rfl, ⟨[], rfl, .nil⟩⟩, r1, r2, r3⟩
                have hone : ∀ y ∈ (Builtin.zeroCells zv.cells k).toList, y.oneCell' = true := by
                  rw [zeroCells_flat]
                  exact (zeroRep (s := st.s) z3 k).one
                have hst := run_storeCells_cells (P := P) pl.blk off (Builtin.zeroCells zv.cells k).toList 0 w (fun j hj => by simpa using (r4 j hj).1) (fun j hj => by simpa using (r4 j hj).2) hone
                simp only [Nat.add_zero] at hst
                unfold execOp
                simp only [ho]
                have ha' : c.args = #[x] := by rw [← ha]
                have ht' : c.argTypes = #[tx] := by rw [← ht]
                simp only [resolve, hcl, ha', ht', List.map_toArray, List.map_cons, List.map_nil, Sem.run_bind, Sem.run_pure, Result.andThen_ok, invoke, builtin, q1]
                obtain ⟨k', rfl⟩ : ∃ k', k = k' + 1 := ⟨k - 1, by omega⟩
                simp [Builtin.clear_, run_under e1, Result.andThen, run_zero z1 z2, hst]
              · cases hq
            · cases hq
          · cases hq
        · cases hq
      · cases hq
    · rename_i hcl
      split at hq
      · rename_i x tx ha ht
        split at hq
        · rename_i e xv e1 e2
          split at hq
          · rename_i hfull
            injection hq with hq; subst hq
            refine ⟨?_, rfl⟩
            have hx := evalO_spec h noGuard e2
            obtain ⟨base, b1⟩ := fullNil_spec hx hfull
            refine OpOk.still h.store (x := goInt 0) ?_ (VV_of (.of_cells (.int _ _) rfl))
            have ha' : c.args = #[x] := by rw [← ha]
            have ht' : c.argTypes = #[tx] := by rw [← ht]
            unfold execOp
            simp only [ho]
            simp only [resolve, hcl, ha', ht', List.map_toArray, List.map_cons, List.map_nil, Sem.run_bind, Sem.run_pure, Result.andThen_ok, invoke, builtin, b1]
            simp [Builtin.cap_, run_under e1, Result.andThen]
          · cases hq
        · cases hq
      · cases hq
    · rename_i hcl
      split at hq
      · rename_i x y tx ty ha ht
        split at hq
        · rename_i kt vt id e1 e2
          split at hq
          · rename_i kk es e3 e4
            split at hq
            · rename_i hc
              simp only [Bool.and_eq_true] at hc
              injection hq with hq; subst hq
              obtain ⟨kv, k1, k2⟩ := Option.bind_eq_some_iff.1 e3
              exact ⟨delete_ok h ho hcl ha ht e1 (toT_VV k2 (evalO_spec h noGuard k1)) (evalO_spec h noGuard e2) e4 hc.1 hc.2, rfl⟩
            · cases hq
          · cases hq
        · cases hq
      · cases hq
    · cases hq
  · cases hq

def hopW (P : Program) (t : List (Nat × V)) (s : List SObj) (o : Oper) : Option OpR := match hopW0 P t o with
  | some v => some ⟨v, s, []⟩
  | none => match hopW1 P t s o with
    | some v => some ⟨v, s, []⟩
    | none => hopW2 P t s o

theorem hopW_ok {st : St} {a : Act} (h : Rel U κ st a w) {o : Oper} {q : OpR} (hq : hopW P st.t st.s o = some q) : OpOk P U κ st.s a w o q := by
  unfold hopW at hq
  split at hq
  · rename_i e; injection hq with hq; subst hq; exact hopW0_ok h e
  · split at hq
    · rename_i e; injection hq with hq; subst hq; exact hopW1_ok h e
    · exact (hopW2_ok h hq).1

theorem hopW0_touch {t : List (Nat × V)} {o : Oper} {v : V} (h : hopW0 P t o = some v) : touch o.op = 0 := by
  obtain ⟨dst, op, type, pos, after, guard⟩ := o
  cases op <;> first
    | rfl
    | (simp [hopW0] at h; done)
    | skip
  · rename_i c
    simp only [hopW0] at h
    split at h
    · rename_i hc; simp [touch, hc]
    · cases h

theorem hopW1_touch {t : List (Nat × V)} {o : Oper} {v : V} (h : hopW1 P t s o = some v) : touch o.op = 1 := by
  obtain ⟨dst, op, type, pos, after, guard⟩ := o
  cases op <;> first
    | rfl
    | (simp [hopW1] at h; done)

theorem hopW2_touch {t : List (Nat × V)} {o : Oper} {q : OpR} (h : hopW2 P t s o = some q) : touch o.op = 2 := by
  obtain ⟨dst, op, type, pos, after, guard⟩ := o
  cases op <;> first
    | rfl
    | (simp [hopW2] at h; done)
    | skip
  · rename_i c
    simp only [hopW2] at h
    split at h
    · rename_i hc; simp [touch, hc]
    · rename_i hc; simp [touch, hc]
    · rename_i hc; simp [touch, hc]
    · rename_i hc; simp [touch, hc]
    · cases h

theorem hopW_still {t : List (Nat × V)} {o : Oper} {q : OpR} (ht : touch o.op < 2) (hq : hopW P t s o = some q) : q.s = s := by
  unfold hopW at hq
  split at hq
  · injection hq with hq; rw [← hq]
  · split at hq
    · injection hq with hq; rw [← hq]
    · have := hopW2_touch hq; omega

theorem hopW_s {t : List (Nat × V)} {o : Oper} {q : OpR} {s' : List SObj} (ht : touch o.op = 0) (hq : hopW P t s o = some q) : hopW P t s' o = some { q with s := s' } := by
  unfold hopW at hq ⊢
  split at hq
  · injection hq with hq; subst hq; rfl
  · split at hq
    · rename_i e; have := hopW1_touch e; omega
    · have := hopW2_touch hq; omega

theorem hopW_t {L : List Nat} {t t' : List (Nat × V)} (ha : Agree L t t') {o : Oper} (hL : o.op.operands.toList.filterMap tmpOf ⊆ L) : hopW P t s o = hopW P t' s o := by
  have hE : ∀ x ∈ o.op.operands, ∀ g ty, evalO P t g ty x = evalO P t' g ty x := fun x hx g ty => evalO_agree ha hL (by simpa using hx)
  obtain ⟨dst, op, type, pos, after, guard⟩ := o
  simp only at hE hL
  cases op with
  | indexAddr ty x y => simp only [hopW, hopW0, hopW1, hopW2, hE x (by simp [Op.operands]), hE y (by simp [Op.operands])]
  | nilCheck x => simp only [hopW, hopW0, hopW1, hopW2, hE x (by simp [Op.operands])]
  | fieldAddr ty x f => simp only [hopW, hopW0, hopW1, hopW2, hE x (by simp [Op.operands])]
  | load ty x => simp only [hopW, hopW0, hopW1, hopW2, hE x (by simp [Op.operands])]
  | store ty x y => simp only [hopW, hopW0, hopW1, hopW2, hE x (by simp [Op.operands]), hE y (by simp [Op.operands])]
  | binOp op xT x y yT =>
    cases y with
    | const y => simp only [hopW, hopW0, hopW1, hopW2, hE x (by simp [Op.operands])]
    | tmp y => simp only [hopW, hopW0, hopW1, hopW2, hE x (by simp [Op.operands]), hE (.tmp y) (by simp [Op.operands])]
    | _ => rfl
  | slice ty x lo hi mx =>
    have hb := fun n => bnds_congr (P := P) (t := t) (t' := t') (g := none) (lo := lo) (hi := hi) (mx := mx) (fun y hy => hE y (by rcases hy with rfl | rfl | rfl <;> simp [Op.operands]) none 0) n
    cases mx with
    | none => simp only [hopW, hopW0, hopW1, hopW2, hE x (by simp [Op.operands]), hb]
    | some _ => rfl
  | call c =>
    have hA : ∀ x ∈ c.args.toList, ∀ g ty, evalO P t g ty x = evalO P t' g ty x := fun x hx g ty => hE x (by simp [Op.operands, Call.operands]; right; simpa using hx) g ty
    have e0 : hopW0 P t ⟨dst, .call c, type, pos, after, guard⟩ = hopW0 P t' ⟨dst, .call c, type, pos, after, guard⟩ := by
      simp only [hopW0]
      split
      · split
        · rename_i x ty e1 e2
          simp only [hA x (by rw [e1]; simp)]
        · rfl
      · rfl
    have e2 : hopW2 P t s ⟨dst, .call c, type, pos, after, guard⟩ = hopW2 P t' s ⟨dst, .call c, type, pos, after, guard⟩ := by
      simp only [hopW2]
      split
      · split
        · rename_i x y tx ty e1 e2
          simp only [hA x (by rw [e1]; simp), hA y (by rw [e1]; simp)]
        · rfl
      · split
        · rename_i x ty e1 e2
          simp only [hA x (by rw [e1]; simp)]
        · rfl
      · split
        · rename_i x ty e1 e2
          simp only [hA x (by rw [e1]; simp)]
        · rfl
      · split
        · rename_i x y tx ty e1 e2
          simp only [hA x (by rw [e1]; simp), hA y (by rw [e1]; simp)]
        · rfl
      · rfl
    unfold hopW
    rw [e0, e2]
    rfl
  | _ => rfl
end Go.HM
