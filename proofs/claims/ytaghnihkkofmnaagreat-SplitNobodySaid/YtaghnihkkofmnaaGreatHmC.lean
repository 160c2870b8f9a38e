/- HM, part C: how the state stands to a world that turns. -/
import Derived.Test.YtaghnihkkofmnaaGreatHmB
namespace Go.HM

theorem cell_lt {w : World} {b o : Nat} {v : Value} (h : w.cell? ⟨b, o, none⟩ = some v) : b < w.heap.size := by
  unfold World.cell? at h
  rcases Nat.lt_or_ge b w.heap.size with hb | hb
  · exact hb
  · simp [Array.getElem?_eq_none hb] at h

theorem cell_heap {w w' : World} {b : Nat} (h : w'.heap[b]? = w.heap[b]?) (o : Nat) : w'.cell? ⟨b, o, none⟩ = w.cell? ⟨b, o, none⟩ := by
  unfold World.cell?; simp only [h]

theorem frozen_heap {w w' : World} {b : Nat} (h : w'.heap[b]? = w.heap[b]?) (o : Nat) : w'.frozen? ⟨b, o, none⟩ = w.frozen? ⟨b, o, none⟩ := by
  unfold World.frozen?; simp only [h]

theorem MapR.pres {w w' : World} {ok ok' : Nat → Nat → Prop} (hp : Pres w ok w' ok') {es : List (T × T)} {ents : Array Go.MapEntry} {clock : Nat} (h : MapR w ok es ents clock) : MapR w' ok' es ents clock :=
  ⟨forall₂_mono (fun _ _ k => ⟨k.1.pres hp, k.2.pres hp⟩) h.1, h.2⟩

/-- All old blocks as they were. -/
theorem Kept.pres0 {U : Nat → Nat → Prop} {κ : List Place} {w w' : World} (hk : Kept [] w w') : Pres w (okOf U κ) w' (okOf U κ) :=
  fun b o v hv ho => ⟨by rw [cell_heap (hk.block b (cell_lt hv) (by simp))]; exact hv, ho⟩

theorem Kept.step0 {U : Nat → Nat → Prop} {κ : List Place} {w w' : World} (hk : Kept [] w w') : Step U κ w κ w' :=
  ⟨⟨hk.os, hk.tape, hk.output, hk.size, fun k h _ => hk.block k h (by simp)⟩, fun pl h l => .inl ⟨pl, h, l, rfl⟩, hk.pres0⟩

theorem Slot.ext {U : Nat → Nat → Prop} {κ κ' : List Place} {s s' : List SObj} {w w' : World} (hp : Pres w (okOf U κ) w' (okOf U κ')) (he : Ext κ s κ' s') {a : Act} {x : Nat} {v : V}
    (h : Slot U κ s w a x v) : Slot U κ' s' w' a x v := by
  cases v with
  | wh d want u => exact fun k => let ⟨y, b, c⟩ := h k; ⟨y, b, c.ext hp he⟩
  | bad => trivial
  | _ => exact let ⟨y, b, c⟩ := h; ⟨y, b, c.ext hp he⟩

/-- A loop's record, where its block is as it was. -/
theorem ObjR.lpMove {U : Nat → Nat → Prop} {κ κ' : List Place} {s s' : List SObj} {w w' : World} (hp : Pres w (okOf U κ) w' (okOf U κ')) (he : Ext κ s κ' s') (hsz : w.heap.size ≤ w'.heap.size) {pl : Place} {ls : LoopState} {pend : Option Code} {d : Nat} {f : FuncId} {n : Nat} {t : List (Nat × V)} {ps : Array Tmp} {as bd : Code}
    (hb : pl.on = true → w'.heap[pl.blk]? = w.heap[pl.blk]?) (h : ObjR U κ s w pl (.lp ls pend d f n t ps as bd)) : ObjR U κ' s' w' pl (.lp ls pend d f n t ps as bd) := by
  obtain ⟨x0, l0, l1, c, tmps, a3, a4, a5⟩ := h
  exact ⟨x0, l0, l1, Nat.lt_of_lt_of_le c hsz, tmps, by rw [hb x0]; exact a3, a4, fun x v hx => (a5 x v hx).ext hp he⟩

theorem ObjR.dfrMove {U : Nat → Nat → Prop} {κ κ' : List Place} {s s' : List SObj} {w w' : World} (hsz : w.heap.size ≤ w'.heap.size) {pl : Place}
    (hb : pl.on = true → w'.heap[pl.blk]? = w.heap[pl.blk]?) (h : ObjR U κ s w pl .dfr) : ObjR U κ' s' w' pl .dfr :=
  ⟨h.1, h.2.1, h.2.2.1, Nat.lt_of_lt_of_le h.2.2.2.1 hsz, by rw [hb h.1]; exact h.2.2.2.2⟩

theorem ObjR.kept0 {U : Nat → Nat → Prop} {κ : List Place} {s : List SObj} {w w' : World} (hk : Kept [] w w') {pl : Place} {o : SObj} (h : ObjR U κ s w pl o) : ObjR U κ s w' pl o := by
  cases o with
  | box v =>
    obtain ⟨x0, a, b, c, cells, elem, d, e⟩ := h
    exact ⟨x0, a, b, Nat.lt_of_lt_of_le c hk.size, cells, elem, d.of_eq (hk.block _ c (by simp)), e.ext hk.pres0 (.refl _ _)⟩
  | row ver e =>
    intro x0
    obtain ⟨c, h⟩ := h x0
    refine ⟨Nat.lt_of_lt_of_le c hk.size, fun o a b => ?_⟩
    rw [cell_heap (hk.block _ c (by simp)), frozen_heap (hk.block _ c (by simp))]
    exact h o a b
  | map es =>
    obtain ⟨x0, c, ents, clock, d, e⟩ := h
    exact ⟨x0, Nat.lt_of_lt_of_le c hk.size, ents, clock, by rw [hk.block _ c (by simp)]; exact d, e.pres hk.pres0⟩
  | vec ver v =>
    obtain ⟨x0, a, c, cells, elem, ⟨cs, more, q1, q2⟩, d, e⟩ := h
    exact ⟨x0, a, Nat.lt_of_lt_of_le c hk.size, cells, elem, ⟨cs, more, q1, q2.ext hk.pres0 (.refl _ _)⟩, d.of_eq (hk.block _ c (by simp)), e⟩
  | dead => exact h
  | lp ls pend d f n t ps as bd => exact ObjR.lpMove hk.pres0 (.refl _ _) hk.size (fun x0 => hk.block _ h.2.2.2.1 (by simp)) h
  | dfr => exact ObjR.dfrMove hk.size (fun x0 => hk.block _ h.2.2.2.1 (by simp)) h

theorem RelS.kept0 {U : Nat → Nat → Prop} {κ : List Place} {s : List SObj} {w w' : World} (h : RelS U κ s w) (hk : Kept [] w w') : RelS U κ s w' where
  up := fun b o hb => h.up b o (Nat.le_trans hk.size hb)
  len := h.len
  obj := fun id o pl a b => (h.obj id o pl a b).kept0 hk
  apart := h.apart
  below := fun pl a b => Nat.lt_of_lt_of_le (h.below pl a b) hk.size
  mine := h.mine
  glob := h.glob.pres hk.pres0

/-- The slots are carried over; the store is handed in. -/
theorem Rel.carry {U : Nat → Nat → Prop} {κ κ' : List Place} {st : St} {s' : List SObj} {a : Act} {w w' : World} (h : Rel U κ st a w) (hs : RelS U κ' s' w') (hp : Step U κ w κ' w') (he : Ext κ st.s κ' s') :
    Rel U κ' { st with s := s' } a w' := ⟨hs, h.size, h.defers.step hp, fun x v hg => (h.slot x v hg).ext hp.pres he⟩

theorem Rel.kept0 {U : Nat → Nat → Prop} {κ : List Place} {st : St} {a : Act} {w w' : World} (h : Rel U κ st a w) (hk : Kept [] w w') : Rel U κ st a w' :=
  h.carry (h.store.kept0 hk) hk.step0 (.refl _ _)

theorem put_get_same {a : Act} {d : Nat} {v : Value} (h : d < a.tmps.size) : (a.put (some d) v).tmps[d]? = some v := by
  simp [Act.put, h]

theorem put_get_other {a : Act} {d x : Nat} {v : Value} (h : x ≠ d) : (a.put (some d) v).tmps[x]? = a.tmps[x]? := by
  simp [Act.put, Array.getElem?_setIfInBounds_ne (Ne.symm h)]

theorem VV.ne_bad_slot {U : Nat → Nat → Prop} {κ : List Place} {s : List SObj} {w : World} {v : V} {x : Value} (h : VV U κ s w v x) (d : Nat) (want : Bool) (u : V) : v ≠ .wh d want u := by
  rintro rfl
  have : Vc U κ s w (.wh d want u) x.cells.toList := h.1
  cases this

/-- A slot is written. -/
theorem Rel.put {U : Nat → Nat → Prop} {κ : List Place} {st : St} {a : Act} {w : World} (h : Rel U κ st a w) {d : Nat} (hd : d < st.n) {v : V} {x : Value} (hv : Slot U κ st.s w (a.put (some d) x) d v) :
    Rel U κ { st with t := setT (dropW st.t d) d v } (a.put (some d) x) w := by
  refine ⟨h.store, by simp [Act.put, h.size], h.defers, fun y u hg => ?_⟩
  by_cases hy : y = d
  · subst hy
    rw [getT_setT_same] at hg
    injection hg with hg
    subst hg
    exact hv
  · rw [getT_setT_other _ _ _ _ hy] at hg
    rcases getT_dropW _ _ _ _ hg with hb | ⟨hg, hn⟩
    · subst hb; trivial
    · have hs := h.slot y u hg
      cases u with
      | wh d' want u' =>
        have hd' : d' ≠ d := fun e => hn want u' (by rw [e])
        intro hk
        rw [put_get_other hd'] at hk
        obtain ⟨z, b, c⟩ := hs hk
        exact ⟨z, by rw [put_get_other hy]; exact b, c⟩
      | bad => trivial
      | _ =>
        obtain ⟨z, b, c⟩ := hs
        exact ⟨z, by rw [put_get_other hy]; exact b, c⟩

theorem Rel.putV {U : Nat → Nat → Prop} {κ : List Place} {st : St} {a : Act} {w : World} (h : Rel U κ st a w) {d : Nat} (hd : d < st.n) {v : V} {x : Value} (hv : VV U κ st.s w v x) :
    Rel U κ { st with t := setT (dropW st.t d) d v } (a.put (some d) x) w := by
  refine h.put hd ?_
  have hx : (a.put (some d) x).tmps[d]? = some x := put_get_same (by rw [h.size]; exact hd)
  cases v with
  | wh d' want u => exact absurd rfl (hv.ne_bad_slot d' want u)
  | bad => trivial
  | _ => exact ⟨x, hx, hv⟩

/-- A slot is written with what is not known. -/
theorem Rel.putBad {U : Nat → Nat → Prop} {κ : List Place} {st : St} {a : Act} {w : World} (h : Rel U κ st a w) {d : Nat} (hd : d < st.n) (x : Value) :
    Rel U κ { st with t := setT (dropW st.t d) d .bad } (a.put (some d) x) w := h.put hd trivial

theorem Rel.drew {U : Nat → Nat → Prop} {κ : List Place} {st : St} {a : Act} {w : World} (h : Rel U κ st a w) (n : Nat) : Rel U κ st a { w with drawn := n } :=
  h.kept0 ⟨rfl, rfl, rfl, Nat.le_refl _, fun _ _ _ => rfl⟩

theorem heap_push_lt (w : World) (o : Go.Obj) {k : Nat} (h : k < w.heap.size) : ({ w with heap := w.heap.push o } : World).heap[k]? = w.heap[k]? := by
  simp only [Array.getElem?_push]; rw [if_neg (by omega)]

theorem kept_push (κ : List Place) (w : World) (o : Go.Obj) : Kept κ w { w with heap := w.heap.push o } :=
  ⟨rfl, rfl, rfl, by simp, fun k h _ => heap_push_lt w o h⟩

theorem pres_push {U : Nat → Nat → Prop} {κ κ' : List Place} {w : World} (o : Go.Obj) (hκ : ∀ pl ∈ κ', pl ∈ κ ∨ w.heap.size ≤ pl.blk) : Pres w (okOf U κ) { w with heap := w.heap.push o } (okOf U κ') :=
  fun b x v hv hk => ⟨by rw [cell_heap (heap_push_lt w o (cell_lt hv))]; exact hv, hk.1, fun pl hp hh => by
    rcases hκ pl hp with h | h
    · exact hk.2 pl h hh
    · have := cell_lt hv; have := hh.1; omega⟩

theorem Ext.append {κ : List Place} {s : List SObj} (hl : κ.length = s.length) (pl : Place) (o : SObj) : Ext κ s (κ ++ [pl]) (s ++ [o]) where
  box := fun id v p h k => ⟨v, p, by rw [List.getElem?_append_left (by rcases Nat.lt_or_ge id s.length with q | q; exact q; simp [List.getElem?_eq_none q] at h)]; exact h,
    by rw [List.getElem?_append_left (by rcases Nat.lt_or_ge id κ.length with q | q; exact q; simp [List.getElem?_eq_none q] at k)]; exact k, rfl⟩
  map := fun id v p h k => ⟨v, p, by rw [List.getElem?_append_left (by rcases Nat.lt_or_ge id s.length with q | q; exact q; simp [List.getElem?_eq_none q] at h)]; exact h,
    by rw [List.getElem?_append_left (by rcases Nat.lt_or_ge id κ.length with q | q; exact q; simp [List.getElem?_eq_none q] at k)]; exact k, rfl⟩
  row := fun id cur e h => by
    have hlt : id < s.length := by rcases Nat.lt_or_ge id s.length with q | q; exact q; simp [List.getElem?_eq_none q] at h
    exact ⟨cur, by rw [List.getElem?_append_left hlt]; exact h, Nat.le_refl _, fun _ => by rw [List.getElem?_append_left (by omega)]⟩
  vec := fun id cur v h => by
    have hlt : id < s.length := by rcases Nat.lt_or_ge id s.length with q | q; exact q; simp [List.getElem?_eq_none q] at h
    exact ⟨cur, v, by rw [List.getElem?_append_left hlt]; exact h, Nat.le_refl _, fun _ => by rw [List.getElem?_append_left (by omega)]⟩
  lp := fun id ls pd d f n t ps as bd p h k => ⟨ls, pd, t, p, by rw [List.getElem?_append_left (by rcases Nat.lt_or_ge id s.length with q | q; exact q; simp [List.getElem?_eq_none q] at h)]; exact h,
    by rw [List.getElem?_append_left (by rcases Nat.lt_or_ge id κ.length with q | q; exact q; simp [List.getElem?_eq_none q] at k)]; exact k, rfl⟩
  dfr := fun id p h k => ⟨p, by rw [List.getElem?_append_left (by rcases Nat.lt_or_ge id s.length with q | q; exact q; simp [List.getElem?_eq_none q] at h)]; exact h,
    by rw [List.getElem?_append_left (by rcases Nat.lt_or_ge id κ.length with q | q; exact q; simp [List.getElem?_eq_none q] at k)]; exact k, rfl⟩

/-- A new object: what is new lies in a block of its own. -/
theorem RelS.push {U : Nat → Nat → Prop} {κ : List Place} {s : List SObj} {w : World} (h : RelS U κ s w) (ob : Go.Obj) (pl : Place) (o : SObj) (hb : pl.blk = w.heap.size)
    (ho : ObjR U (κ ++ [pl]) (s ++ [o]) { w with heap := w.heap.push ob } pl o) : RelS U (κ ++ [pl]) (s ++ [o]) { w with heap := w.heap.push ob } := by
  have hp : Pres w (okOf U κ) { w with heap := w.heap.push ob } (okOf U (κ ++ [pl])) := pres_push ob fun p hp => by
    rcases List.mem_append.1 hp with q | q
    · exact .inl q
    · simp at q; subst q; exact .inr (by omega)
  have he := Ext.append h.len pl o
  refine ⟨fun b x hb' => h.up b x (by simp at hb'; omega), by simp [h.len], fun id o' pl' a b => ?_, fun i j p p' hi hj hne hl hl' => ?_, fun p hp hl => ?_, fun p hp hl o => ?_, h.glob.pres hp⟩
  · rcases Nat.lt_trichotomy id s.length with hlt | heq | hgt
    · rw [List.getElem?_append_left hlt] at a
      rw [List.getElem?_append_left (by rw [h.len]; exact hlt)] at b
      have hob := h.obj id o' pl' a b
      cases o' with
      | box v =>
        obtain ⟨x0, x1, x2, x3, cells, elem, x4, x5⟩ := hob
        exact ⟨x0, x1, x2, by simp; omega, cells, elem, x4.of_eq (heap_push_lt w ob x3), x5.ext hp he⟩
      | row ver e =>
        intro x0
        obtain ⟨x3, x4⟩ := hob x0
        exact ⟨by simp; omega, fun q q1 q2 => by rw [cell_heap (heap_push_lt w ob x3), frozen_heap (heap_push_lt w ob x3)]; exact x4 q q1 q2⟩
      | map es =>
        obtain ⟨x0, x3, ents, clock, x4, x5⟩ := hob
        exact ⟨x0, by simp; omega, ents, clock, by rw [heap_push_lt w ob x3]; exact x4, x5.pres hp⟩
      | vec ver v =>
        obtain ⟨x0, x1, x3, cells, elem, ⟨cs, more, q1, q2⟩, x4, x5⟩ := hob
        exact ⟨x0, x1, by simp; omega, cells, elem, ⟨cs, more, q1, q2.ext hp he⟩, x4.of_eq (heap_push_lt w ob x3), x5⟩
      | dead => exact hob
      | lp ls pend d f n t ps as bd => exact ObjR.lpMove hp he (by simp) (fun x0 => heap_push_lt w ob hob.2.2.2.1) hob
      | dfr => exact ObjR.dfrMove (by simp) (fun x0 => heap_push_lt w ob hob.2.2.2.1) hob
    · subst heq
      simp at a
      rw [← h.len] at b
      simp at b
      subst a b
      exact ho
    · simp [List.getElem?_eq_none (show (s ++ [o]).length ≤ id by simp; omega)] at a
  · have key : ∀ (i : Nat) (q : Place), (κ ++ [pl])[i]? = some q → (i < κ.length ∧ κ[i]? = some q) ∨ (i = κ.length ∧ q = pl) := by
      intro i q hq
      rcases Nat.lt_trichotomy i κ.length with hlt | heq | hgt
      · rw [List.getElem?_append_left hlt] at hq; exact .inl ⟨hlt, hq⟩
      · subst heq; simp at hq; exact .inr ⟨rfl, hq.symm⟩
      · simp [List.getElem?_eq_none (show (κ ++ [pl]).length ≤ i by simp; omega)] at hq
    rcases key i p hi with ⟨_, a⟩ | ⟨_, a⟩ <;> rcases key j p' hj with ⟨_, b⟩ | ⟨_, b⟩
    · exact h.apart i j p p' a b hne hl hl'
    · subst b; have := h.below p (List.mem_of_getElem? a) hl; omega
    · subst a; have := h.below p' (List.mem_of_getElem? b) hl'; omega
    · omega
  · rcases List.mem_append.1 hp with q | q
    · have := h.below p q hl; simp; omega
    · simp at q; subst q; simp; omega
  · rcases List.mem_append.1 hp with q | q
    · exact h.mine p q hl o
    · simp at q; subst q; exact h.up _ o (by omega)

theorem step_push {U : Nat → Nat → Prop} {κ : List Place} {w : World} (ob : Go.Obj) (pl : Place) (hb : pl.blk = w.heap.size) : Step U κ w (κ ++ [pl]) { w with heap := w.heap.push ob } where
  kept := kept_push κ w ob
  fresh := fun p hp hl => by
    rcases List.mem_append.1 hp with q | q
    · exact .inl ⟨p, q, hl, rfl⟩
    · simp at q; subst q; exact .inr (by omega)
  pres := pres_push ob fun p hp => by
    rcases List.mem_append.1 hp with q | q
    · exact .inl q
    · simp at q; subst q; exact .inr (by omega)

theorem cell_push (w : World) (cs : Array Value) (e : TypeId) (j : Nat) : ({ w with heap := w.heap.push (.cells cs e) } : World).cell? ⟨w.heap.size, j, none⟩ = cs[j]? := by
  simp [World.cell?]

/-- A block that only holds what stays: the store is as it was. -/
theorem Rel.pushStill {U : Nat → Nat → Prop} {κ : List Place} {st : St} {a : Act} {w : World} (h : Rel U κ st a w) (ob : Go.Obj) : Rel U κ st a { w with heap := w.heap.push ob } ∧ Step U κ w κ { w with heap := w.heap.push ob } :=
  ⟨h.kept0 (kept_push [] w ob), (kept_push [] w ob).step0⟩

/-- A new box. -/
theorem Rel.box {U : Nat → Nat → Prop} {κ : List Place} {st : St} {a : Act} {w : World} (h : Rel U κ st a w) {v : V} {cells : Array Value} (e : TypeId) (hv : Vc U κ st.s w v cells.toList) :
    let w' : World := { w with heap := w.heap.push (.cells cells e) }
    let κ' := κ ++ [⟨w.heap.size, 0, v.sz, true⟩]
    let st' : St := { st with s := st.s ++ [.box v] }
    Rel U κ' st' a w' ∧ Step U κ w κ' w' ∧ Vc U κ' st'.s w' (.ptr st.s.length 0) [.pointer (some ⟨w.heap.size, 0, none⟩)] := by
  intro w' κ' st'
  have hst := step_push (U := U) (κ := κ) (w := w) (.cells cells e) ⟨w.heap.size, 0, v.sz, true⟩ rfl
  have he := Ext.append h.store.len ⟨w.heap.size, 0, v.sz, true⟩ (.box v)
  have hs : RelS U κ' st'.s w' := h.store.push _ _ _ rfl ⟨rfl, rfl, rfl, by simp, cells, e, .plain (by simp), hv.ext hst.pres he⟩
  exact ⟨h.carry hs hst he, hst, .ptr (v := v) (pl := ⟨w.heap.size, 0, v.sz, true⟩) (by simp [st']) (by simp [κ', ← h.store.len])⟩

end Go.HM
