/- HM, part O: rows: how the store turns at an append. -/
import Derived.Test.YtaghnihkkofmnaaGreatHmN
namespace Go.HM

variable {P : Program} {U : Nat → Nat → Prop} {κ : List Place} {s : List SObj} {w : World} {ok : Nat → Nat → Prop}

theorem get_set_cases {α : Type} {l : List α} {i j : Nat} {x y : α} (h : (l.set i x)[j]? = some y) : (i = j ∧ x = y) ∨ (i ≠ j ∧ l[j]? = some y) := by
  by_cases hi : i = j
  · subst hi
    have : i < l.length := by rcases Nat.lt_or_ge i l.length with q | q; exact q; simp [List.getElem?_eq_none (show (l.set i x).length ≤ i by simpa using q)] at h
    simp [this] at h
    exact .inl ⟨rfl, h⟩
  · rw [List.getElem?_set_ne hi] at h; exact .inr ⟨hi, h⟩

theorem getElem?_lt {α : Type} {l : List α} {i : Nat} {x : α} (h : l[i]? = some x) : i < l.length := by
  rcases Nat.lt_or_ge i l.length with q | q
  · exact q
  · simp [List.getElem?_eq_none q] at h

/-- Another object, where its block is as it was. -/
theorem ObjR.move {κ' : List Place} {s' : List SObj} {w' : World} (hp : Pres w (okOf U κ) w' (okOf U κ')) (he : Ext κ s κ' s') (hsz : w.heap.size ≤ w'.heap.size) {pl : Place} {o : SObj} (hb : pl.on = true → w'.heap[pl.blk]? = w.heap[pl.blk]?)
    (h : ObjR U κ s w pl o) : ObjR U κ' s' w' pl o := by
  cases o with
  | box v =>
    obtain ⟨x0, a, b, c, cells, elem, d, e⟩ := h
    exact ⟨x0, a, b, Nat.lt_of_lt_of_le c hsz, cells, elem, d.of_eq (hb x0), e.ext hp he⟩
  | row ver e =>
    intro x0
    obtain ⟨c, h⟩ := h x0
    exact ⟨Nat.lt_of_lt_of_le c hsz, fun o a b => by rw [cell_heap (hb x0), frozen_heap (hb x0)]; exact h o a b⟩
  | map es =>
    obtain ⟨x0, c, ents, clock, d, e⟩ := h
    exact ⟨x0, Nat.lt_of_lt_of_le c hsz, ents, clock, by rw [hb x0]; exact d, e.pres hp⟩
  | vec c v =>
    obtain ⟨x0, a, b, cells, elem, ⟨cs, more, q1, q2⟩, d, e⟩ := h
    exact ⟨x0, a, Nat.lt_of_lt_of_le b hsz, cells, elem, ⟨cs, more, q1, q2.ext hp he⟩, d.of_eq (hb x0), e⟩
  | dead => exact h
  | lp ls pd d f n t ps as bd => exact ObjR.lpMove hp he hsz hb h
  | dfr => exact ObjR.dfrMove hsz hb h

theorem Ext.setRow {id cur e : Nat} (hs : s[id]? = some (.row cur e)) (pl' : Place) : Ext κ s (κ.set id pl') (s.set id (.row (cur + 1) e)) := by
  refine ⟨fun i x p a b => ?_, fun i x p a b => ?_, fun i c e' a => ?_, fun i c x a => ?_, fun i ls pd d f n t ps as bd p a b => ?_, fun i p a b => ?_⟩
  · have hi : id ≠ i := by rintro rfl; rw [hs] at a; cases a
    exact ⟨x, p, by rw [List.getElem?_set_ne hi]; exact a, by rw [List.getElem?_set_ne hi]; exact b, rfl⟩
  · have hi : id ≠ i := by rintro rfl; rw [hs] at a; cases a
    exact ⟨x, p, by rw [List.getElem?_set_ne hi]; exact a, by rw [List.getElem?_set_ne hi]; exact b, rfl⟩
  · by_cases hi : id = i
    · subst hi
      rw [hs] at a; injection a with a; injection a with a1 a2; subst a1 a2
      refine ⟨cur + 1, by rw [List.getElem?_set_self (getElem?_lt hs)], by omega, fun h => by omega⟩
    · exact ⟨c, by rw [List.getElem?_set_ne hi]; exact a, Nat.le_refl _, fun _ => by rw [List.getElem?_set_ne hi]⟩
  · have hi : id ≠ i := by rintro rfl; rw [hs] at a; cases a
    exact ⟨c, x, by rw [List.getElem?_set_ne hi]; exact a, Nat.le_refl _, fun _ => by rw [List.getElem?_set_ne hi]⟩
  · have hi : id ≠ i := by rintro rfl; rw [hs] at a; cases a
    exact ⟨ls, pd, t, p, by rw [List.getElem?_set_ne hi]; exact a, by rw [List.getElem?_set_ne hi]; exact b, rfl⟩
  · have hi : id ≠ i := by rintro rfl; rw [hs] at a; cases a
    exact ⟨p, by rw [List.getElem?_set_ne hi]; exact a, by rw [List.getElem?_set_ne hi]; exact b, rfl⟩

/-- A row's object takes another place: the rest is as it was. -/
theorem RelS.setRow (h : RelS U κ s w) {id cur e : Nat} {w' : World} (hs : s[id]? = some (.row cur e)) (pl' : Place) (hp : Pres w (okOf U κ) w' (okOf U (κ.set id pl'))) (hsz : w.heap.size ≤ w'.heap.size)
    (hother : ∀ i o pl, i ≠ id → s[i]? = some o → κ[i]? = some pl → pl.on = true → w'.heap[pl.blk]? = w.heap[pl.blk]? ∧ (pl'.on = true → pl.blk ≠ pl'.blk))
    (hnew : pl'.on = true → pl'.blk < w'.heap.size ∧ ∀ o, pl'.lo ≤ o → o < pl'.hi → (w'.cell? ⟨pl'.blk, o, none⟩).isSome = true ∧ w'.frozen? ⟨pl'.blk, o, none⟩ = false ∧ U pl'.blk o) (hm : pl'.on = true → ∀ o, U pl'.blk o) :
    RelS U (κ.set id pl') (s.set id (.row (cur + 1) e)) w' := by
  have he := Ext.setRow (κ := κ) hs pl'
  have hobj : ∀ i pl, κ[i]? = some pl → ∃ o, s[i]? = some o := fun i pl hk => by
    have := getElem?_lt hk
    rw [h.len] at this
    exact ⟨s[i], List.getElem?_eq_getElem this⟩
  refine ⟨fun b o hb => h.up b o (by omega), by simp [h.len], fun i o pl a b => ?_, fun i j p p' a b hne hl hl' => ?_, fun p hp' hl => ?_, fun p hp' hl o => ?_, h.glob.pres hp⟩
  · rcases get_set_cases a with ⟨rfl, rfl⟩ | ⟨hi, a⟩
    · rcases get_set_cases b with ⟨_, rfl⟩ | ⟨hi, _⟩
      · exact hnew
      · exact absurd rfl hi
    · rcases get_set_cases b with ⟨e', _⟩ | ⟨_, b⟩
      · exact absurd e' hi
      · exact (h.obj i o pl a b).move hp he hsz (fun hon => (hother i o pl (Ne.symm hi) a b hon).1)
  · rcases get_set_cases a with ⟨rfl, rfl⟩ | ⟨hi, a⟩ <;> rcases get_set_cases b with ⟨rfl, rfl⟩ | ⟨hj, b⟩
    · exact absurd rfl hne
    · obtain ⟨o, ho⟩ := hobj j p' b
      exact ((hother j o p' (Ne.symm hj) ho b hl').2 hl).symm
    · obtain ⟨o, ho⟩ := hobj i p a
      exact (hother i o p (Ne.symm hi) ho a hl).2 hl'
    · exact h.apart i j p p' a b hne hl hl'
  · obtain ⟨i, hi⟩ := List.getElem?_of_mem hp'
    rcases get_set_cases hi with ⟨rfl, rfl⟩ | ⟨_, hi⟩
    · exact (hnew hl).1
    · have := h.below p (List.mem_of_getElem? hi) hl; omega
  · obtain ⟨i, hi⟩ := List.getElem?_of_mem hp'
    rcases get_set_cases hi with ⟨rfl, rfl⟩ | ⟨_, hi⟩
    · exact hm hl o
    · exact h.mine p (List.mem_of_getElem? hi) hl o

theorem mem_set_cases {l : List Place} {i : Nat} {x y : Place} (h : y ∈ l.set i x) : y = x ∨ ∃ j, j ≠ i ∧ l[j]? = some y := by
  obtain ⟨j, hj⟩ := List.getElem?_of_mem h
  rcases get_set_cases hj with ⟨_, rfl⟩ | ⟨hi, hj⟩
  · exact .inl rfl
  · exact .inr ⟨j, Ne.symm hi, hj⟩

/-- In place. -/
theorem RelS.rowGrow (h : RelS U κ s w) {id cur e : Nat} {pl : Place} {us : List Value} (hs : s[id]? = some (.row cur e)) (hk : κ[id]? = some pl) (hon : pl.on = true) (hl : pl.lo + us.length ≤ pl.hi) :
    let pl' : Place := ⟨pl.blk, pl.lo + us.length, pl.hi, true⟩
    let w' := w.setCells pl.blk pl.lo us
    RelS U (κ.set id pl') (s.set id (.row (cur + 1) e)) w' ∧ Step U κ w (κ.set id pl') w' ∧
      (∀ (j : Nat) (v : Value), us[j]? = some v → w'.cell? ⟨pl.blk, pl.lo + j, none⟩ = some v ∧ okOf U (κ.set id pl') pl.blk (pl.lo + j)) ∧
      (∀ j, j < us.length → (w.cell? ⟨pl.blk, pl.lo + j, none⟩).isSome = true ∧ w.frozen? ⟨pl.blk, pl.lo + j, none⟩ = false) := by
  intro pl' w'
  obtain ⟨hblt, htail⟩ := h.obj id _ pl hs hk hon
  obtain ⟨e1, e2, e3, e4, e5⟩ := setCells_rest pl.blk us pl.lo w
  have hex : ∀ j, j < us.length → (w.cell? ⟨pl.blk, pl.lo + j, none⟩).isSome = true := fun j hj => (htail (pl.lo + j) (by omega) (by omega)).1
  have hp : Pres w (okOf U κ) w' (okOf U (κ.set id pl')) := fun b o v hv ho => by
    refine ⟨?_, ho.1, fun p hp hh => ?_⟩
    · by_cases hb : b = pl.blk
      · subst hb
        rw [← hv]
        refine World.cell?_setCells_out pl.blk us pl.lo w _ (fun _ _ => ?_)
        by_cases h1 : o < pl.lo
        · exact .inl h1
        · refine .inr ?_
          by_cases h2 : o < pl.hi
          · exact absurd ⟨rfl, by omega, h2, hon⟩ (ho.2 pl (List.mem_of_getElem? hk))
          · simp only; omega
      · rw [cell_heap (e5 b hb)]; exact hv
    · rcases mem_set_cases hp with rfl | ⟨j, _, hj⟩
      · exact ho.2 pl (List.mem_of_getElem? hk) ⟨hh.1, by have := hh.2.1; simp only [pl'] at this; omega, hh.2.2.1, hon⟩
      · exact ho.2 p (List.mem_of_getElem? hj) hh
  have hR := h.setRow hs pl' hp (by have e6 : w'.heap.size = w.heap.size := e4; omega) (fun i o p hi ho hpk hpon => by
      have hne : p.blk ≠ pl.blk := h.apart i id p pl hpk hk hi hpon hon
      exact ⟨e5 _ hne, fun _ => hne⟩) (fun _ => ⟨by have e6 : w'.heap.size = w.heap.size := e4; show pl.blk < w'.heap.size; omega, fun o a b => by
      have ho := htail o (by simp only [pl'] at a; omega) b
      refine ⟨?_, by rw [World.frozen?_setCells]; exact ho.2.1, ho.2.2⟩
      rw [World.cell?_setCells_out pl.blk us pl.lo w _ (fun _ _ => .inr (by simp only [pl'] at a; exact a))]
      exact ho.1⟩) (fun _ => h.mine pl (List.mem_of_getElem? hk) hon)
  refine ⟨hR, ⟨⟨e1, e2, e3, by have e6 : w'.heap.size = w.heap.size := e4; omega, fun k _ hn => e5 k (hn pl (List.mem_of_getElem? hk) hon)⟩, fun p hp hl => ?_, hp⟩, fun j v hj => ?_, fun j hj => ⟨hex j hj, (htail (pl.lo + j) (by omega) (by omega)).2.1⟩⟩
  · rcases mem_set_cases hp with rfl | ⟨j, _, hj⟩
    · exact .inl ⟨pl, List.mem_of_getElem? hk, hon, rfl⟩
    · exact .inl ⟨p, List.mem_of_getElem? hj, hl, rfl⟩
  · have hjl := getElem?_lt hj
    have := World.cell?_setCells_in pl.blk us pl.lo w hex j hjl
    refine ⟨by rw [this]; rw [List.getElem?_eq_getElem hjl] at hj; exact hj, (htail (pl.lo + j) (by omega) (by omega)).2.2, fun p hp hh => ?_⟩
    rcases mem_set_cases hp with rfl | ⟨i, hi, hpi⟩
    · have := hh.2.1; simp only [pl'] at this; omega
    · exact h.apart i id p pl hpi hk hi hh.2.2.2 hon hh.1.symm

theorem drew_alloc (w : World) (o : Go.Obj) : w.drew.alloc o = { w with drawn := w.drawn + 1, heap := w.heap.push o } := rfl

theorem kept_drewAlloc (κ : List Place) (w : World) (o : Go.Obj) : Kept κ w (w.drew.alloc o) :=
  ⟨rfl, rfl, rfl, by simp [drew_alloc], fun k h _ => by rw [drew_alloc]; exact heap_push_lt w o h⟩

theorem pres_drewAlloc {κ' : List Place} (o : Go.Obj) (hκ : ∀ pl ∈ κ', pl ∈ κ ∨ w.heap.size ≤ pl.blk) : Pres w (okOf U κ) (w.drew.alloc o) (okOf U κ') :=
  fun b x v hv hk => let ⟨p, q⟩ := pres_push (U := U) (w := w) o hκ b x v hv hk; ⟨p, q⟩

theorem cell_drewAlloc (w : World) (cs : Array Value) (e : TypeId) (j : Nat) : (w.drew.alloc (.cells cs e)).cell? ⟨w.heap.size, j, none⟩ = cs[j]? := by
  rw [drew_alloc]; simp [World.cell?]

theorem frozen_drewAlloc (w : World) (cs : Array Value) (e : TypeId) (j : Nat) : (w.drew.alloc (.cells cs e)).frozen? ⟨w.heap.size, j, none⟩ = false := by
  rw [drew_alloc]; simp [World.frozen?]

theorem RelS.drew (h : RelS U κ s w) (n : Nat) : RelS U κ s { w with drawn := n } := h.kept0 ⟨rfl, rfl, rfl, Nat.le_refl _, fun _ _ _ => rfl⟩

/-- Into a new block. -/
theorem RelS.rowMove (h : RelS U κ s w) {id cur e : Nat} (hs : s[id]? = some (.row cur e)) (cs : Array Value) (et : TypeId) (lo : Nat) :
    let pl' : Place := ⟨w.heap.size, lo, cs.size, true⟩
    let w' := w.drew.alloc (.cells cs et)
    RelS U (κ.set id pl') (s.set id (.row (cur + 1) e)) w' ∧ Step U κ w (κ.set id pl') w' ∧ (∀ j, j < lo → okOf U (κ.set id pl') w.heap.size j) := by
  intro pl' w'
  have hκ : ∀ p ∈ κ.set id pl', p ∈ κ ∨ w.heap.size ≤ p.blk := fun p hp => by
    rcases mem_set_cases hp with rfl | ⟨j, _, hj⟩
    · exact .inr (Nat.le_refl _)
    · exact .inl (List.mem_of_getElem? hj)
  have hp : Pres w (okOf U κ) w' (okOf U (κ.set id pl')) := pres_drewAlloc _ hκ
  refine ⟨h.setRow hs pl' hp (kept_drewAlloc [] w _).size (fun i o p hi ho hpk hpon => ?_) (fun _ => ⟨by simp [w', drew_alloc, pl'], fun o a b => ?_⟩) (fun _ o => h.up _ o (Nat.le_refl _)), ⟨kept_drewAlloc κ w _, fun p hp' hl => ?_, hp⟩, fun j hj => ⟨h.up _ _ (Nat.le_refl _), fun p hp' hh => ?_⟩⟩
  · have := h.below p (List.mem_of_getElem? hpk) hpon
    exact ⟨heap_push_lt w _ this, fun _ => by simp only [pl']; omega⟩
  · refine ⟨?_, frozen_drewAlloc w cs et o, h.up _ _ (Nat.le_refl _)⟩
    rw [show pl'.blk = w.heap.size from rfl, cell_drewAlloc]
    simp only [pl'] at b
    simp [b]
  · rcases hκ p hp' with q | q
    · exact .inl ⟨p, q, hl, rfl⟩
    · exact .inr q
  · rcases mem_set_cases hp' with rfl | ⟨i, _, hpi⟩
    · have := hh.2.1; simp only [pl'] at this; omega
    · have := h.below p (List.mem_of_getElem? hpi) hh.2.2.2; have := hh.1; omega

/-- A row anew. -/
theorem RelS.rowNew (h : RelS U κ s w) (cs : Array Value) (et : TypeId) (lo e : Nat) :
    let pl' : Place := ⟨w.heap.size, lo, cs.size, true⟩
    let w' := w.drew.alloc (.cells cs et)
    RelS U (κ ++ [pl']) (s ++ [.row 0 e]) w' ∧ Step U κ w (κ ++ [pl']) w' ∧ (∀ j, j < lo → okOf U (κ ++ [pl']) w.heap.size j) := by
  intro pl' w'
  have h1 := (h.drew (w.drawn + 1)).push (.cells cs et) pl' (.row 0 e) rfl (fun _ => ⟨by simp [pl'], fun o a b => by
    refine ⟨?_, ?_, h.up _ _ (Nat.le_refl _)⟩
    · have := cell_drewAlloc w cs et o
      rw [drew_alloc] at this
      rw [show pl'.blk = w.heap.size from rfl, this]
      simp only [pl'] at b
      simp [b]
    · have := frozen_drewAlloc w cs et o
      rw [drew_alloc] at this
      exact this⟩)
  have hκ : ∀ p ∈ κ ++ [pl'], p ∈ κ ∨ w.heap.size ≤ p.blk := fun p hp => by
    rcases List.mem_append.1 hp with q | q
    · exact .inl q
    · simp at q; subst q; exact .inr (Nat.le_refl _)
  refine ⟨h1, ⟨kept_drewAlloc κ w _, fun p hp' hl => ?_, pres_drewAlloc _ hκ⟩, fun j hj => ⟨h.up _ _ (Nat.le_refl _), fun p hp' hh => ?_⟩⟩
  · rcases hκ p hp' with q | q
    · exact .inl ⟨p, q, hl, rfl⟩
    · exact .inr q
  · rcases List.mem_append.1 hp' with q | q
    · have := h.below p q hh.2.2.2; have := hh.1; omega
    · simp at q; subst q; have := hh.2.1; simp only [pl'] at this; omega

/-- A row without a tail. -/
theorem RelS.rowOff (h : RelS U κ s w) (e : Nat) :
    RelS U (κ ++ [⟨0, 0, 0, false⟩]) (s ++ [.row 0 e]) w ∧ Step U κ w (κ ++ [⟨0, 0, 0, false⟩]) w := by
  have hmem : ∀ p ∈ κ ++ [(⟨0, 0, 0, false⟩ : Place)], p ∈ κ ∨ p.on = false := fun p hp => by
    rcases List.mem_append.1 hp with q | q
    · exact .inl q
    · simp at q; subst q; exact .inr rfl
  have hp : Pres w (okOf U κ) w (okOf U (κ ++ [⟨0, 0, 0, false⟩])) := fun b o v hv ho => ⟨hv, ho.1, fun p hp hh => by
    rcases hmem p hp with q | q
    · exact ho.2 p q hh
    · rw [hh.2.2.2] at q; cases q⟩
  have he := Ext.append h.len ⟨0, 0, 0, false⟩ (.row 0 e)
  have key : ∀ (i : Nat) (q : Place), (κ ++ [(⟨0, 0, 0, false⟩ : Place)])[i]? = some q → (i < κ.length ∧ κ[i]? = some q) ∨ (i = κ.length ∧ q = ⟨0, 0, 0, false⟩) := by
    intro i q hq
    rcases Nat.lt_trichotomy i κ.length with hlt | heq | hgt
    · rw [List.getElem?_append_left hlt] at hq; exact .inl ⟨hlt, hq⟩
    · subst heq; simp at hq; exact .inr ⟨rfl, hq.symm⟩
    · simp [List.getElem?_eq_none (show (κ ++ [(⟨0, 0, 0, false⟩ : Place)]).length ≤ i by simp; omega)] at hq
  refine ⟨⟨h.up, by simp [h.len], fun i o p a b => ?_, fun i j p p' a b hne hl hl' => ?_, fun p hp' hl => ?_, fun p hp' hl o => (hmem p hp').elim (fun q => h.mine p q hl o) (fun q => by rw [show p.on = true from hl] at q; cases q), h.glob.pres hp⟩, ⟨.refl _ _, fun p hp' hl => ?_, hp⟩⟩
  · rcases key i p b with ⟨hi, b⟩ | ⟨hi, rfl⟩
    · rw [List.getElem?_append_left (by rw [← h.len]; exact hi)] at a
      exact (h.obj i o p a b).move hp he (Nat.le_refl _) (fun _ => rfl)
    · rw [hi, h.len] at a
      simp at a
      subst a
      intro hon; cases hon
  · rcases key i p a with ⟨_, a⟩ | ⟨_, rfl⟩
    · rcases key j p' b with ⟨_, b⟩ | ⟨_, rfl⟩
      · exact h.apart i j p p' a b hne hl hl'
      · cases hl'
    · cases hl
  · rcases hmem p hp' with q | q
    · exact h.below p q hl
    · rw [show p.on = true from hl] at q; cases q
  · rcases hmem p hp' with q | q
    · exact .inl ⟨p, q, hl, rfl⟩
    · rw [show p.on = true from hl] at q; cases q

end Go.HM
