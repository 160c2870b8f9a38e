/- HN, part Rf: the record of a range over a function, in the store. -/
import Derived.Test.YtaghnihkkofmnaaGreatHnFr
namespace Go.HM

variable {P : Program} {U : Nat → Nat → Prop} {κ : List Place} {s : List SObj} {w : World}

theorem cell_loop {lo : Loop} {b o : Nat} (h : w.heap[b]? = some (.loop lo)) : w.cell? ⟨b, o, none⟩ = none := by
  simp [World.cell?, h]

theorem List.set_same {α : Type} {l : List α} {i : Nat} {x : α} (h : l[i]? = some x) : l.set i x = l := by
  apply List.ext_getElem?
  intro j
  by_cases hj : i = j
  · subst hj; rw [List.getElem?_set_self (getElem?_lt h), h]
  · rw [List.getElem?_set_ne hj]

theorem Ext.setLp {id : Nat} {ls ls' : LoopState} {pd pd' : Option Code} {d : Nat} {f : FuncId} {m : Nat} {t t' : List (Nat × V)} {ps : Array Tmp} {as bd : Code}
    (hs : s[id]? = some (.lp ls pd d f m t ps as bd)) : Ext κ s κ (s.set id (.lp ls' pd' d f m t' ps as bd)) := by
  refine ⟨fun i x p a b => ?_, fun i x p a b => ?_, fun i c e' a => ?_, fun i c x a => ?_, fun i ls1 pd1 d1 f1 n1 t1 ps1 as1 bd1 p a b => ?_, fun i p a b => ?_⟩
  · have hi : id ≠ i := by rintro rfl; rw [hs] at a; cases a
    exact ⟨x, p, by rw [List.getElem?_set_ne hi]; exact a, b, rfl⟩
  · have hi : id ≠ i := by rintro rfl; rw [hs] at a; cases a
    exact ⟨x, p, by rw [List.getElem?_set_ne hi]; exact a, b, rfl⟩
  · have hi : id ≠ i := by rintro rfl; rw [hs] at a; cases a
    exact ⟨c, by rw [List.getElem?_set_ne hi]; exact a, Nat.le_refl _, fun _ => rfl⟩
  · have hi : id ≠ i := by rintro rfl; rw [hs] at a; cases a
    exact ⟨c, x, by rw [List.getElem?_set_ne hi]; exact a, Nat.le_refl _, fun _ => rfl⟩
  · by_cases hi : id = i
    · subst hi
      rw [hs] at a; injection a with a; injection a; subst_vars
      exact ⟨ls', pd', t', p, by rw [List.getElem?_set_self (getElem?_lt hs)], b, rfl⟩
    · exact ⟨ls1, pd1, t1, p, by rw [List.getElem?_set_ne hi]; exact a, b, rfl⟩
  · have hi : id ≠ i := by rintro rfl; rw [hs] at a; cases a
    exact ⟨p, by rw [List.getElem?_set_ne hi]; exact a, b, rfl⟩

/-- The record turns. -/
theorem RelS.setLp (h : RelS U κ s w) {id : Nat} {pl : Place} {ls ls' : LoopState} {pd pd' : Option Code} {d : Nat} {f : FuncId} {m : Nat} {t t' : List (Nat × V)} {ps : Array Tmp} {as bd : Code}
    (hs : s[id]? = some (.lp ls pd d f m t ps as bd)) (hk : κ[id]? = some pl) (ht : t' = t ∨ t' = []) :
    ∃ (fn : FuncId) (D : Nat) (tmps : Array Value), w.heap[pl.blk]? = some (.loop { state := ls, pending := pd, fn, tmps, params := ps, assign := as, body := bd, defers := D }) ∧
      ∀ w', w' = w.putObj pl.blk (.loop { state := ls', pending := pd', fn, tmps, params := ps, assign := as, body := bd, defers := D }) →
        RelS U κ (s.set id (.lp ls' pd' d f m t' ps as bd)) w' ∧ Step U κ w κ w' ∧ Ext κ s κ (s.set id (.lp ls' pd' d f m t' ps as bd)) := by
  obtain ⟨q1, q2, q3, q4, tmps, ⟨fn, D, a3⟩, a4, a5⟩ := h.obj id _ pl hs hk
  refine ⟨fn, D, tmps, a3, fun w' hw => ?_⟩
  have hx : Ext κ s κ (s.set id (.lp ls' pd' d f m t' ps as bd)) := Ext.setLp hs
  have hother : ∀ k, k ≠ pl.blk → w'.heap[k]? = w.heap[k]? := fun k hk => by rw [hw]; exact World.putObj_heap_other hk
  have hsz : w'.heap.size = w.heap.size := by rw [hw]; simp
  have hp : Pres w (okOf U κ) w' (okOf U κ) := fun b o v hv ho => by
    refine ⟨?_, ho⟩
    by_cases hb : b = pl.blk
    · subst hb; rw [cell_loop a3] at hv; cases hv
    · rw [← hv]; simp only [World.cell?, hother b hb]
  refine ⟨⟨fun b o hb => h.up b o (by omega), by simp [h.len], fun i o p a b => ?_, h.apart, fun p hp hl => by rw [hsz]; exact h.below p hp hl, h.mine, h.glob.pres hp⟩,
    ⟨⟨by rw [hw]; rfl, by rw [hw]; rfl, by rw [hw]; rfl, by omega, fun k hk' hn => hother k (hn pl (List.mem_of_getElem? hk) q1)⟩, fun p a b => .inl ⟨p, a, b, rfl⟩, hp⟩, hx⟩
  rcases get_set_cases a with ⟨rfl, rfl⟩ | ⟨hi, a⟩
  · rw [hk] at b; injection b with b; subst b
    refine ⟨q1, q2, q3, by omega, tmps, ⟨fn, D, by rw [hw]; exact World.putObj_heap_same q4⟩, a4, fun x v hv => ?_⟩
    rcases ht with rfl | rfl
    · exact (a5 x v hv).ext hp hx
    · simp [getT_nil] at hv
  · refine (h.obj i o p a b).move hp hx (by omega) (fun hon => hother _ ?_)
    exact fun e => h.apart i id p pl b hk (Ne.symm hi) hon q1 e

/-! A record that nothing speaks of -/
mutual
def V.noY (id : Nat) : V → Bool
  | .yld i => !Nat.beq i id
  | .agg vs => V.noYs id vs
  | .clo _ vs => V.noYs id vs
  | .tup vs => V.noYs id vs
  | .wh _ _ v => v.noY id
  | _ => true
def V.noYs (id : Nat) : List V → Bool
  | [] => true
  | v :: vs => v.noY id && V.noYs id vs
end

def noYT (id : Nat) : List (Nat × V) → Bool
  | [] => true
  | p :: r => p.2.noY id && noYT id r

def noYO (id : Nat) : List SObj → Bool
  | [] => true
  | .box v :: r => v.noY id && noYO id r
  | .vec _ v :: r => v.noY id && noYO id r
  | .lp _ _ _ _ _ t _ _ _ :: r => noYT id t && noYO id r
  | _ :: r => noYO id r

theorem noYT_get {id : Nat} : ∀ {t : List (Nat × V)} {x : Nat} {v : V}, noYT id t = true → getT t x = some v → v.noY id = true
  | [], x, v, _, h => by simp [getT_nil] at h
  | (y, u) :: r, x, v, hn, h => by
    simp only [noYT, Bool.and_eq_true] at hn
    rw [getT_cons] at h
    split at h
    · injection h with h; subst h; exact hn.1
    · exact noYT_get hn.2 h

theorem noYO_get {id : Nat} : ∀ {s : List SObj} {i : Nat} {o : SObj}, noYO id s = true → s[i]? = some o →
    (match o with | .box v => v.noY id = true | .vec _ v => v.noY id = true | .lp _ _ _ _ _ t _ _ _ => noYT id t = true | _ => True)
  | [], i, o, _, h => by simp at h
  | o' :: r, 0, o, hn, h => by
    simp at h; subst h
    cases o' <;> first | trivial | (simp only [noYO, Bool.and_eq_true] at hn; exact hn.1)
  | o' :: r, i + 1, o, hn, h => by
    refine noYO_get (s := r) (i := i) ?_ (by simpa using h)
    cases o' <;> first | exact hn | (simp only [noYO, Bool.and_eq_true] at hn; exact hn.2)

section
variable {id : Nat} {pl : Place} {ls : LoopState} {pd : Option Code} {d : Nat} {f : FuncId} {m : Nat} {t : List (Nat × V)} {ps : Array Tmp} {as bd : Code}

theorem kill_pres (hk : κ[id]? = some pl) : Pres w (okOf U κ) w (okOf U (κ.set id { pl with on := false })) := fun b o v hv ho => by
  refine ⟨hv, ho.1, fun p hp hh => ?_⟩
  obtain ⟨i, hi⟩ := List.getElem?_of_mem hp
  rcases get_set_cases hi with ⟨rfl, rfl⟩ | ⟨_, hi⟩
  · cases hh.2.2.2
  · exact ho.2 p (List.mem_of_getElem? hi) hh

mutual
theorem Vc.kill (hs : s[id]? = some (.lp ls pd d f m t ps as bd)) (hp : Pres w (okOf U κ) w (okOf U (κ.set id { pl with on := false }))) : ∀ {v : V} {cs : List Value}, Vc U κ s w v cs → v.noY id = true → Vc U (κ.set id { pl with on := false }) (s.set id .dead) w v cs
  | _, _, .p h, _ => .p (h.pres hp)
  | _, _, .rb b, _ => .rb b
  | _, _, .ptr (id := i) h k, _ => by
    have hi : id ≠ i := by rintro rfl; rw [hs] at h; cases h
    exact .ptr (by rw [List.getElem?_set_ne hi]; exact h) (by rw [List.getElem?_set_ne hi]; exact k)
  | _, _, .row (id := i) h k l mm, _ => by
    have hi : id ≠ i := by rintro rfl; rw [hs] at k; cases k
    refine .row (h.pres hp) (by rw [List.getElem?_set_ne hi]; exact k) l (fun e => ?_)
    rw [List.getElem?_set_ne hi]; exact mm e
  | _, _, .map (id := i) h k, _ => by
    have hi : id ≠ i := by rintro rfl; rw [hs] at h; cases h
    exact .map (by rw [List.getElem?_set_ne hi]; exact h) (by rw [List.getElem?_set_ne hi]; exact k)
  | _, _, .view (id := i) h k, _ => by
    have hi : id ≠ i := by rintro rfl; rw [hs] at h; cases h
    exact .view (by rw [List.getElem?_set_ne hi]; exact h) (by rw [List.getElem?_set_ne hi]; exact k)
  | _, _, .cv (id := i) k l n mm, _ => by
    have hi : id ≠ i := by rintro rfl; rw [hs] at k; cases k
    refine .cv (by rw [List.getElem?_set_ne hi]; exact k) l n (fun e => ?_)
    rw [List.getElem?_set_ne hi]; exact mm e
  | _, _, .ep (id := i) k l mm, _ => by
    have hi : id ≠ i := by rintro rfl; rw [hs] at k; cases k
    refine .ep (by rw [List.getElem?_set_ne hi]; exact k) l (fun e => ?_)
    rw [List.getElem?_set_ne hi]; exact mm e
  | _, _, .yld (id := i) h k, hn => by
    have hi : id ≠ i := by
      rintro rfl
      simp [V.noY] at hn
    exact .yld (by rw [List.getElem?_set_ne hi]; exact h) (by rw [List.getElem?_set_ne hi]; exact k)
  | _, _, .agg h, hn => .agg (Vcs.kill hs hp h (by simpa [V.noY] using hn))
  | _, _, .clo h k, hn => .clo (Vcs.kill hs hp h (by simpa [V.noY] using hn)) k
  | _, _, .bad h, _ => .bad h
theorem Vcs.kill (hs : s[id]? = some (.lp ls pd d f m t ps as bd)) (hp : Pres w (okOf U κ) w (okOf U (κ.set id { pl with on := false }))) : ∀ {vs : List V} {cs : List Value}, Vcs U κ s w vs cs → V.noYs id vs = true → Vcs U (κ.set id { pl with on := false }) (s.set id .dead) w vs cs
  | _, _, .nil, _ => .nil
  | _, _, .cons h k, hn => by
    simp only [V.noYs, Bool.and_eq_true] at hn
    exact .cons (Vc.kill hs hp h hn.1) (Vcs.kill hs hp k hn.2)
end

theorem F2_noY (hs : s[id]? = some (.lp ls pd d f m t ps as bd)) (hp : Pres w (okOf U κ) w (okOf U (κ.set id { pl with on := false }))) : ∀ {vs : List V} {xs : List Value}, F2 (VV1 U κ s w) vs xs → V.noYs id vs = true → F2 (VV1 U (κ.set id { pl with on := false }) (s.set id .dead) w) vs xs
  | _, _, .nil, _ => .nil
  | _, _, .cons h k, hn => by
    simp only [V.noYs, Bool.and_eq_true] at hn
    exact .cons ⟨Vc.kill hs hp h.1 hn.1, h.2⟩ (F2_noY hs hp k hn.2)

theorem VV.kill (hs : s[id]? = some (.lp ls pd d f m t ps as bd)) (hp : Pres w (okOf U κ) w (okOf U (κ.set id { pl with on := false }))) {v : V} {x : Value} (h : VV U κ s w v x) (hn : v.noY id = true) : VV U (κ.set id { pl with on := false }) (s.set id .dead) w v x := by
  cases v with
  | tup vs => obtain ⟨xs, a, b⟩ := h; exact ⟨xs, a, F2_noY hs hp b (by simpa [V.noY] using hn)⟩
  | _ => exact ⟨Vc.kill hs hp h.1 hn, h.2⟩

theorem Slot.kill (hs : s[id]? = some (.lp ls pd d f m t ps as bd)) (hp : Pres w (okOf U κ) w (okOf U (κ.set id { pl with on := false }))) {a : Act} {x : Nat} {v : V} (h : Slot U κ s w a x v) (hn : v.noY id = true) : Slot U (κ.set id { pl with on := false }) (s.set id .dead) w a x v := by
  cases v with
  | wh d want u => exact fun e => let ⟨y, p, q⟩ := h e; ⟨y, p, q.kill hs hp (by simpa [V.noY] using hn)⟩
  | bad => trivial
  | _ => exact let ⟨y, p, q⟩ := h; ⟨y, p, q.kill hs hp hn⟩

/-- It is let go. -/
theorem RelS.killLp (h : RelS U κ s w) (hs : s[id]? = some (.lp ls pd d f m t ps as bd)) (hk : κ[id]? = some pl) (hn : noYO id (s.set id .dead) = true) : RelS U (κ.set id { pl with on := false }) (s.set id .dead) w := by
  have hp : Pres w (okOf U κ) w (okOf U (κ.set id { pl with on := false })) := kill_pres hk
  have live : ∀ {i : Nat} {p : Place}, (κ.set id { pl with on := false })[i]? = some p → p.live → id ≠ i ∧ κ[i]? = some p := fun {i p} a b => by
    rcases get_set_cases a with ⟨_, rfl⟩ | q
    · cases b
    · exact q
  refine ⟨h.up, by simp [h.len], fun i o p a b => ?_, fun i j p p' a b hne l1 l2 => h.apart i j p p' (live a l1).2 (live b l2).2 hne l1 l2, fun p a l => ?_, fun p a l => ?_, h.glob.pres hp⟩
  · have hn' := noYO_get hn a
    rcases get_set_cases a with ⟨rfl, rfl⟩ | ⟨hi, a⟩
    · rcases get_set_cases b with ⟨_, rfl⟩ | ⟨hi, _⟩
      · rfl
      · exact absurd rfl hi
    · rcases get_set_cases b with ⟨e', _⟩ | ⟨_, b⟩
      · exact absurd e' hi
      · have hob := h.obj i o p a b
        cases o with
        | box v =>
          obtain ⟨x0, x1, x2, x3, cs, el, x4, x5⟩ := hob
          exact ⟨x0, x1, x2, x3, cs, el, x4, x5.kill hs hp hn'⟩
        | row c e => exact hob
        | map es =>
          obtain ⟨x0, x3, ents, clock, x4, x5⟩ := hob
          exact ⟨x0, x3, ents, clock, x4, x5.pres hp⟩
        | vec c v =>
          obtain ⟨x0, x1, x3, cs, el, ⟨cs', more, q1, q2⟩, x4, x5⟩ := hob
          exact ⟨x0, x1, x3, cs, el, ⟨cs', more, q1, q2.kill hs hp hn'⟩, x4, x5⟩
        | dead => exact hob
        | lp ls pd d f m t ps as bd =>
          obtain ⟨q1, q2, q3, q4, tmps, a3, a4, a5⟩ := hob
          exact ⟨q1, q2, q3, q4, tmps, a3, a4, fun x v hx => (a5 x v hx).kill hs hp (noYT_get hn' hx)⟩
        | dfr => exact hob
  · obtain ⟨i, hi⟩ := List.getElem?_of_mem a
    exact h.below p (List.mem_of_getElem? (live hi l).2) l
  · obtain ⟨i, hi⟩ := List.getElem?_of_mem a
    exact h.mine p (List.mem_of_getElem? (live hi l).2) l

theorem kill_extN {n : Nat} (hn : n ≤ id) : ExtN n κ s (κ.set id { pl with on := false }) (s.set id .dead) := by
  have ne : ∀ {i : Nat}, i < n → id ≠ i := fun h e => by omega
  refine ⟨fun i v p hi a b => ⟨v, p, by rw [List.getElem?_set_ne (ne hi)]; exact a, by rw [List.getElem?_set_ne (ne hi)]; exact b, rfl⟩,
    fun i v p hi a b => ⟨v, p, by rw [List.getElem?_set_ne (ne hi)]; exact a, by rw [List.getElem?_set_ne (ne hi)]; exact b, rfl⟩,
    fun i c e hi a => ⟨c, by rw [List.getElem?_set_ne (ne hi)]; exact a, Nat.le_refl _, fun _ => by rw [List.getElem?_set_ne (ne hi)]⟩,
    fun i c v hi a => ⟨c, v, by rw [List.getElem?_set_ne (ne hi)]; exact a, Nat.le_refl _, fun _ => by rw [List.getElem?_set_ne (ne hi)]⟩,
    fun i ls1 pd1 d1 f1 n1 t1 ps1 as1 bd1 p hi a b => ⟨ls1, pd1, t1, p, by rw [List.getElem?_set_ne (ne hi)]; exact a, by rw [List.getElem?_set_ne (ne hi)]; exact b, rfl⟩,
    fun i p hi a b => ⟨p, by rw [List.getElem?_set_ne (ne hi)]; exact a, by rw [List.getElem?_set_ne (ne hi)]; exact b, rfl⟩⟩

theorem kill_step (hk : κ[id]? = some pl) : Step U κ w (κ.set id { pl with on := false }) w := by
  refine ⟨.refl _ _, fun p a l => .inl ?_, kill_pres hk⟩
  obtain ⟨i, hi⟩ := List.getElem?_of_mem a
  rcases get_set_cases hi with ⟨_, rfl⟩ | ⟨_, hi⟩
  · cases l
  · exact ⟨p, List.mem_of_getElem? hi, l, rfl⟩
end

end Go.HM
