/- HM, part X: code, loops, functions. -/
import Derived.Test.YtaghnihkkofmnaaGreatHmW
namespace Go.HM

variable {P : Program} {U : Nat → Nat → Prop} {κ : List Place} {s : List SObj} {w : World} {ok : Nat → Nat → Prop}

theorem rowP_spec {κ' : List Place} {s' : List SObj} {t : T} {base : Option Addr} {n cap : Nat} (h : Tc w (okOf U κ') t [.slice base n cap]) : Vc U κ' s' w (rowP t) [.slice base n cap] ∧ (rowP t).isAgg = false := by
  cases t with
  | lst x e ts => exact ⟨.p h, rfl⟩
  | bl x bs => exact ⟨.p h, rfl⟩
  | _ => exact ⟨.bad (by simp [Value.oneCell']), rfl⟩

theorem take_get {α : Type} {l : List α} {n i : Nat} {x : α} (h : l[i]? = some x) (hi : i < n) : (l.take n)[i]? = some x := by
  rw [List.getElem?_take, if_pos hi]; exact h

theorem weakS_get {n i : Nat} {o : SObj} (h : s[i]? = some o) (hi : i < n) : ((s.take n).map (SObj.weak n s))[i]? = some (o.weak n s) := by
  rw [List.getElem?_map, take_get h hi]; rfl

mutual
theorem Vc.weak {n : Nat} (hp : Pres w (okOf U κ) w (okOf U (κ.take n))) : ∀ {v : V} {cs : List Value}, Vc U κ s w v cs → Vc U (κ.take n) ((s.take n).map (SObj.weak n s)) w (v.weak n s) cs ∧ (v.weak n s).isAgg = v.isAgg
  | _, _, .p h => ⟨.p (h.pres hp), rfl⟩
  | _, _, .rb b => ⟨.p (.bool b), rfl⟩
  | .ptr id off, _, .ptr h k => by
    simp only [V.weak]
    split
    · rename_i hlt
      have hlt' : id < n := by simpa [Nat.blt_eq] using hlt
      exact ⟨.ptr (weakS_get h hlt') (take_get k hlt'), rfl⟩
    · exact ⟨.bad (by simp [Value.oneCell']), rfl⟩
  | .row id ver t, _, .row h k l m => by
    simp only [V.weak, k]
    split
    · rename_i hc
      simp only [Bool.and_eq_true, Nat.blt_eq, beq_iff_eq] at hc
      refine ⟨.row (cur := 0) (h.pres hp) (weakS_get k hc.1) (Nat.le_refl _) (fun _ => ?_), rfl⟩
      rcases m hc.2 with q | ⟨pl, o, q1, q2⟩
      · exact .inl q
      · exact .inr ⟨pl, o, take_get q1 hc.1, q2⟩
    · exact rowP_spec (h.pres hp)
  | .map id, _, .map h k => by
    simp only [V.weak]
    split
    · rename_i hlt
      have hlt' : id < n := by simpa [Nat.blt_eq] using hlt
      exact ⟨.map (weakS_get h hlt') (take_get k hlt'), rfl⟩
    · exact ⟨.bad (by simp [Value.oneCell']), rfl⟩
  | .view id off m, _, .view h k => by
    simp only [V.weak]
    split
    · rename_i hlt
      have hlt' : id < n := by simpa [Nat.blt_eq] using hlt
      exact ⟨.view (weakS_get h hlt') (take_get k hlt'), rfl⟩
    · exact ⟨.bad (by simp [Value.oneCell']), rfl⟩
  | .cv id ver off m e, _, .cv h l hn k => by
    simp only [V.weak]
    split
    · rename_i hlt
      have hlt' : id < n := by simpa [Nat.blt_eq] using hlt
      exact ⟨.cv (weakS_get h hlt') l hn (fun q => by obtain ⟨pl, q1, q2⟩ := k q; exact ⟨pl, take_get q1 hlt', q2⟩), rfl⟩
    · exact ⟨.bad (by simp [Value.oneCell']), rfl⟩
  | .ep id ver off, _, .ep h l k => by
    simp only [V.weak]
    split
    · rename_i hlt
      have hlt' : id < n := by simpa [Nat.blt_eq] using hlt
      exact ⟨.ep (weakS_get h hlt') l (fun q => by obtain ⟨pl, q1, q2⟩ := k q; exact ⟨pl, take_get q1 hlt', q2⟩), rfl⟩
    · exact ⟨.bad (by simp [Value.oneCell']), rfl⟩
  | .yld id, _, .yld h k => ⟨.bad (by simp [Value.oneCell']), rfl⟩
  | .agg vs, _, .agg h => ⟨by simp only [V.weak]; exact mkAgg_spec (Vcs.weak hp h).1, by simp only [V.weak]; rw [mkAgg_isAgg]; rfl⟩
  | .clo f vs, _, .clo h k => ⟨by simp only [V.weak]; exact .clo (Vcs.weak hp h).1 ((Vcs.weak hp h).2 k), rfl⟩
  | _, _, .bad h => ⟨.bad h, rfl⟩
theorem Vcs.weak {n : Nat} (hp : Pres w (okOf U κ) w (okOf U (κ.take n))) : ∀ {vs : List V} {cs : List Value}, Vcs U κ s w vs cs → Vcs U (κ.take n) ((s.take n).map (SObj.weak n s)) w (V.weaks n s vs) cs ∧ ((∀ v ∈ vs, v.isAgg = false) → ∀ v ∈ V.weaks n s vs, v.isAgg = false)
  | _, _, .nil => ⟨.nil, by simp [V.weaks]⟩
  | _, _, .cons h k => ⟨.cons (Vc.weak hp h).1 (Vcs.weak hp k).1, fun hn v hv => by
    simp only [V.weaks] at hv
    rcases List.mem_cons.1 hv with rfl | hv
    · rw [(Vc.weak hp h).2]; exact hn _ (by simp)
    · exact (Vcs.weak hp k).2 (fun v hv => hn v (by simp [hv])) v hv⟩
end

theorem weak_t_get {n : Nat} : ∀ {L : List Nat} {t : List (Nat × V)} {x : Nat} {v : V}, getT (L.filterMap fun x => (getT t x).map fun v => (x, v.weak n s)) x = some v → ∃ u, getT t x = some u ∧ v = u.weak n s
  | [], t, x, v, h => by simp [getT_nil, getT_cons] at h
  | y :: L, t, x, v, h => by
    rw [List.filterMap_cons] at h
    cases hy : getT t y with
    | none => simp only [hy, Option.map_none] at h; exact weak_t_get h
    | some u =>
      simp only [hy, Option.map_some, getT_nil, getT_cons] at h
      split at h
      · rename_i hxy
        have : y = x := by simpa using hxy
        subst this
        injection h with h
        exact ⟨u, hy, h.symm⟩
      · exact weak_t_get h

/-- LETTING GO. -/
theorem weak_rel {st : St} {a : Act} (h : Rel U κ st a w) (k : Keep) : Rel U (κ.take k.objs) (st.weak k) a w ∧ Step U κ w (κ.take k.objs) w := by
  have hp : Pres w (okOf U κ) w (okOf U (κ.take k.objs)) := fun b o v hv ho => ⟨hv, ho.1, fun pl hpl => ho.2 pl (List.mem_of_mem_take hpl)⟩
  refine ⟨⟨⟨h.store.up, by simp [St.weak, h.store.len], fun id o pl a' b => ?_, fun i j p p' hi hj => ?_, fun pl hpl => h.store.below pl (List.mem_of_mem_take hpl), fun pl hpl => h.store.mine pl (List.mem_of_mem_take hpl), h.store.glob.pres hp⟩, h.size, h.defers.sub (fun pl hpl hl => ⟨pl, List.mem_of_mem_take hpl, hl, rfl⟩), fun x v hg => ?_⟩, ⟨.refl _ _, fun pl hpl hl => .inl ⟨pl, List.mem_of_mem_take hpl, hl, rfl⟩, hp⟩⟩
  · simp only [St.weak] at a'
    rw [List.getElem?_map, List.getElem?_take] at a'
    rw [List.getElem?_take] at b
    split at b
    · rename_i hlt
      rw [if_pos hlt] at a'
      simp only [Option.map_eq_some_iff] at a'
      obtain ⟨o', ho', rfl⟩ := a'
      have hob := h.store.obj id o' pl ho' b
      cases o' with
      | box v =>
        obtain ⟨x0, x1, x2, x3, cells, elem, x4, x5⟩ := hob
        have hw := Vc.weak hp x5
        refine ⟨x0, x1, ?_, x3, cells, elem, x4, hw.1⟩
        rw [x2]
        have e1 := x5.len
        have e2 := hw.1.len
        omega
      | row ver e => exact hob
      | map es =>
        obtain ⟨x0, x3, ents, clock, x4, x5⟩ := hob
        exact ⟨x0, x3, ents, clock, x4, x5.pres hp⟩
      | vec c v =>
        obtain ⟨x0, x1, x3, cells, elem, ⟨cs', more, q1, q2⟩, x4, x5⟩ := hob
        exact ⟨x0, x1, x3, cells, elem, ⟨cs', more, q1, (Vc.weak hp q2).1⟩, x4, x5⟩
      | dead => exact hob
      | lp ls pd d f n ts ps as bd => exact fun x0 => ⟨hob.2.2.2.1, fun o a b => by have := hob.2.2.1; omega⟩
      | dfr => exact fun x0 => ⟨hob.2.2.2.1, fun o a b => by have := hob.2.2.1; omega⟩
    · cases b
  · rw [List.getElem?_take] at hi hj
    split at hi
    · split at hj
      · exact h.store.apart i j p p' hi hj
      · cases hj
    · cases hi
  · obtain ⟨u, hu, rfl⟩ := weak_t_get hg
    have hs := h.slot x u hu
    have fin : ∀ y, a.tmps[x]? = some y → VV1 U κ st.s w u y → Slot U (κ.take k.objs) (st.weak k).s w a x (u.weak k.objs st.s) := by
      intro y hy hv
      have hw := Vc.weak hp hv.1
      have h1 : VV1 U (κ.take k.objs) (st.weak k).s w (u.weak k.objs st.s) y := ⟨hw.1, by rw [hw.2]; exact hv.2⟩
      generalize u.weak k.objs st.s = u' at h1
      cases u' with
      | wh d want z => exact absurd h1.1 (by intro q; cases q)
      | bad => trivial
      | tup vs => exact absurd h1.1 (by intro q; cases q)
      | _ => exact ⟨y, hy, h1⟩
    cases u with
    | tup vs => simp only [V.weak]; trivial
    | wh d want z => simp only [V.weak]; trivial
    | bad => simp only [V.weak]; trivial
    | p t => obtain ⟨y, p, q⟩ := hs; exact fin y p q
    | rb b => obtain ⟨y, p, q⟩ := hs; exact fin y p q
    | ptr _ _ => obtain ⟨y, p, q⟩ := hs; exact fin y p q
    | row _ _ _ => obtain ⟨y, p, q⟩ := hs; exact fin y p q
    | map _ => obtain ⟨y, p, q⟩ := hs; exact fin y p q
    | view _ _ _ => obtain ⟨y, p, q⟩ := hs; exact fin y p q
    | cv _ _ _ _ _ => obtain ⟨y, p, q⟩ := hs; exact fin y p q
    | ep _ _ _ => obtain ⟨y, p, q⟩ := hs; exact fin y p q
    | yld _ => obtain ⟨y, p, q⟩ := hs; exact fin y p q
    | agg _ => obtain ⟨y, p, q⟩ := hs; exact fin y p q
    | clo _ _ => obtain ⟨y, p, q⟩ := hs; exact fin y p q

theorem rounds_mono {c : Code} {Q Q' : Exit → Act → World → Prop} (h : ∀ e a w, Q e a w → Q' e a w) : ∀ {n : Nat} {a : Act} {w : World}, Code.rounds P c Q n a w → Code.rounds P c Q' n a w
  | 0, _, _, hr => hr
  | n + 1, a, w, hr => by
    rw [rounds_succ] at hr ⊢
    refine wp_mono hr (fun e a w hq => ?_)
    cases e <;> first
      | exact rounds_mono h hq
      | exact h _ _ _ hq

theorem cvT_spec {t : T} {cells : List Value} {b o off n e cap : Nat} (hn : n ≤ cap) (ht : Tc w ok t cells) (hc : ∀ (j : Nat) (v : Value), cells[j]? = some v → w.cell? ⟨b, o + j, none⟩ = some v ∧ ok b (o + j)) {κ : List Place} {s : List SObj} (hok : ok = okOf U κ) :
    Vc U κ s w (cvT t off n e) [.slice (some ⟨b, o + off, none⟩) n cap] ∧ (cvT t off n e).isAgg = false := by
  subst hok
  have bad : Vc U κ s w .bad [.slice (some ⟨b, o + off, none⟩) n cap] := .bad (by simp [Value.oneCell'])
  unfold cvT
  split
  · rename_i ts
    split
    · rename_i hle
      simp only [Bool.and_eq_true, Nat.blt_eq, beq_iff_eq, Nat.ble_eq, List.all_eq_true] at hle
      obtain ⟨⟨⟨h0, h1⟩, h2⟩, h3⟩ := hle
      refine ⟨.p ?_, rfl⟩
      cases ht with
      | agg hts =>
        have hA := tcs_take n (tcs_drop (off / e) hts (fun t ht => by simpa using h3 t ht)) (fun t ht => by simpa using h3 t (List.drop_subset _ _ ht))
        rw [h1] at hA
        refine .lst (by simp at h2 ⊢; omega) hn (fun q => by cases q) (fun t ht => by simpa using h3 t (List.drop_subset _ _ (List.take_subset _ _ ht))) hA (fun j v hj => ?_)
        have hjn : j < n * e := by
          rcases Nat.lt_or_ge j (n * e) with q | q
          · exact q
          · rw [List.getElem?_eq_none (by simp; omega)] at hj; cases hj
        rw [List.getElem?_take_of_lt hjn, List.getElem?_drop] at hj
        have := hc (off + j) v hj
        rw [Nat.add_assoc]; exact this
    · exact ⟨bad, rfl⟩
  · exact ⟨bad, rfl⟩

mutual
theorem Vc.frz {s' : List SObj} {κ' : List Place} {id : Nat} {t : T × Nat} {pl : Place} {cells : List Value} {o0 : SObj} (hs0 : s[id]? = some o0) (hkd : (∃ v, o0 = .box v) ∨ ∃ v, o0 = .vec t.2 v) (hk0 : κ[id]? = some pl) (hp : Pres w (okOf U κ) w (okOf U κ'))
    (ht : Tc w (okOf U κ') t.1 cells) (hc : ∀ (j : Nat) (v : Value), cells[j]? = some v → w.cell? ⟨pl.blk, 0 + j, none⟩ = some v ∧ okOf U κ' pl.blk (0 + j))
    (hs : ∀ i o, i ≠ id → s[i]? = some o → s'[i]? = some (o.frz id t)) (hk : ∀ i p, i ≠ id → κ[i]? = some p → κ'[i]? = some p) :
    ∀ {v : V} {cs : List Value}, Vc U κ s w v cs → Vc U κ' s' w (v.frz id t) cs ∧ (v.frz id t).isAgg = v.isAgg
  | _, _, .p h => ⟨.p (h.pres hp), rfl⟩
  | _, _, .rb b => ⟨.rb b, rfl⟩
  | .ptr i off, _, .ptr h k => by
    simp only [V.frz]
    split
    · rename_i hi
      have hi' : i = id := by simpa using hi
      subst hi'
      rw [hk0] at k; injection k with k; subst k
      refine ⟨.p ?_, rfl⟩
      have := Tc.rp (off := off) ht hc
      simpa using this
    · rename_i hi
      have hi' : i ≠ id := by simpa using hi
      exact ⟨.ptr (hs i _ hi' h) (hk i _ hi' k), rfl⟩
  | .row i ver u, _, .row h k l m => by
    have hi' : i ≠ id := by rintro rfl; rw [hs0] at k; injection k with k; subst k; rcases hkd with ⟨_, q⟩ | ⟨_, q⟩ <;> cases q
    refine ⟨.row (h.pres hp) (hs i _ hi' k) l (fun e => ?_), rfl⟩
    rcases m e with q | ⟨p, o, q1, q2⟩
    · exact .inl q
    · exact .inr ⟨p, o, hk i _ hi' q1, q2⟩
  | .map i, _, .map h k => by
    have hi' : i ≠ id := by rintro rfl; rw [hs0] at h; injection h with h; subst h; rcases hkd with ⟨_, q⟩ | ⟨_, q⟩ <;> cases q
    exact ⟨.map (hs i _ hi' h) (hk i _ hi' k), rfl⟩
  | .view i off n, _, .view h k => by
    simp only [V.frz]
    split
    · rename_i hi
      have hi' : i = id := by simpa using hi
      subst hi'
      rw [hk0] at k; injection k with k; subst k
      have := viewT_spec (o := 0) (off := off) (n := n) ht hc (κ := κ') (s := s') rfl
      rw [Nat.zero_add] at this
      exact this
    · rename_i hi
      have hi' : i ≠ id := by simpa using hi
      exact ⟨.view (hs i _ hi' h) (hk i _ hi' k), rfl⟩
  | .cv i ver off n e, _, .cv h l hn k => by
    simp only [V.frz]
    split
    · rename_i hi
      have hi' : i = id := by simpa using hi
      subst hi'
      split
      · rename_i hv
        have hv' : ver = t.2 := by simpa using hv
        rw [hs0] at h; injection h with h
        rcases hkd with ⟨_, q⟩ | ⟨_, q⟩
        · rw [q] at h; cases h
        · rw [q] at h; injection h with h1 h2
          obtain ⟨pl', q1, q2, q4⟩ := k (by omega)
          rw [hk0] at q1; injection q1 with q1; subst q1
          subst q2
          have := cvT_spec (o := 0) (off := off) (n := n) (e := e) hn ht hc (κ := κ') (s := s') rfl
          rw [Nat.zero_add] at this
          exact this
      · exact ⟨.bad (by simp [Value.oneCell']), rfl⟩
    · rename_i hi
      have hi' : i ≠ id := by simpa using hi
      exact ⟨.cv (hs i _ hi' h) l hn (fun q => by obtain ⟨p, q1, q2⟩ := k q; exact ⟨p, hk i _ hi' q1, q2⟩), rfl⟩
  | .ep i ver off, _, .ep h l k => by
    simp only [V.frz]
    split
    · rename_i hi
      have hi' : i = id := by simpa using hi
      subst hi'
      split
      · rename_i hv
        have hv' : ver = t.2 := by simpa using hv
        rw [hs0] at h; injection h with h
        rcases hkd with ⟨_, q⟩ | ⟨_, q⟩
        · rw [q] at h; cases h
        · rw [q] at h; injection h with h1 h2
          obtain ⟨pl', q1, q2⟩ := k (by omega)
          rw [hk0] at q1; injection q1 with q1; subst q1
          subst q2
          refine ⟨.p ?_, rfl⟩
          have := Tc.rp (off := off) ht hc
          simpa using this
      · exact ⟨.bad (by simp [Value.oneCell']), rfl⟩
    · rename_i hi
      have hi' : i ≠ id := by simpa using hi
      exact ⟨.ep (hs i _ hi' h) l (fun q => by obtain ⟨p, q1, q2⟩ := k q; exact ⟨p, hk i _ hi' q1, q2⟩), rfl⟩
  | .yld i, _, .yld h k => by
    have hi' : i ≠ id := by rintro rfl; rw [hs0] at h; injection h with h; subst h; rcases hkd with ⟨_, q⟩ | ⟨_, q⟩ <;> cases q
    exact ⟨.yld (hs i _ hi' h) (hk i _ hi' k), rfl⟩
  | _, _, .agg h => ⟨.agg (Vcs.frz hs0 hkd hk0 hp ht hc hs hk h).1, rfl⟩
  | _, _, .clo h k => ⟨.clo (Vcs.frz hs0 hkd hk0 hp ht hc hs hk h).1 ((Vcs.frz hs0 hkd hk0 hp ht hc hs hk h).2 k), rfl⟩
  | _, _, .bad h => ⟨.bad h, rfl⟩
theorem Vcs.frz {s' : List SObj} {κ' : List Place} {id : Nat} {t : T × Nat} {pl : Place} {cells : List Value} {o0 : SObj} (hs0 : s[id]? = some o0) (hkd : (∃ v, o0 = .box v) ∨ ∃ v, o0 = .vec t.2 v) (hk0 : κ[id]? = some pl) (hp : Pres w (okOf U κ) w (okOf U κ'))
    (ht : Tc w (okOf U κ') t.1 cells) (hc : ∀ (j : Nat) (v : Value), cells[j]? = some v → w.cell? ⟨pl.blk, 0 + j, none⟩ = some v ∧ okOf U κ' pl.blk (0 + j))
    (hs : ∀ i o, i ≠ id → s[i]? = some o → s'[i]? = some (o.frz id t)) (hk : ∀ i p, i ≠ id → κ[i]? = some p → κ'[i]? = some p) :
    ∀ {vs : List V} {cs : List Value}, Vcs U κ s w vs cs → Vcs U κ' s' w (V.frzs id t vs) cs ∧ ((∀ v ∈ vs, v.isAgg = false) → ∀ v ∈ V.frzs id t vs, v.isAgg = false)
  | _, _, .nil => ⟨.nil, fun h => h⟩
  | _, _, .cons h k => by
    obtain ⟨a1, a2⟩ := Vc.frz hs0 hkd hk0 hp ht hc hs hk h
    obtain ⟨b1, b2⟩ := Vcs.frz hs0 hkd hk0 hp ht hc hs hk k
    refine ⟨.cons a1 b1, fun hv v hm => ?_⟩
    simp only [V.frzs, List.mem_cons] at hm
    rcases hm with rfl | hm
    · rw [a2]; exact hv _ (List.mem_cons_self ..)
    · exact b2 (fun u hu => hv u (List.mem_cons_of_mem _ hu)) v hm
end

theorem getT_frzT {id : Nat} {u : T × Nat} : ∀ {t : List (Nat × V)} {x : Nat} {v : V}, getT (frzT id u t) x = some v → ∃ v0, getT t x = some v0 ∧ v = v0.frz id u
  | [], x, v, h => by simp [frzT, getT_nil, getT_cons] at h
  | (y, z) :: r, x, v, h => by
    simp only [frzT, getT_nil, getT_cons] at h ⊢
    split at h
    · rename_i hy
      rw [if_pos hy]
      injection h with h
      exact ⟨z, rfl, h.symm⟩
    · rename_i hy
      rw [if_neg hy]
      exact getT_frzT h

theorem frz_core {st : St} {a : Act} {id : Nat} (h : Rel U κ st a w) {o0 : SObj} {t : T × Nat} {pl : Place} {cells : List Value} {v : V} (hs0 : st.s[id]? = some o0) (hkd : (∃ v, o0 = .box v) ∨ ∃ v, o0 = .vec t.2 v) (hk0 : κ[id]? = some pl) (hon : pl.on = true)
    (h4 : ∀ (j : Nat) (x : Value), cells[j]? = some x → w.cell? ⟨pl.blk, j, none⟩ = some x) (h5 : Vc U κ st.s w v cells) (ht0 : v.toT = some t.1) :
    ∃ κ', Rel U κ' { st with t := frzT id t st.t, s := (st.s.map (SObj.frz id t)).set id .dead } a w ∧ Step U κ w κ' w ∧ ∀ i, i ≠ id → κ'[i]? = κ[i]? := by
  have hmem : ∀ p ∈ κ.set id { pl with on := false }, p.on = true → ∃ j, j ≠ id ∧ κ[j]? = some p := fun p hp hpo => by
    rcases mem_set_cases hp with rfl | ⟨j, hj, hpj⟩
    · cases hpo
    · exact ⟨j, hj, hpj⟩
  have hp : Pres w (okOf U κ) w (okOf U (κ.set id { pl with on := false })) := fun b o x hx ho => ⟨hx, ho.1, fun p hpm hh => by
    obtain ⟨j, _, hj⟩ := hmem p hpm hh.2.2.2
    exact ho.2 p (List.mem_of_getElem? hj) hh⟩
  have hT : Tc w (okOf U (κ.set id { pl with on := false })) t.1 cells := (V.toT_spec ht0 h5).1.pres hp
  have hc : ∀ (j : Nat) (x : Value), cells[j]? = some x → w.cell? ⟨pl.blk, 0 + j, none⟩ = some x ∧ okOf U (κ.set id { pl with on := false }) pl.blk (0 + j) := fun j x hx => by
    refine ⟨?_, h.store.mine pl (List.mem_of_getElem? hk0) hon _, fun p hpm hh => ?_⟩
    · have := h4 j x hx; simpa using this
    · obtain ⟨i, hi, hpi⟩ := hmem p hpm hh.2.2.2
      exact h.store.apart i id p pl hpi hk0 hi hh.2.2.2 hon hh.1.symm
  have hs : ∀ i o, i ≠ id → st.s[i]? = some o → ((st.s.map (SObj.frz id t)).set id .dead)[i]? = some (o.frz id t) := fun i o hi ho => by
    rw [List.getElem?_set_ne (Ne.symm hi), List.getElem?_map, ho]; rfl
  have hk : ∀ i p, i ≠ id → κ[i]? = some p → (κ.set id { pl with on := false })[i]? = some p := fun i p hi hpk => by
    rw [List.getElem?_set_ne (Ne.symm hi)]; exact hpk
  have hV : ∀ {u : V} {cs : List Value}, Vc U κ st.s w u cs → Vc U (κ.set id { pl with on := false }) ((st.s.map (SObj.frz id t)).set id .dead) w (u.frz id t) cs ∧ (u.frz id t).isAgg = u.isAgg :=
    fun hu => Vc.frz hs0 hkd hk0 hp hT hc hs hk hu
  have hS : ∀ (b : Act) (x : Nat) (u0 : V), Slot U κ st.s w b x u0 → Slot U (κ.set id { pl with on := false }) ((st.s.map (SObj.frz id t)).set id .dead) w b x (u0.frz id t) := by
    intro b x u0 hsl
    cases u0 with
    | wh d want y => trivial
    | tup vs => trivial
    | bad => trivial
    | view i off n =>
      obtain ⟨y, y1, y2⟩ := hsl
      have := hV y2.1
      simp only [V.frz] at this ⊢
      split
      · rename_i hi
        rw [if_pos hi] at this
        have h1 : VV1 U (κ.set id { pl with on := false }) ((st.s.map (SObj.frz id t)).set id .dead) w (viewT t.1 off n) y := ⟨this.1, y2.2.trans this.2.symm⟩
        generalize viewT t.1 off n = u' at h1
        cases u' with
        | wh d want z => exact absurd h1.1 (by intro q; cases q)
        | bad => trivial
        | tup vs => exact absurd h1.1 (by intro q; cases q)
        | _ => exact ⟨y, y1, h1⟩
      · rename_i hi
        rw [if_neg hi] at this
        exact ⟨y, y1, this.1, y2.2.trans this.2.symm⟩
    | cv i ver off n e =>
      obtain ⟨y, y1, y2⟩ := hsl
      have := hV y2.1
      have h1 : VV1 U (κ.set id { pl with on := false }) ((st.s.map (SObj.frz id t)).set id .dead) w (V.frz id t (.cv i ver off n e)) y := ⟨this.1, y2.2.trans this.2.symm⟩
      generalize V.frz id t (.cv i ver off n e) = u' at h1
      cases u' with
      | wh d want z => exact absurd h1.1 (by intro q; cases q)
      | bad => trivial
      | tup vs => exact absurd h1.1 (by intro q; cases q)
      | _ => exact ⟨y, y1, h1⟩
    | ep i ver off =>
      obtain ⟨y, y1, y2⟩ := hsl
      have := hV y2.1
      have h1 : VV1 U (κ.set id { pl with on := false }) ((st.s.map (SObj.frz id t)).set id .dead) w (V.frz id t (.ep i ver off)) y := ⟨this.1, y2.2.trans this.2.symm⟩
      generalize V.frz id t (.ep i ver off) = u' at h1
      cases u' with
      | wh d want z => exact absurd h1.1 (by intro q; cases q)
      | bad => trivial
      | tup vs => exact absurd h1.1 (by intro q; cases q)
      | _ => exact ⟨y, y1, h1⟩
    | ptr i off =>
      obtain ⟨y, y1, y2⟩ := hsl
      have := hV y2.1
      simp only [V.frz] at this ⊢
      split
      · rename_i hi
        rw [if_pos hi] at this
        exact ⟨y, y1, this.1, y2.2.trans this.2.symm⟩
      · rename_i hi
        rw [if_neg hi] at this
        exact ⟨y, y1, this.1, y2.2.trans this.2.symm⟩
    | _ =>
      obtain ⟨y, y1, y2⟩ := hsl
      have := hV y2.1
      exact ⟨y, y1, this.1, y2.2.trans this.2.symm⟩
  refine ⟨κ.set id { pl with on := false }, ⟨⟨h.store.up, by simp [h.store.len], fun i o p a' b => ?_, fun i j p p' hi hj hne hl hl' => ?_, fun p hpm hl => ?_, fun p hpm hl => ?_, h.store.glob.pres hp⟩, h.size, h.defers.sub (fun p hpm hl => by obtain ⟨j, _, hj⟩ := hmem p hpm hl; exact ⟨p, List.mem_of_getElem? hj, hl, rfl⟩), fun x u hg => ?_⟩,
    ⟨.refl _ _, fun p hpm hl => ?_, hp⟩, fun i hi => by rw [List.getElem?_set_ne (Ne.symm hi)]⟩
  · rcases get_set_cases a' with ⟨rfl, rfl⟩ | ⟨hi, a'⟩
    · rcases get_set_cases b with ⟨_, rfl⟩ | ⟨hi, _⟩
      · rfl
      · exact absurd rfl hi
    · rcases get_set_cases b with ⟨e', _⟩ | ⟨_, b⟩
      · exact absurd e' hi
      · rw [List.getElem?_map, Option.map_eq_some_iff] at a'
        obtain ⟨o', ho', rfl⟩ := a'
        have hob := h.store.obj i o' p ho' b
        cases o' with
        | box x =>
          obtain ⟨x0, x1, x2, x3, cs, el, x4, x5⟩ := hob
          have hw := hV x5
          refine ⟨x0, x1, ?_, x3, cs, el, x4, hw.1⟩
          rw [x2]
          have e1 := x5.len
          have e2 := hw.1.len
          omega
        | row ver e => exact hob
        | map es =>
          obtain ⟨x0, x3, ents, clock, x4, x5⟩ := hob
          exact ⟨x0, x3, ents, clock, x4, x5.pres hp⟩
        | vec c x =>
          obtain ⟨x0, x1, x3, cs, el, ⟨cs', more, q1, q2⟩, x4, x5⟩ := hob
          exact ⟨x0, x1, x3, cs, el, ⟨cs', more, q1, (hV q2).1⟩, x4, x5⟩
        | dead => exact hob
        | lp ls pd d f n ts ps as bd =>
          obtain ⟨x0, l0, l1, x2, tmps, a3, a4, a5⟩ := hob
          refine ⟨x0, l0, l1, x2, tmps, a3, a4, fun x v hx => ?_⟩
          obtain ⟨v0, e0, rfl⟩ := getT_frzT hx
          exact hS _ x v0 (a5 x v0 e0)
        | dfr => exact hob
  · rcases get_set_cases hi with ⟨rfl, rfl⟩ | ⟨_, hi⟩
    · cases hl
    · rcases get_set_cases hj with ⟨rfl, rfl⟩ | ⟨_, hj⟩
      · cases hl'
      · exact h.store.apart i j p p' hi hj hne hl hl'
  · obtain ⟨j, _, hj⟩ := hmem p hpm hl
    exact h.store.below p (List.mem_of_getElem? hj) hl
  · obtain ⟨j, _, hj⟩ := hmem p hpm hl
    exact h.store.mine p (List.mem_of_getElem? hj) hl
  · obtain ⟨u0, hu0, rfl⟩ := getT_frzT hg
    exact hS _ _ _ (h.slot x u0 hu0)
  · obtain ⟨j, _, hj⟩ := hmem p hpm hl
    exact .inl ⟨p, List.mem_of_getElem? hj, hl, rfl⟩

theorem frz_rel {st st' : St} {a : Act} {id : Nat} (h : Rel U κ st a w) (hf : st.frz id = some st') : ∃ κ', Rel U κ' st' a w ∧ Step U κ w κ' w ∧ ∀ i, i ≠ id → κ'[i]? = κ[i]? := by
  unfold St.frz at hf
  split at hf
  · rename_i v hs0
    split at hf
    · rename_i t ht0
      injection hf with hf; subst hf
      have hlt := getElem?_lt hs0
      have hk0 : κ[id]? = some (κ[id]'(by rw [h.store.len]; exact hlt)) := List.getElem?_eq_getElem _
      generalize κ[id]'(by rw [h.store.len]; exact hlt) = pl at hk0
      obtain ⟨hon, hlo, hhi, hblt, cells, elem, h4, h5⟩ := h.store.boxCells hs0 hk0
      exact frz_core h (t := (t, 0)) hs0 (.inl ⟨_, rfl⟩) hk0 hon (cells := cells.toList) (fun j x hx => by rw [h4.cell]; simpa using hx) h5 ht0
    · cases hf
  · rename_i c v hs0
    split at hf
    · rename_i t ht0
      injection hf with hf; subst hf
      have hlt := getElem?_lt hs0
      have hk0 : κ[id]? = some (κ[id]'(by rw [h.store.len]; exact hlt)) := List.getElem?_eq_getElem _
      generalize κ[id]'(by rw [h.store.len]; exact hlt) = pl at hk0
      obtain ⟨hon, hlo, hblt, cells, elem, ⟨cs, more, q1, q2⟩, h4, h5⟩ := h.store.obj id _ pl hs0 hk0
      exact frz_core h (t := (t, c)) hs0 (.inr ⟨_, rfl⟩) hk0 hon (cells := cs) (fun j x hx => by
        rw [h4.cell]
        have : cells.toList[j]? = some x := by rw [q1, List.getElem?_append_left (getElem?_lt hx)]; exact hx
        simpa using this) q2 ht0
    · cases hf
  · cases hf

theorem frzAll_rel {rid : Nat} : ∀ {os os' : List Orc} {st st' : St} {κ : List Place} {a : Act}, frzAll rid st os = some (st', os') → Rel U κ st a w → ∃ κ', Rel U κ' st' a w ∧ Step U κ w κ' w
  | [], os', st, st', κ, a, hf, h => by
    simp only [frzAll, Option.some.injEq, Prod.mk.injEq] at hf
    obtain ⟨rfl, rfl⟩ := hf
    exact ⟨κ, h, .refl _ _ _⟩
  | .frz r id :: os, os', st, st', κ, a, hf, h => by
    simp only [frzAll] at hf
    split at hf
    · split at hf
      · rename_i st1 h1
        obtain ⟨κ1, r1, s1, _⟩ := frz_rel h h1
        obtain ⟨κ2, r2, s2⟩ := frzAll_rel hf r1
        exact ⟨κ2, r2, s1.trans s2⟩
      · cases hf
    · simp only [Option.some.injEq, Prod.mk.injEq] at hf
      obtain ⟨rfl, rfl⟩ := hf
      exact ⟨κ, h, .refl _ _ _⟩
  | .op .. :: os, os', st, st', κ, a, hf, h => by
    simp only [frzAll, Option.some.injEq, Prod.mk.injEq] at hf
    obtain ⟨rfl, rfl⟩ := hf
    exact ⟨κ, h, .refl _ _ _⟩
  | .br _ :: os, os', st, st', κ, a, hf, h => by
    simp only [frzAll, Option.some.injEq, Prod.mk.injEq] at hf
    obtain ⟨rfl, rfl⟩ := hf
    exact ⟨κ, h, .refl _ _ _⟩
  | .loop .. :: os, os', st, st', κ, a, hf, h => by
    simp only [frzAll, Option.some.injEq, Prod.mk.injEq] at hf
    obtain ⟨rfl, rfl⟩ := hf
    exact ⟨κ, h, .refl _ _ _⟩

theorem Post.step {κ1 : List Place} {w1 w2 : World} {e : Ex} {st' : St} {x : Exit} {a' : Act} (hs : Step U κ w κ1 w1) (h : Post U κ1 w1 e st' x a' w2) : Post U κ w e st' x a' w2 := by
  obtain ⟨a, κ', b, c⟩ := h
  exact ⟨a, κ', b, hs.trans c⟩

/-- The loop is left. -/
theorem LoopR.leave {c : Code} {st st' : St} {e : Ex} (h : CodeR P c st e st') (he : e ≠ .normal) : LoopR P c st e st' := by
  refine ⟨1, fun U κ a w hr => ?_⟩
  rw [rounds_succ]
  refine wp_mono (h U κ a w hr) (fun x a' w' hx => ?_)
  cases e with
  | normal => exact absurd rfl he
  | exit id => have hx1 := hx.1; subst hx1; exact hx
  | ret => have hx1 := hx.1; subst hx1; exact hx

/-- The loop goes on. -/
theorem LoopR.round {c : Code} {st st1 st' : St} {e : Ex} (k : Keep) (h : CodeR P c st .normal st1) (hl : LoopR P c (st1.weak k) e st') : LoopR P c st e st' := by
  obtain ⟨n, hl⟩ := hl
  refine ⟨n + 1, fun U κ a w hr => ?_⟩
  rw [rounds_succ]
  refine wp_mono (h U κ a w hr) (fun x a' w' hx => ?_)
  obtain ⟨rfl, κ1, hr1, hs1⟩ := hx
  obtain ⟨hr2, hs2⟩ := weak_rel hr1 k
  exact rounds_mono (fun e a w hq => hq.step (hs1.trans hs2)) (hl U _ a' w' hr2)

theorem LoopR.code {c : Code} {st st' : St} {e : Ex} (h : LoopR P c st e st') : CodeR P (.loop c) st e st' := by
  obtain ⟨n, h⟩ := h
  exact fun U κ a w hr => wp_loop_rounds n (h U κ a w hr)

theorem CodeR.weak {c : Code} {st st' : St} {e : Ex} {k : Keep} (h : CodeR P c (st.weak k) e st') : CodeR P c st e st' := fun U κ a w hr => by
  obtain ⟨hr2, hs2⟩ := weak_rel hr k
  exact wp_mono (h U _ a w hr2) (fun x a' w' hq => hq.step hs2)

/-- CODE. -/
theorem ev_sound : ∀ (c : Code) {r r' : Run} {e : Ex}, ev P c r = some (e, r') → allOf r'.obs → allOf r.obs ∧ CodeR P c r.st e r'.st
  | .skip, r, r', e, h, ho => by
    simp only [ev, Option.some.injEq, Prod.mk.injEq] at h
    obtain ⟨rfl, rfl⟩ := h
    exact ⟨ho, fun U κ a w hr => wp_skip ⟨rfl, κ, hr, .refl _ _ _⟩⟩
  | .label l, r, r', e, h, ho => by
    simp only [ev, Option.some.injEq, Prod.mk.injEq] at h
    obtain ⟨rfl, rfl⟩ := h
    exact ⟨ho, fun U κ a w hr => wp_label ⟨rfl, κ, hr, .refl _ _ _⟩⟩
  | .region id ops draw, r, r', e, h, ho => by
    simp only [ev] at h
    split at h
    · rename_i st os hf
      simp only [Option.map_eq_some_iff, Prod.mk.injEq] at h
      obtain ⟨r1, h1, rfl, rfl⟩ := h
      refine ⟨?_, fun U κ a w hr => ?_⟩
      · unfold evReg at h1
        split at h1
        · split at h1
          · have hq : allOf ({ r with st := { st with t := noWh st.t }, orc := os } : Run).obs := evOps_obs (r := { r with st := { st with t := noWh st.t }, orc := os }) h1 ho
            exact hq
          · cases h1
        · have hq : allOf ({ r with st, orc := os } : Run).obs := evOps_obs (r := { r with st, orc := os }) h1 ho
          exact hq
      · obtain ⟨κ', hr', hs⟩ := frzAll_rel hf hr
        exact wp_mono (region_sound (r := { r with st, orc := os }) h1 ho hr') (fun x a' w' hq => Post.step (e := .normal) hs hq)
    · cases h
  | .seq x y, r, r', e, h, ho => by
    simp only [ev] at h
    split at h
    · rename_i r1 h1
      obtain ⟨o1, c2⟩ := ev_sound y h ho
      obtain ⟨o0, c1⟩ := ev_sound x h1 o1
      refine ⟨o0, fun U κ a w hr => wp_seq (wp_mono (c1 U κ a w hr) (fun z a' w' hz => ?_))⟩
      obtain ⟨rfl, κ1, hr1, hs1⟩ := hz
      exact wp_mono (c2 U κ1 a' w' hr1) (fun z a'' w'' hq => hq.step hs1)
    · rename_i hne
      obtain ⟨o0, c1⟩ := ev_sound x h ho
      have he : e ≠ .normal := by
        rintro rfl
        exact hne r' h
      refine ⟨o0, fun U κ a w hr => wp_seq (wp_mono (c1 U κ a w hr) (fun z a' w' hz => ?_))⟩
      cases e with
      | normal => exact absurd rfl he
      | exit id => have hz1 := hz.1; subst hz1; exact hz
      | ret => have hz1 := hz.1; subst hz1; exact hz
  | .cond c x y, r, r', e, h, ho => by
    simp only [ev] at h
    split at h
    · rename_i hc
      obtain ⟨o0, c1⟩ := ev_sound x h ho
      refine ⟨o0, fun U κ a w hr => wp_cond_true ?_ (c1 U κ a w hr)⟩
      exact VV_rb (evalO_spec hr (g := none) (fun _ _ q => by cases q) hc)
    · rename_i hc
      obtain ⟨o0, c1⟩ := ev_sound y h ho
      refine ⟨o0, fun U κ a w hr => wp_cond_false ?_ (c1 U κ a w hr)⟩
      exact VV_rb (evalO_spec hr (g := none) (fun _ _ q => by cases q) hc)
    · rename_i b hc
      split at h
      · rename_i os hos
        obtain ⟨o0, c1⟩ := ev_sound x h ho
        refine ⟨o0.2, fun U κ a w hr => wp_cond_true ?_ (c1 U κ a w hr)⟩
        have := VV_bool (evalO_spec hr (g := none) (fun _ _ q => by cases q) hc)
        rw [this, o0.1]
      · rename_i os hos
        obtain ⟨o0, c1⟩ := ev_sound y h ho
        refine ⟨o0.2, fun U κ a w hr => wp_cond_false ?_ (c1 U κ a w hr)⟩
        have := VV_bool (evalO_spec hr (g := none) (fun _ _ q => by cases q) hc)
        rw [this, o0.1]
      · cases h
    · cases h
  | .block id c, r, r', e, h, ho => by
    simp only [ev] at h
    split at h
    · rename_i j r1 h1
      split at h
      · rename_i hj
        have hj' : j = id := by simpa using hj
        subst hj'
        injection h with h; injection h with h2 h3; subst h2 h3
        obtain ⟨o0, c1⟩ := ev_sound c h1 ho
        refine ⟨o0, fun U κ a w hr => wp_block (wp_mono (c1 U κ a w hr) (fun z a' w' hz => ?_))⟩
        have hz1 := hz.1; subst hz1
        simp only [Ex.to, Exit.inBlock, if_true]
        exact ⟨rfl, hz.2⟩
      · rename_i hj
        have hj' : ¬ j = id := by simpa using hj
        injection h with h; injection h with h2 h3; subst h2 h3
        obtain ⟨o0, c1⟩ := ev_sound c h1 ho
        refine ⟨o0, fun U κ a w hr => wp_block (wp_mono (c1 U κ a w hr) (fun z a' w' hz => ?_))⟩
        have hz1 := hz.1; subst hz1
        simp only [Ex.to, Exit.inBlock, hj', if_false]
        exact ⟨rfl, hz.2⟩
    · rename_i hne
      obtain ⟨o0, c1⟩ := ev_sound c h ho
      refine ⟨o0, fun U κ a w hr => wp_block (wp_mono (c1 U κ a w hr) (fun z a' w' hz => ?_))⟩
      cases e with
      | normal => have hz1 := hz.1; subst hz1; exact hz
      | exit j => exact absurd h (hne j r')
      | ret => have hz1 := hz.1; subst hz1; exact hz
  | .loop c, r, r', e, h, ho => by
    simp only [ev] at h
    split at h
    · rename_i k e' st' os hos
      split at h
      · cases h
      · injection h with h; injection h with h1 h2; subst h1 h2
        exact ⟨ho.2, CodeR.weak ho.1.code⟩
    · cases h
  | .scope c, r, r', e, h, ho => by
    simp only [ev] at h
    obtain ⟨o0, c1⟩ := ev_sound c h ho
    refine ⟨o0, fun U κ a w hr => wp_scope_straight (wp_mono (c1 U κ a w hr) (fun z a' w' hz => ?_))⟩
    have hz1 := hz.1
    subst hz1
    cases e <;> exact hz
  | .exit id, r, r', e, h, ho => by
    simp only [ev, Option.some.injEq, Prod.mk.injEq] at h
    obtain ⟨rfl, rfl⟩ := h
    exact ⟨ho, fun U κ a w hr => wp_exit ⟨rfl, κ, hr, .refl _ _ _⟩⟩
  | .ret, r, r', e, h, ho => by
    simp only [ev, Option.some.injEq, Prod.mk.injEq] at h
    obtain ⟨rfl, rfl⟩ := h
    exact ⟨ho, fun U κ a w hr => wp_ret ⟨rfl, κ, hr, .refl _ _ _⟩⟩
  | .rangeFunc .., r, r', e, h, ho => by simp [ev] at h
  | .goto _, r, r', e, h, ho => by simp [ev] at h
  | .refuse _, r, r', e, h, ho => by simp [ev] at h

end Go.HM
