/- HM, part Xm: a function that holds ranges over functions comes to its end: the marks among its deferred calls. -/
import Derived.Test.YtaghnihkkofmnaaGreatHmX
import Derived.RangeFuncRecord
namespace Go.HM

variable {P : Program} {U U' : Nat → Nat → Prop} {κ : List Place} {s : List SObj} {w : World}

mutual
theorem Vc.chg (hp : Pres w (okOf U κ) w (okOf U' κ)) : ∀ {v : V} {cs : List Value}, Vc U κ s w v cs → Vc U' κ s w v cs
  | _, _, .p h => .p (h.pres hp)
  | _, _, .rb b => .rb b
  | _, _, .ptr h k => .ptr h k
  | _, _, .row h k l m => .row (h.pres hp) k l m
  | _, _, .map h k => .map h k
  | _, _, .view h k => .view h k
  | _, _, .cv k l n m => .cv k l n m
  | _, _, .ep k l m => .ep k l m
  | _, _, .yld h k => .yld h k
  | _, _, .agg h => .agg (Vcs.chg hp h)
  | _, _, .clo h k => .clo (Vcs.chg hp h) k
  | _, _, .bad h => .bad h
theorem Vcs.chg (hp : Pres w (okOf U κ) w (okOf U' κ)) : ∀ {vs : List V} {cs : List Value}, Vcs U κ s w vs cs → Vcs U' κ s w vs cs
  | _, _, .nil => .nil
  | _, _, .cons h k => .cons (Vc.chg hp h) (Vcs.chg hp k)
end

theorem VV1.chg (hp : Pres w (okOf U κ) w (okOf U' κ)) {v : V} {x : Value} (h : VV1 U κ s w v x) : VV1 U' κ s w v x := ⟨h.1.chg hp, h.2⟩

theorem VV.chg (hp : Pres w (okOf U κ) w (okOf U' κ)) {v : V} {x : Value} (h : VV U κ s w v x) : VV U' κ s w v x := by
  cases v with
  | tup vs => obtain ⟨xs, a, b⟩ := h; exact ⟨xs, a, b.mono' fun _ _ q => VV1.chg hp q⟩
  | _ => exact VV1.chg hp h

theorem Slot.chg (hp : Pres w (okOf U κ) w (okOf U' κ)) {a : Act} {x : Nat} {v : V} (h : Slot U κ s w a x v) : Slot U' κ s w a x v := by
  cases v with
  | wh d want u => exact fun e => let ⟨y, p, q⟩ := h e; ⟨y, p, q.chg hp⟩
  | bad => trivial
  | _ => exact let ⟨y, p, q⟩ := h; ⟨y, p, q.chg hp⟩

theorem RelS.chg (h : RelS U κ s w) (hp : Pres w (okOf U κ) w (okOf U' κ)) (hup : ∀ b o, w.heap.size ≤ b → U' b o) (hm : ∀ pl ∈ κ, pl.live → ∀ o, U' pl.blk o) : RelS U' κ s w where
  up := hup
  len := h.len
  obj := fun id o pl a b => by
    have hob := h.obj id o pl a b
    cases o with
    | box v =>
      obtain ⟨x0, x1, x2, x3, cs, el, x4, x5⟩ := hob
      exact ⟨x0, x1, x2, x3, cs, el, x4, x5.chg hp⟩
    | row c e => exact fun hon => ⟨(hob hon).1, fun o q1 q2 => ⟨((hob hon).2 o q1 q2).1, ((hob hon).2 o q1 q2).2.1, hm pl (List.mem_of_getElem? b) hon o⟩⟩
    | map es =>
      obtain ⟨x0, x3, ents, clock, x4, x5⟩ := hob
      exact ⟨x0, x3, ents, clock, x4, x5.pres hp⟩
    | vec c v =>
      obtain ⟨x0, x1, x3, cs, el, ⟨cs', more, q1, q2⟩, x4, x5⟩ := hob
      exact ⟨x0, x1, x3, cs, el, ⟨cs', more, q1, q2.chg hp⟩, x4, x5⟩
    | dead => exact hob
    | lp ls pd d f m t ps as bd =>
      obtain ⟨q1, q2, q3, q4, tmps, a3, a4, a5⟩ := hob
      exact ⟨q1, q2, q3, q4, tmps, a3, a4, fun x v hx => (a5 x v hx).chg hp⟩
    | dfr => exact hob
  apart := h.apart
  below := h.below
  mine := hm
  glob := h.glob.pres hp

/-- What the context grants, less the marks that stood before. -/
def nar (U : Nat → Nat → Prop) (κ : List Place) (w : World) (b o : Nat) : Prop := U b o ∧ ((∃ ds, w.heap[b]? = some (.deferred ds)) → ∃ pl ∈ κ, pl.live ∧ pl.blk = b)

theorem cell_deferred {ds : Option (List Deferred)} {b o : Nat} (h : w.heap[b]? = some (.deferred ds)) : w.cell? ⟨b, o, none⟩ = none := by
  simp [World.cell?, h]

theorem nar_pres : Pres w (okOf U κ) w (okOf (nar U κ w) κ) := fun b o v hv ho =>
  ⟨hv, ⟨ho.1, fun ⟨ds, e⟩ => by rw [cell_deferred e] at hv; cases hv⟩, ho.2⟩

theorem nar_sub : ∀ b o, nar U κ w b o → U b o := fun _ _ h => h.1

theorem sub_pres {κ' : List Place} {w' : World} (hU : ∀ b o, U' b o → U b o) : Pres w' (okOf U' κ') w' (okOf U κ') := fun b o _ hv ho => ⟨hv, hU b o ho.1, ho.2⟩

theorem RelS.narrow (h : RelS U κ s w) : RelS (nar U κ w) κ s w :=
  h.chg nar_pres (fun b o hb => ⟨h.up b o hb, fun ⟨ds, e⟩ => by rw [Array.getElem?_eq_none hb] at e; cases e⟩) (fun pl hp hl o => ⟨h.mine pl hp hl o, fun _ => ⟨pl, hp, hl, rfl⟩⟩)

theorem Rel.narrow {st : St} {a : Act} (h : Rel U κ st a w) (hd : a.defers = []) : Rel (nar U κ w) κ st a w :=
  ⟨h.store.narrow, h.size, by rw [hd]; exact .nil, fun x v hg => (h.slot x v hg).chg nar_pres⟩

/-- The blocks of marks, shut. -/
structure Shut (Ds : List Nat) (w w' : World) : Prop where
  os : w'.os = w.os
  tape : w'.tape = w.tape
  output : w'.output = w.output
  size : w'.heap.size = w.heap.size
  other : ∀ k, k ∉ Ds → w'.heap[k]? = w.heap[k]?
  here : ∀ k, k ∈ Ds → w'.heap[k]? = some (.deferred none)

theorem shut_put {D : Nat} {Ds : List Nat} (hD : D < w.heap.size) (hn : D ∉ Ds) {w' : World} (h : Shut Ds (w.putObj D (.deferred none)) w') : Shut (D :: Ds) w w' where
  os := h.os
  tape := h.tape
  output := h.output
  size := h.size.trans (by simp)
  other := fun k hk => by
    rw [h.other k (fun q => hk (List.mem_cons_of_mem _ q)), World.putObj_heap_other (fun e => hk (by rw [e]; exact List.mem_cons_self))]
  here := fun k hk => by
    rcases List.mem_cons.1 hk with rfl | hk
    · rw [h.other _ hn, World.putObj_heap_same hD]
    · exact h.here k hk

theorem leavesM_of {F : Fence} {n : Nat} {fn : Func} {tmps : Array Value} {R : Ending → World → Prop} : ∀ {Ds : List Nat} {w : World}, Ds.Nodup → (∀ D ∈ Ds, w.heap[D]? = some (.deferred (some []))) →
    (∀ w', Shut Ds w w' → ∃ v, (results fn tmps).run P w' = .ok v w' ∧ R (.returned v) w') → LeavesInM F n P fn tmps R (Ds.map markD) .returning w
  | [], w, _, _, h => by
    obtain ⟨v, a, b⟩ := h w ⟨rfl, rfl, rfl, rfl, fun _ _ => rfl, fun _ q => by cases q⟩
    exact ⟨v, a, b⟩
  | D :: Ds, w, hnd, hD, h => by
    have hD0 := hD D List.mem_cons_self
    have hlt : D < w.heap.size := by
      rcases Nat.lt_or_ge D w.heap.size with q | q
      · exact q
      · rw [Array.getElem?_eq_none q] at hD0; cases hD0
    have hnm : D ∉ Ds := (List.nodup_cons.1 hnd).1
    refine ⟨by simp, .inl ⟨D, _, rfl, run_takeDeferred hD0, leavesM_of (List.nodup_cons.1 hnd).2 (fun D' h' => ?_) (fun w' hw => h w' (shut_put hlt hnm hw))⟩⟩
    rw [World.putObj_heap_other (fun e => hnm (by rw [← e]; exact h'))]
    exact hD D' (List.mem_cons_of_mem _ h')

theorem end_marks {κ' : List Place} {st : St} {a : Act} {w' : World} (hup : ∀ b o, w.heap.size ≤ b → U b o) (h : Rel (nar U κ w) κ' st a w') (hs : Step (nar U κ w) κ w κ' w') :
    ∃ Ds : List Nat, Ds.Nodup ∧ a.defers = Ds.map markD ∧ (∀ D ∈ Ds, w'.heap[D]? = some (.deferred (some []))) ∧
      ∀ w'', Shut Ds w' w'' → Rel U κ' st { a with defers := [] } w'' ∧ Step U κ w κ' w'' := by
  obtain ⟨Ds, nd, he, hD⟩ := h.defers
  refine ⟨Ds, nd, he, fun D q => (hD D q).1, fun w'' hw => ?_⟩
  have hpw : Pres w' (okOf (nar U κ w) κ') w'' (okOf (nar U κ w) κ') := fun b o v hv ho => by
    refine ⟨?_, ho⟩
    by_cases hb : b ∈ Ds
    · rw [cell_deferred (hD b hb).1] at hv; cases hv
    · rw [← hv]; simp only [World.cell?, hw.other b hb]
  have hsame : ∀ pl ∈ κ', pl.live → w''.heap[pl.blk]? = w'.heap[pl.blk]? := fun pl hp hl => hw.other _ (fun q => (hD _ q).2.2 pl hp hl rfl)
  have hS : RelS (nar U κ w) κ' st.s w'' := {
    up := fun b o hb => h.store.up b o (by rw [← hw.size]; exact hb)
    len := h.store.len
    obj := fun id o pl p q => (h.store.obj id o pl p q).move hpw (.refl _ _) (by rw [hw.size]; exact Nat.le_refl _) (fun hon => hsame pl (List.mem_of_getElem? q) hon)
    apart := h.store.apart
    below := fun pl p q => by rw [hw.size]; exact h.store.below pl p q
    mine := h.store.mine
    glob := h.store.glob.pres hpw }
  have hsz : w.heap.size ≤ w''.heap.size := by rw [hw.size]; exact hs.kept.size
  refine ⟨⟨hS.chg (sub_pres nar_sub) (fun b o hb => hup b o (Nat.le_trans hsz hb)) (fun pl p q o => (hS.mine pl p q o).1), h.size, .nil, fun x v hg => ?_⟩, ?_, fun pl p q => ?_, ?_⟩
  · exact ((h.slot x v hg).ext hpw (.refl _ _)).chg (sub_pres nar_sub)
  · refine ⟨hw.os.trans hs.kept.os, hw.tape.trans hs.kept.tape, hw.output.trans hs.kept.output, hsz, fun k hk hn => ?_⟩
    by_cases hb : k ∈ Ds
    · exfalso
      have h1 := (hD k hb).1
      rw [hs.kept.block k hk hn] at h1
      obtain ⟨pl, a1, a2, a3⟩ := (hD k hb).2.1.2 ⟨_, h1⟩
      exact hn pl a1 a2 a3.symm
    · rw [hw.other k hb, hs.kept.block k hk hn]
  · exact hs.fresh pl p q
  · exact (nar_pres.trans hs.pres).trans (hpw.trans (sub_pres nar_sub))

end Go.HM
