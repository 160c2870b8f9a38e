/- HM, part Y: functions. -/
import Derived.Test.YtaghnihkkofmnaaGreatHmXm
namespace Go.HM

variable {P : Program} {U : Nat → Nat → Prop} {κ : List Place} {s : List SObj} {w : World} {ok : Nat → Nat → Prop}

theorem argsT_get : ∀ {ts : List T} {i x : Nat} {v : V}, getT (argsT i ts) x = some v → ∃ t, i ≤ x ∧ ts[x - i]? = some t ∧ v = .p t
  | [], i, x, v, h => by simp [argsT, getT_nil, getT_cons] at h
  | t :: ts, i, x, v, h => by
    simp only [argsT, getT_nil, getT_cons] at h
    split at h
    · rename_i hx
      have : i = x := by simpa using hx
      subst this
      injection h with h
      exact ⟨t, Nat.le_refl _, by simp, h.symm⟩
    · obtain ⟨t', a, b, c⟩ := argsT_get h
      refine ⟨t', by omega, ?_, c⟩
      rw [show x - i = (x - (i + 1)) + 1 by omega]
      simpa using b

theorem F2_len {α β : Type} {R : α → β → Prop} : ∀ {l : List α} {m : List β}, F2 R l m → l.length = m.length
  | _, _, .nil => rfl
  | _, _, .cons _ h => by simp [F2_len h]

/-- A function begins. -/
theorem rel_enter {ts : List T} {vals : List Value} {n : Nat} (hU : UpG U w) (h : F2 (TV w U) ts vals) (hn : ts.length ≤ n) :
    Rel U [] ⟨n, argsT 0 ts, []⟩ { tmps := vals.toArray ++ Array.replicate (n - vals.toArray.size) undef, defers := [] } w := by
  have hl := F2_len h
  refine ⟨⟨hU.1, rfl, fun id o pl a => by simp at a, fun i j p p' a => by simp at a, fun pl a => by simp at a, fun pl a => by simp at a, hU.2.pres (fun b o v hv ho => ⟨hv, ho, fun pl hpl => by simp at hpl⟩)⟩, by simp; omega, .nil, fun x v hg => ?_⟩
  obtain ⟨t, _, b, rfl⟩ := argsT_get hg
  simp only [Nat.sub_zero] at b
  obtain ⟨y, c, d⟩ := F2_get h b
  refine ⟨y, ?_, VV_of (d.pres (fun b o v hv ho => ⟨hv, ho, fun pl hpl => by simp at hpl⟩))⟩
  have hlt := getElem?_lt c
  rw [Array.getElem?_append_left (by simpa using hlt)]
  simpa using c

def resOf (tmps : Array Value) : ResultVar → Sem Value
  | .tmp t => pure (tmps.getD t undef)
  | .cell a t => do loadVar t (← asAddr (tmps.getD a undef))

theorem results_eq (fn : Func) (tmps : Array Value) : results fn tmps = (do let vs ← fn.results.mapM (resOf tmps); pure (if h : vs.size = 1 then vs[0] else .tuple vs)) := by
  unfold results
  congr 2

theorem mapM_results {tmps : Array Value} : ∀ (rs : List ResultVar) (xs : List Value), F2 (fun (r : ResultVar) (x : Value) => (resOf tmps r).run P w = .ok x w) rs xs →
    (rs.mapM (resOf tmps)).run P w = .ok xs w
  | [], _, .nil => by simp
  | r :: rs, _, .cons a h => by
    simp only [List.mapM_cons, Sem.run_bind, a, Result.andThen_ok, mapM_results rs _ h, Sem.run_pure]

theorem resT_spec {st : St} {a : Act} (h : Rel U κ st a w) : ∀ {rvs : List ResultVar} {rs : List T}, resT P st rvs = some rs →
    ∃ xs, F2 (fun (r : ResultVar) (x : Value) => (resOf a.tmps r).run P w = .ok x w) rvs xs ∧ F2 (TV w (okOf U κ)) rs xs
  | [], rs, hr => by simp [resT] at hr; subst hr; exact ⟨[], .nil, .nil⟩
  | rv :: rvs, rs, hr => by
    simp only [resT] at hr
    split at hr
    · rename_i t ts e1 e2
      injection hr with hr; subst hr
      obtain ⟨xs, p, q⟩ := resT_spec h e2
      cases rv with
      | tmp x =>
        simp only [Option.bind_eq_some_iff] at e1
        obtain ⟨v, v1, v2⟩ := e1
        obtain ⟨y, y1, y2⟩ := h.getSlot v1 (by rintro d want u rfl; simp [V.toT] at v2) (by rintro rfl; simp [V.toT] at v2)
        exact ⟨y :: xs, .cons (by simp [resOf, Array.getD_eq_getD_getElem?, y1]) p, .cons (toT_VV v2 y2) q⟩
      | cell x ty =>
        simp only at e1
        split at e1
        · rename_i id off n ag g1 g2 g3
          split at e1
          · rename_i v hb
            simp only [Option.bind_eq_some_iff] at e1
            obtain ⟨u, u1, u2⟩ := e1
            obtain ⟨y, y1, y2⟩ := h.getSlot g1 (by rintro d want u q; cases q) (by intro q; cases q)
            obtain ⟨pl, v0, h1, h2, h3⟩ := VV_ptr y2
            obtain ⟨_, _, _, _, cells, elem, h4, h5⟩ := h.store.boxCells hb h2
            obtain ⟨c1, c2, c3, c4⟩ := V.at_spec h5 u1
            obtain ⟨z, hz, hx'⟩ := run_loadVar (P := P) (w := w) (b := pl.blk) (o := off) g2 g3 (cs := (cells.toList.drop off).take n) (by simp at c4 ⊢; omega)
              (fun e => by rw [← c2]; exact V.isAgg_false_sz (by rw [c3, e]))
              (fun j y hj => by rw [h4.cell]; have := drop_take_get _ _ _ _ _ hj; simpa using this)
            refine ⟨z :: xs, .cons ?_ p, .cons (toT_VV u2 (VV_of1 (VV1_cells c1 c3 hx'))) q⟩
            simp [resOf, Array.getD_eq_getD_getElem?, y1, h3, asAddr, Result.andThen, hz]
          · cases e1
        · cases e1
    · cases hr

theorem rvs_of {rs : List T} {xs : List Value} (h : F2 (TV w ok) rs xs) : RVs ok w rs (if h : xs.toArray.size = 1 then xs.toArray[0] else .tuple xs.toArray) := by
  cases h with
  | nil => exact ⟨[], rfl, .nil⟩
  | cons a b =>
    cases b with
    | nil => exact a
    | cons c d =>
      rw [dif_neg (by simp)]
      exact ⟨_, rfl, .cons a (.cons c d)⟩

/-- A FUNCTION ON TREES. -/
theorem evF_sound {f : FuncId} {fn : Func} (hf : P.funcs[f]? = some fn) (hname : (fn.name == "runtime.NumGoroutine") = false) {args rs : List T} {orc : List Orc} {obs : List Prop} (h : evF P fn args orc = some (rs, obs)) (ho : allOf obs) : PCall P f args rs := by
  unfold evF at h
  split at h
  · rename_i c hb
    refine ⟨⟨fn, hf, hname, by simp [hb]⟩, fun U w vals hU hargs => ?_⟩
    split at h
    · rename_i hc
      simp only [Bool.and_eq_true, Nat.ble_eq] at hc
      have key : ∀ (e : Ex) (r : Run), (e = .normal ∨ e = .ret) → ev P c { st := { n := fn.ntmps, t := argsT 0 args, s := [] }, orc := orc, obs := [] } = some (e, r) → resT P r.st fn.results.toList = some rs → r.obs = obs →
          Calls P f vals.toArray w (fun e w' => ∃ v, e = .returned v ∧ RVs U w' rs v ∧ Kept [] w w') := by
        intro e r he hev hres hobs
        obtain ⟨_, hcode⟩ := ev_sound c hev (by rw [hobs]; exact ho)
        refine callsIn_wide.1 (callsIn_of_wp_marks (n := 0) hf hb trivial (wpIn_mono (wpIn_wide.2 (hcode (nar U [] w) [] _ w ((rel_enter hU hargs hc.2).narrow rfl))) ?_))
        rintro x a' w' ⟨hx, κ', hr, hs⟩
        obtain ⟨Ds, nd, he', hD, hfin⟩ := end_marks (U := U) (κ := []) hU.1 hr hs
        have hpost : LeavesInM Fence.wide 0 P fn a'.tmps (fun e w' => ∃ v, e = .returned v ∧ RVs U w' rs v ∧ Kept [] w w') a'.defers .returning w' := by
          rw [he']
          refine leavesM_of nd hD (fun w'' hw => ?_)
          obtain ⟨hr2, hs2⟩ := hfin w'' hw
          obtain ⟨xs, p, q⟩ := resT_spec (P := P) hr2 hres
          have hrun : (results fn a'.tmps).run P w'' = .ok (if h : xs.toArray.size = 1 then xs.toArray[0] else .tuple xs.toArray) w'' := by
            have h1 := mapM_results (P := P) (w := w'') (tmps := a'.tmps) _ _ p
            have e1 : (fn.results.mapM (resOf a'.tmps)).run P w'' = .ok xs.toArray w'' := by
              have e2 : fn.results.mapM (resOf a'.tmps) = (fn.results.toList.mapM (resOf a'.tmps)) >>= fun l => pure l.toArray := by
                have h9 := List.mapM_toArray (l := fn.results.toList) (f := resOf a'.tmps)
                rw [Array.toArray_toList] at h9
                rw [h9, map_eq_pure_bind]
              rw [e2, Sem.run_bind, h1]
              rfl
            rw [results_eq, Sem.run_bind, e1]
            rfl
          exact ⟨_, hrun, _, rfl, rvs_of (forall₂_mono (fun t v k => k.pres (fun b o v hv ho => ⟨hv, ho.1⟩)) q), hs2.kept⟩
        rcases he with rfl | rfl <;> (subst hx; exact hpost)
      split at h
      · rename_i r hev
        split at h
        · simp only [Option.map_eq_some_iff, Prod.mk.injEq] at h
          obtain ⟨ts, a, rfl, b⟩ := h
          exact key _ r (.inl rfl) hev a b
        · cases h
      · rename_i r hev
        split at h
        · simp only [Option.map_eq_some_iff, Prod.mk.injEq] at h
          obtain ⟨ts, a, rfl, b⟩ := h
          exact key _ r (.inr rfl) hev a b
        · cases h
      · cases h
    · cases h
  · cases h

end Go.HM
