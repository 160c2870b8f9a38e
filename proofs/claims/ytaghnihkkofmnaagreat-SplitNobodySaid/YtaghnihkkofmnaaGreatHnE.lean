/- HN, part E: functions that run calls. -/
import Derived.Test.YtaghnihkkofmnaaGreatHnD
namespace Go.HM

variable {P : Program} {U : Nat → Nat → Prop} {κ : List Place} {s : List SObj} {w : World} {ok : Nat → Nat → Prop} {C : GCtx} {pf : PFn} {gf : GFn}

theorem argsV_get : ∀ {vs : List V} {i x : Nat} {v : V}, getT (argsV i vs) x = some v → i ≤ x ∧ vs[x - i]? = some v
  | [], i, x, v, h => by simp [argsV, getT_nil, getT_cons] at h
  | t :: ts, i, x, v, h => by
    simp only [argsV, getT_nil, getT_cons] at h
    split at h
    · rename_i hx
      have : i = x := by simpa using hx
      subst this
      injection h with h
      subst h
      exact ⟨Nat.le_refl _, by simp⟩
    · obtain ⟨a, b⟩ := argsV_get h
      refine ⟨by omega, ?_⟩
      rw [show x - i = (x - (i + 1)) + 1 by omega]
      simpa using b

theorem argsV_has : ∀ {vs : List V} {i x : Nat} {v : V}, vs[x]? = some v → getT (argsV i vs) (i + x) = some v
  | [], i, x, v, h => by simp at h
  | t :: ts, i, 0, v, h => by simp at h; simp [argsV, getT_nil, getT_cons, h]
  | t :: ts, i, x + 1, v, h => by
    simp only [argsV, getT_nil, getT_cons]
    rw [if_neg (by simp)]
    have := argsV_has (i := i + 1) (vs := ts) (x := x) (by simpa using h)
    rw [show i + (x + 1) = i + 1 + x by omega]
    exact this

theorem VV1_part {v : V} {x : Value} (h : VV1 U κ s w v x) : ∀ d want u, v ≠ .wh d want u := by
  rintro d want u rfl; exact absurd h.1 (by intro k; cases k)

theorem slot_of {a : Act} {x : Nat} {v : V} {y : Value} (hy : a.tmps[x]? = some y) (h : VV1 U κ s w v y) : Slot U κ s w a x v := by
  cases v with
  | wh d want u => exact absurd rfl (VV1_part h d want u)
  | bad => trivial
  | tup vs => exact absurd h.1 (by intro k; cases k)
  | _ => exact ⟨y, hy, h⟩

/-- A function begins, in the caller's memory. -/
theorem rel_enterG {vs : List V} {vals : List Value} {n : Nat} (hs : RelS U κ s w) (h : F2 (VV1 U κ s w) vs vals) (hn : vs.length ≤ n) :
    Rel U κ ⟨n, argsV 0 vs, s⟩ { tmps := vals.toArray ++ Array.replicate (n - vals.toArray.size) undef, defers := [] } w := by
  have hl := F2_len h
  refine ⟨hs, by simp; omega, .nil, fun x v hg => ?_⟩
  obtain ⟨_, b⟩ := argsV_get hg
  simp only [Nat.sub_zero] at b
  obtain ⟨y, c, d⟩ := F2_get h b
  have hlt := getElem?_lt c
  exact slot_of (by rw [Array.getElem?_append_left (by simpa using hlt)]; simpa using c) d

theorem resC_spec {st : St} {a : Act} (h : Rel U κ st a w) : ∀ {rvs : List ResultVar} {rs : List V}, resC P st rvs = some rs →
    okParts rs = true ∧ ∃ xs, F2 (fun (r : ResultVar) (x : Value) => (resOf a.tmps r).run P w = .ok x w) rvs xs ∧ F2 (VV1 U κ st.s w) rs xs
  | [], rs, hr => by simp [resC] at hr; subst hr; exact ⟨rfl, [], .nil, .nil⟩
  | rv :: rvs, rs, hr => by
    simp only [resC] at hr
    split at hr
    · rename_i v vs e1 e2
      split at hr
      · rename_i hok
        injection hr with hr; subst hr
        obtain ⟨oks, xs, p, q⟩ := resC_spec h e2
        refine ⟨by simp [okParts, hok, oks], ?_⟩
        cases rv with
        | tmp x =>
          obtain ⟨y, y1, y2⟩ := h.getSlot e1 (okPart_notWh hok) (by rintro rfl; simp [okPart] at hok)
          exact ⟨y :: xs, .cons (by simp [resOf, Array.getD_eq_getD_getElem?, y1]) p, .cons (VV_one y2 hok) q⟩
        | cell x ty =>
          simp only at e1
          split at e1
          · rename_i id off n ag g1 g2 g3
            split at e1
            · rename_i u0 hb
              obtain ⟨y, y1, y2⟩ := h.getSlot g1 (by rintro d want u q; cases q) (by intro q; cases q)
              obtain ⟨pl, v0, h1, h2, h3⟩ := VV_ptr y2
              obtain ⟨_, _, _, _, cells, elem, h4, h5⟩ := h.store.boxCells hb h2
              obtain ⟨c1, c2, c3, c4⟩ := V.at_spec h5 e1
              obtain ⟨z, hz, hx'⟩ := run_loadVar (P := P) (w := w) (b := pl.blk) (o := off) g2 g3 (cs := (cells.toList.drop off).take n) (by simp at c4 ⊢; omega)
                (fun e => by rw [← c2]; exact V.isAgg_false_sz (by rw [c3, e]))
                (fun j y hj => by rw [h4.cell]; have := drop_take_get _ _ _ _ _ hj; simpa using this)
              refine ⟨z :: xs, .cons ?_ p, .cons (VV1_cells c1 c3 hx') q⟩
              simp [resOf, Array.getD_eq_getD_getElem?, y1, h3, asAddr, Result.andThen, hz]
            · cases e1
          · rename_i u off n ag g1 g2 g3
            simp only [Option.map_eq_some_iff] at e1
            obtain ⟨u', e1, rfl⟩ := e1
            obtain ⟨y, y1, y2⟩ := h.getSlot g1 (by rintro d want u q; cases q) (by intro q; cases q)
            have hc := (VV_p y2).cell rfl
            cases hc with
            | rp q1 q2 =>
              obtain ⟨c1, c2, c3, c4⟩ := T.at_spec q1 e1
              rename_i cs b o
              obtain ⟨z, hz, hx'⟩ := run_loadVar (P := P) (w := w) (b := b) (o := o + off) g2 g3 (cs := (cs.drop off).take n) (by simp at c4 ⊢; omega)
                (fun e => by rw [← c2]; exact T.isAgg_false_sz (by rw [c3, e]))
                (fun j y hj => by
                  have := drop_take_get _ _ _ _ _ hj
                  have := (q2 (off + j) y this).1
                  rw [Nat.add_assoc]; exact this)
              refine ⟨z :: xs, .cons ?_ p, .cons (VV1_of (TV_cells c1 c3 hx')) q⟩
              simp [resOf, Array.getD_eq_getD_getElem?, y1, asAddr, Result.andThen, hz]
          · cases e1
      · cases hr
    · cases hr

theorem rvsV_of {rs : List V} {xs : List Value} (h : F2 (VV1 U κ s w) rs xs) : RVsV U κ s w rs (if h : xs.toArray.size = 1 then xs.toArray[0] else .tuple xs.toArray) := by
  cases h with
  | nil => exact ⟨[], rfl, .nil⟩
  | cons a b =>
    cases b with
    | nil => exact a
    | cons c d =>
      rw [dif_neg (by simp)]
      exact ⟨_, rfl, .cons a (.cons c d)⟩

theorem VV1_okParts_get {rs : List V} {i : Nat} {v : V} (h : okParts rs = true) (hi : rs[i]? = some v) : okPart v = true := by
  induction rs generalizing i with
  | nil => simp at hi
  | cons a r ih =>
    simp only [okParts, Bool.and_eq_true] at h
    cases i with
    | zero => simp at hi; subst hi; exact h.1
    | succ i => exact ih h.2 (by simpa using hi)

theorem frzT_args {id : Nat} {t : T × Nat} : ∀ {vs : List V} {i : Nat}, frzT id t (argsV i vs) = argsV i (V.frzs id t vs)
  | [], i => rfl
  | v :: vs, i => by simp only [argsV, frzT, V.frzs, frzT_args]

theorem frzs_get {id : Nat} {t : T × Nat} : ∀ {vs : List V} {i : Nat} {v : V}, (V.frzs id t vs)[i]? = some v → ∃ u, vs[i]? = some u
  | [], i, v, h => by simp [V.frzs] at h
  | u :: vs, 0, v, h => ⟨u, by simp⟩
  | u :: vs, i + 1, v, h => by obtain ⟨x, hx⟩ := frzs_get (vs := vs) (i := i) (by simpa [V.frzs] using h); exact ⟨x, by simpa using hx⟩

theorem frzs_len {id : Nat} {t : T × Nat} : ∀ {vs : List V}, (V.frzs id t vs).length = vs.length
  | [] => rfl
  | v :: vs => by simp [V.frzs, frzs_len]

theorem F2_of_get {α β : Type} {R : α → β → Prop} : ∀ {l : List α} {m : List β}, l.length = m.length → (∀ (i : Nat) (x : α) (y : β), l[i]? = some x → m[i]? = some y → R x y) → F2 R l m
  | [], [], _, _ => .nil
  | [], _ :: _, h, _ => by simp at h
  | _ :: _, [], h, _ => by simp at h
  | a :: l, b :: m, h, k => .cons (k 0 a b (by simp) (by simp)) (F2_of_get (by simpa using h) (fun i x y p q => k (i + 1) x y (by simpa using p) (by simpa using q)))

theorem unplace_spec : ∀ {k : Nat} {s : List SObj} {rs : List V} {ts : List T} {κ : List Place} {xs : List Value}, unplace k s rs = some ts → RelS U κ s w → F2 (VV1 U κ s w) rs xs → ∃ κ', F2 (TV w (okOf U κ')) ts xs
  | 0, _, _, _, _, _, h, _, _ => by simp [unplace] at h
  | k + 1, s, rs, ts, κ, xs, h, hs, hv => by
    simp only [unplace] at h
    split at h
    · rename_i hok
      split at h
      · rename_i ts' e
        injection h with h; subst h
        exact ⟨κ, toTs_F2 e (forall₂_mono (fun _ _ c => VV_of1 c) hv)⟩
      · split at h
        · rename_i id e
          split at h
          · rename_i v hb
            split at h
            · rename_i t ht
              have hrel := rel_enterG (n := rs.length) hs hv (Nat.le_refl _)
              have hf : St.frz id ⟨rs.length, argsV 0 rs, s⟩ = some ⟨rs.length, argsV 0 (V.frzs id (t, 0) rs), (s.map (SObj.frz id (t, 0))).set id .dead⟩ := by
                unfold St.frz
                simp only [hb, ht, frzT_args]
              obtain ⟨κ1, r1, s1, k1⟩ := frz_rel hrel hf
              have hok2 : okParts (V.frzs id (t, 0) rs) = true := by
                cases k with
                | zero => simp [unplace] at h
                | succ k =>
                  simp only [unplace] at h
                  split at h
                  · rename_i h2; exact h2
                  · cases h
              refine unplace_spec h r1.store (F2_of_get (by rw [frzs_len]; exact F2_len hv) (fun i u y hu hy => ?_))
              have hg : getT (argsV 0 (V.frzs id (t, 0) rs)) i = some u := by have := argsV_has (i := 0) hu; simpa using this
              have hku := VV1_okParts_get hok2 hu
              obtain ⟨z, z1, z2⟩ := r1.getSlot hg (okPart_notWh hku) (by rintro rfl; simp [okPart] at hku)
              have hlt := getElem?_lt hy
              rw [Array.getElem?_append_left (by simpa using hlt)] at z1
              have : y = z := by
                have : xs[i]? = some z := by simpa using z1
                rw [hy] at this; injection this
              subst this
              exact VV_one z2 hku
            · cases h
          · rename_i c v hb
            split at h
            · rename_i t ht
              have hrel := rel_enterG (n := rs.length) hs hv (Nat.le_refl _)
              have hf : St.frz id ⟨rs.length, argsV 0 rs, s⟩ = some ⟨rs.length, argsV 0 (V.frzs id (t, c) rs), (s.map (SObj.frz id (t, c))).set id .dead⟩ := by
                unfold St.frz
                simp only [hb, ht, frzT_args]
              obtain ⟨κ1, r1, s1, k1⟩ := frz_rel hrel hf
              have hok2 : okParts (V.frzs id (t, c) rs) = true := by
                cases k with
                | zero => simp [unplace] at h
                | succ k =>
                  simp only [unplace] at h
                  split at h
                  · rename_i h2; exact h2
                  · cases h
              refine unplace_spec h r1.store (F2_of_get (by rw [frzs_len]; exact F2_len hv) (fun i u y hu hy => ?_))
              have hg : getT (argsV 0 (V.frzs id (t, c) rs)) i = some u := by have := argsV_has (i := 0) hu; simpa using this
              have hku := VV1_okParts_get hok2 hu
              obtain ⟨z, z1, z2⟩ := r1.getSlot hg (okPart_notWh hku) (by rintro rfl; simp [okPart] at hku)
              have hlt := getElem?_lt hy
              rw [Array.getElem?_append_left (by simpa using hlt)] at z1
              have : y = z := by
                have : xs[i]? = some z := by simpa using z1
                rw [hy] at this; injection this
              subst this
              exact VV_one z2 hku
            · cases h
          · cases h
        · cases h
    · cases h

/-- A call in no memory of the caller's is a call on trees. -/
theorem GCall.pure {f : FuncId} {ts ts' : List T} {s' : List SObj} {rs : List V} {k : Nat} (h : GCall P f [] (ts.map .p) s' rs) (hu : unplace k s' rs = some ts') : PCall P f ts ts' := by
  refine ⟨h.1, fun U w vals hU hargs => ?_⟩
  have hp : ∀ {w : World}, Pres w U w (okOf U []) := fun {w} b o v hv ho => ⟨hv, ho, fun pl hpl => by simp at hpl⟩
  have hS : RelS U [] [] w := ⟨hU.1, rfl, fun id o pl a => by simp at a, fun i j p p' a => by simp at a, fun pl a => by simp at a, fun pl a => by simp at a, hU.2.pres hp⟩
  have hA : F2 (VV1 U [] [] w) (ts.map .p) vals := F2.map_left (forall₂_mono (fun t v c => VV1_of (c.pres hp)) hargs)
  refine (h.2 U [] w vals hS hA).mono ?_
  rintro e w' ⟨v, κ', rfl, h1, h2, h3, h4⟩
  refine ⟨v, rfl, ?_, h3.kept⟩
  have fin : ∀ {xs : List Value}, F2 (VV1 U κ' s' w') rs xs → F2 (TV w' U) ts' xs := fun hx => by
    obtain ⟨κ'', hq⟩ := unplace_spec hu h1 hx
    exact forall₂_mono (fun t v k => k.pres (fun b o v hv ho => ⟨hv, ho.1⟩)) hq
  match rs, h2, @fin with
  | [], h2, fin => obtain ⟨xs, a, b⟩ := h2; have := fin b; cases this with | nil => cases b; exact ⟨[], a, .nil⟩ | cons => cases b
  | [r], h2, fin => have := fin (F2.cons (R := VV1 U κ' s' w') h2 .nil); cases this with | cons a b => cases b; exact a
  | r :: r' :: rest, h2, fin =>
    obtain ⟨xs, a, b⟩ := h2
    have := fin b
    cases b with
    | cons b1 b2 => cases b2 with
      | cons b3 b4 => cases this with
        | cons c1 c2 => cases c2 with
          | cons c3 c4 => exact ⟨_, a, .cons c1 (.cons c3 c4)⟩

def NamesOk (P : Program) : Prop := ∀ (f : FuncId) (fn : Func), P.funcs[f]? = some fn → (fn.name == "runtime.NumGoroutine") = false

theorem pureC_sound {g : GFn} (hK : ∀ f ts rs, C.K f ts = some rs → PCall C.P f ts rs) (hg : GSound C.P g) : PSound C.P (pureC C g) := by
  intro f ts D ob rs D' ob' h ho
  unfold pureC at h
  split at h
  · rename_i rs' e
    injection h with h; simp only [Prod.mk.injEq] at h; obtain ⟨rfl, rfl, rfl⟩ := h
    exact ⟨ho, hK _ _ _ e⟩
  · split at h
    · rename_i rs' s' D1 ob1 e
      split at h
      · rename_i ts' hu
        injection h with h; simp only [Prod.mk.injEq] at h; obtain ⟨rfl, rfl, rfl⟩ := h
        obtain ⟨o0, hc⟩ := hg _ _ _ _ _ _ _ _ _ e ho
        split at hu
        · cases hu
        · rename_i hy
          exact ⟨o0, (hc.call hy).pure hu⟩
      · cases h
    · cases h

/-! Letting go of what a function made for itself -/

mutual
theorem Vc.take {n : Nat} (hp : Pres w (okOf U κ) w (okOf U (κ.take n))) : ∀ {v : V} {cs : List Value}, Vc U κ s w v cs → v.under n = true → Vc U (κ.take n) (s.take n) w v cs
  | _, _, .p h, _ => .p (h.pres hp)
  | _, _, .rb b, _ => .rb b
  | .ptr id off, _, .ptr h k, hb => by
    have hlt : id < n := by simpa [V.under, Nat.blt_eq] using hb
    exact .ptr (take_get h hlt) (take_get k hlt)
  | .row id ver t, _, .row h k l m, hb => by
    have hlt : id < n := by simpa [V.under, Nat.blt_eq] using hb
    refine .row (h.pres hp) (take_get k hlt) l (fun e => ?_)
    rcases m e with q | ⟨pl, o, q1, q2⟩
    · exact .inl q
    · exact .inr ⟨pl, o, take_get q1 hlt, q2⟩
  | .map id, _, .map h k, hb => by
    have hlt : id < n := by simpa [V.under, Nat.blt_eq] using hb
    exact .map (take_get h hlt) (take_get k hlt)
  | .view id off m, _, .view h k, hb => by
    have hlt : id < n := by simpa [V.under, Nat.blt_eq] using hb
    exact .view (take_get h hlt) (take_get k hlt)
  | .cv id ver off m e, _, .cv h l hn k, hb => by
    have hlt : id < n := by simpa [V.under, Nat.blt_eq] using hb
    exact .cv (take_get h hlt) l hn (fun q => by obtain ⟨pl, q1, q2⟩ := k q; exact ⟨pl, take_get q1 hlt, q2⟩)
  | .ep id ver off, _, .ep h l k, hb => by
    have hlt : id < n := by simpa [V.under, Nat.blt_eq] using hb
    exact .ep (take_get h hlt) l (fun q => by obtain ⟨pl, q1, q2⟩ := k q; exact ⟨pl, take_get q1 hlt, q2⟩)
  | .yld id, _, .yld h k, hb => by
    have hlt : id < n := by simpa [V.under, Nat.blt_eq] using hb
    exact .yld (take_get h hlt) (take_get k hlt)
  | _, _, .agg h, hb => .agg (Vcs.take hp h (by simpa [V.under] using hb))
  | _, _, .clo h k, hb => .clo (Vcs.take hp h (by simpa [V.under] using hb)) k
  | _, _, .bad h, _ => .bad h
theorem Vcs.take {n : Nat} (hp : Pres w (okOf U κ) w (okOf U (κ.take n))) : ∀ {vs : List V} {cs : List Value}, Vcs U κ s w vs cs → V.unders n vs = true → Vcs U (κ.take n) (s.take n) w vs cs
  | _, _, .nil, _ => .nil
  | _, _, .cons h k, hb => by
    simp only [V.unders, Bool.and_eq_true] at hb
    exact .cons (Vc.take hp h hb.1) (Vcs.take hp k hb.2)
end

theorem pres_take (n : Nat) : Pres w (okOf U κ) w (okOf U (κ.take n)) := fun b o v hv ho => ⟨hv, ho.1, fun pl hp hh => ho.2 pl (List.take_subset _ _ hp) hh⟩

theorem belowS_spec {n : Nat} : ∀ {s : List SObj}, belowS n s = true → ∀ v, (SObj.box v ∈ s ∨ ∃ c, SObj.vec c v ∈ s) → v.under n = true
  | [], _, v, h => by simp at h
  | .box u :: r, h, v, hv => by
    simp only [belowS, Bool.and_eq_true] at h
    rcases hv with hv | ⟨c, hv⟩ <;> rcases List.mem_cons.1 hv with hv | hv
    · injection hv with hv; subst hv; exact h.1
    · exact belowS_spec h.2 v (.inl hv)
    · cases hv
    · exact belowS_spec h.2 v (.inr ⟨c, hv⟩)
  | .vec a u :: r, h, v, hv => by
    simp only [belowS, Bool.and_eq_true] at h
    rcases hv with hv | ⟨c, hv⟩ <;> rcases List.mem_cons.1 hv with hv | hv
    · cases hv
    · exact belowS_spec h.2 v (.inl hv)
    · injection hv with _ hv; subst hv; exact h.1
    · exact belowS_spec h.2 v (.inr ⟨c, hv⟩)
  | .row a b :: r, h, v, hv => by
    simp only [belowS] at h
    rcases hv with hv | ⟨c, hv⟩ <;> rcases List.mem_cons.1 hv with hv | hv
    · cases hv
    · exact belowS_spec h v (.inl hv)
    · cases hv
    · exact belowS_spec h v (.inr ⟨c, hv⟩)
  | .map a :: r, h, v, hv => by
    simp only [belowS] at h
    rcases hv with hv | ⟨c, hv⟩ <;> rcases List.mem_cons.1 hv with hv | hv
    · cases hv
    · exact belowS_spec h v (.inl hv)
    · cases hv
    · exact belowS_spec h v (.inr ⟨c, hv⟩)
  | .dead :: r, h, v, hv => by
    simp only [belowS] at h
    rcases hv with hv | ⟨c, hv⟩ <;> rcases List.mem_cons.1 hv with hv | hv
    · cases hv
    · exact belowS_spec h v (.inl hv)
    · cases hv
    · exact belowS_spec h v (.inr ⟨c, hv⟩)
  | .dfr :: r, h, v, hv => by
    simp only [belowS] at h
    rcases hv with hv | ⟨c, hv⟩ <;> rcases List.mem_cons.1 hv with hv | hv
    · cases hv
    · exact belowS_spec h v (.inl hv)
    · cases hv
    · exact belowS_spec h v (.inr ⟨c, hv⟩)
  | .lp _ _ _ _ _ _ _ _ _ :: r, h, v, hv => by
    simp only [belowS, Bool.and_eq_true] at h
    rcases hv with hv | ⟨c, hv⟩ <;> rcases List.mem_cons.1 hv with hv | hv
    · cases hv
    · exact belowS_spec h.2 v (.inl hv)
    · cases hv
    · exact belowS_spec h.2 v (.inr ⟨c, hv⟩)

theorem underT_get {n : Nat} : ∀ {t : List (Nat × V)} {x : Nat} {v : V}, underT n t = true → getT t x = some v → v.under n = true
  | [], x, v, _, h => by simp [getT_nil] at h
  | (y, z) :: r, x, v, hb, h => by
    simp only [underT, Bool.and_eq_true] at hb
    rw [getT_cons] at h
    split at h
    · injection h with h; subst h; exact hb.1
    · exact underT_get hb.2 h

theorem belowS_lp {n : Nat} {ls : LoopState} {pd : Option Code} {d : Nat} {f : FuncId} {m : Nat} {t : List (Nat × V)} {ps : Array Tmp} {as bd : Code} : ∀ {s : List SObj}, belowS n s = true → SObj.lp ls pd d f m t ps as bd ∈ s → d < n ∧ underT n t = true
  | [], _, h => by simp at h
  | o :: r, hb, h => by
    have hr : belowS n r = true := by cases o <;> simp only [belowS, Bool.and_eq_true] at hb <;> first | exact hb.2 | exact hb
    rcases List.mem_cons.1 h with h | h
    · subst h
      simp only [belowS, Bool.and_eq_true, Nat.blt_eq] at hb
      exact hb.1
    · exact belowS_lp hr h

theorem Slot.take {n : Nat} (hp : Pres w (okOf U κ) w (okOf U (κ.take n))) {a : Act} {x : Nat} {v : V} (h : Slot U κ s w a x v) (hb : v.under n = true) : Slot U (κ.take n) (s.take n) w a x v := by
  cases v with
  | wh d want u => simp [V.under] at hb
  | bad => trivial
  | tup vs => simp [V.under] at hb
  | _ => exact let ⟨y, b, c⟩ := h; ⟨y, b, c.1.take hp hb, c.2⟩

theorem get_take {α : Type} {l : List α} {n i : Nat} {x : α} (h : (l.take n)[i]? = some x) : i < n ∧ l[i]? = some x := by
  have hi : i < n := by
    rcases Nat.lt_or_ge i n with q | q
    · exact q
    · rw [List.getElem?_eq_none (by simp; omega)] at h; cases h
  rw [List.getElem?_take_of_lt hi] at h
  exact ⟨hi, h⟩

theorem RelS.take {n : Nat} (h : RelS U κ s w) (hb : belowS n (s.take n) = true) : RelS U (κ.take n) (s.take n) w where
  up := h.up
  len := by simp [h.len]
  obj := fun id o pl a b => by
    obtain ⟨hi, a'⟩ := get_take a
    obtain ⟨_, b'⟩ := get_take b
    have hob := h.obj id o pl a' b'
    cases o with
    | box x =>
      obtain ⟨x0, x1, x2, x3, cs, el, x4, x5⟩ := hob
      exact ⟨x0, x1, x2, x3, cs, el, x4, x5.take (pres_take n) (belowS_spec hb x (.inl (List.mem_of_getElem? a)))⟩
    | row c e => exact hob
    | map es =>
      obtain ⟨x0, x3, ents, clock, x4, x5⟩ := hob
      exact ⟨x0, x3, ents, clock, x4, x5.pres (pres_take n)⟩
    | vec c x =>
      obtain ⟨x0, x1, x3, cs, el, ⟨cs', more, q1, q2⟩, x4, x5⟩ := hob
      exact ⟨x0, x1, x3, cs, el, ⟨cs', more, q1, q2.take (pres_take n) (belowS_spec hb x (.inr ⟨c, List.mem_of_getElem? a⟩))⟩, x4, x5⟩
    | dead => exact hob
    | lp ls pd d f m t ps as bd =>
      obtain ⟨q1, q2, q3, q4, tmps, a3, a4, a5⟩ := hob
      obtain ⟨b1, b2⟩ := belowS_lp hb (List.mem_of_getElem? a)
      exact ⟨q1, q2, q3, q4, tmps, a3, a4, fun x v hx => (a5 x v hx).take (pres_take n) (underT_get b2 hx)⟩
    | dfr => exact hob
  apart := fun i j p p' hi hj hne => h.apart i j p p' (get_take hi).2 (get_take hj).2 hne
  below := fun p hp => h.below p (List.take_subset _ _ hp)
  mine := fun p hp => h.mine p (List.take_subset _ _ hp)
  glob := h.glob.pres (pres_take n)

theorem Step.take {κ0 : List Place} {w0 : World} (n : Nat) (h : Step U κ0 w0 κ w) : Step U κ0 w0 (κ.take n) w :=
  ⟨h.kept, fun pl hp hl => h.fresh pl (List.take_subset _ _ hp) hl, h.pres.trans (pres_take n)⟩

theorem Ext.take {κ0 : List Place} {s0 : List SObj} (h : Ext κ0 s0 κ s) : Ext κ0 s0 (κ.take s0.length) (s.take s0.length) := by
  have lt : ∀ {id : Nat} {o : SObj}, s0[id]? = some o → id < s0.length := fun {id o} e => getElem?_lt e
  refine ⟨fun id v pl a b => ?_, fun id v pl a b => ?_, fun id cur e a => ?_, fun id cur v a => ?_, fun id ls pd d f m t ps as bd pl a b => ?_, fun id pl a b => ?_⟩
  · obtain ⟨v', pl', c, d, e⟩ := h.box id v pl a b
    exact ⟨v', pl', take_get c (lt a), take_get d (lt a), e⟩
  · obtain ⟨v', pl', c, d, e⟩ := h.map id v pl a b
    exact ⟨v', pl', take_get c (lt a), take_get d (lt a), e⟩
  · obtain ⟨c, d, e, f⟩ := h.row id cur e a
    refine ⟨c, take_get d (lt a), e, fun q => ?_⟩
    rw [List.getElem?_take_of_lt (lt a)]
    exact f q
  · obtain ⟨c, v', d, e, f⟩ := h.vec id cur v a
    exact ⟨c, v', take_get d (lt a), e, fun q => by rw [List.getElem?_take_of_lt (lt a)]; exact f q⟩
  · obtain ⟨ls', pd', t', pl', c, x, e⟩ := h.lp id ls pd d f m t ps as bd pl a b
    exact ⟨ls', pd', t', pl', take_get c (lt a), take_get x (lt a), e⟩
  · obtain ⟨pl', c, x, e⟩ := h.dfr id pl a b
    exact ⟨pl', take_get c (lt a), take_get x (lt a), e⟩

theorem F2_take {n : Nat} : ∀ {rs : List V} {xs : List Value}, F2 (VV1 U κ s w) rs xs → V.unders n rs = true → F2 (VV1 U (κ.take n) (s.take n) w) rs xs
  | [], _, .nil, _ => .nil
  | v :: vs, _, .cons h k, hb => by
    simp only [V.unders, Bool.and_eq_true] at hb
    exact .cons ⟨h.1.take (pres_take n) hb.1, h.2⟩ (F2_take k hb.2)

/-- What is handed back, trimmed. -/
theorem trim_ok {κ0 : List Place} {s0 : List SObj} {w0 : World} {rs : List V} {xs : List Value} (h1 : RelS U κ s w) (h2 : F2 (VV1 U κ s w) rs xs) (h3 : Step U κ0 w0 κ w) (h4 : Ext κ0 s0 κ s) :
    ∃ κ', RelS U κ' (trimS s0.length rs s) w ∧ F2 (VV1 U κ' (trimS s0.length rs s) w) rs xs ∧ Step U κ0 w0 κ' w ∧ Ext κ0 s0 κ' (trimS s0.length rs s) := by
  unfold trimS
  split
  · rename_i hc
    simp only [Bool.and_eq_true] at hc
    exact ⟨κ.take s0.length, h1.take hc.2, F2_take h2 hc.1, h3.take _, h4.take⟩
  · exact ⟨κ, h1, h2, h3, h4⟩

theorem funC_sound (hN : NamesOk C.P) {pf : PFn} {gf : GFn} (hpf : PSound C.P pf) (hgf : GSound C.P gf) {f : FuncId} {s s' : List SObj} {vs rs : List V} {D D' : List (Nat × Bool)} {L : List (Option (List Nat × Ex × St))} {ob ob' : List Prop} {Q : List (List V × List SObj)} {QP : List (List T)} {W : List Told}
    (h : funC C pf gf f s vs D L ob Q QP W = some (rs, s', D', ob')) (ho : allOf ob') : allOf ob ∧ GCall C.P f s vs s' rs := by
  unfold funC at h
  split at h
  · rename_i fn hf
    split at h
    · rename_i c hb
      split at h
      · rename_i hc
        simp only [Bool.and_eq_true, Nat.ble_eq] at hc
        obtain ⟨hc, hokv⟩ := hc
        have hnw : NoWh (argsV 0 vs) := fun x d want u hx => okPart_notWh (VV1_okParts_get hokv (argsV_get hx).2) d want u rfl
        have key : ∀ (e : Ex) (r : GR), (e = .normal ∨ e = .ret) → evC C pf gf f s.length c { st := { n := fn.ntmps, t := argsV 0 vs, s }, D, obs := ob, L, Q, QP, W } = some (e, r) → finC C fn s.length r = some (rs, s', D', ob') → allOf ob ∧ GCall C.P f s vs s' rs := by
          intro e r he hev hfin
          unfold finC at hfin
          split at hfin
          · rename_i rs1 hres
            simp only [Option.some.injEq, Prod.mk.injEq] at hfin
            obtain ⟨rfl, rfl, rfl, rfl⟩ := hfin
            obtain ⟨o0, hcode⟩ := evC_sound hpf hgf c hev ho
            obtain ⟨_, hcode⟩ := hcode hnw
            refine ⟨o0, ⟨fn, hf, hN f fn hf, by simp [hb]⟩, fun U κ w vals hS hargs => ?_⟩
            refine callsIn_wide.1 (callsIn_of_wp_marks (n := 0) hf hb trivial (wpIn_mono (hcode none (.inl rfl) (nar U κ w) κ _ w ((rel_enterG hS hargs hc.2).narrow rfl)) ?_))
            rintro x a' w' ⟨hx, κ', hr, hst, hext⟩
            obtain ⟨Ds, nd, he', hD, hfin⟩ := end_marks (U := U) (κ := κ) hS.up hr hst
            have hpost : LeavesInM Fence.wide 0 C.P fn a'.tmps (fun e w' => ∃ v κ', e = .returned v ∧ RelS U κ' (trimS s.length rs1 r.st.s) w' ∧ RVsV U κ' (trimS s.length rs1 r.st.s) w' rs1 v ∧ Step U κ w κ' w' ∧ Ext κ s κ' (trimS s.length rs1 r.st.s)) a'.defers .returning w' := by
              rw [he']
              refine leavesM_of nd hD (fun w'' hw => ?_)
              obtain ⟨hr2, hst2⟩ := hfin w'' hw
              obtain ⟨hok, xs, p, q⟩ := resC_spec (P := C.P) hr2 hres
              have hrun : (results fn a'.tmps).run C.P w'' = .ok (if h : xs.toArray.size = 1 then xs.toArray[0] else .tuple xs.toArray) w'' := by
                have h1 := mapM_results (P := C.P) (w := w'') (tmps := a'.tmps) _ _ p
                have e1 : (fn.results.mapM (resOf a'.tmps)).run C.P w'' = .ok xs.toArray w'' := by
                  have e2 : fn.results.mapM (resOf a'.tmps) = (fn.results.toList.mapM (resOf a'.tmps)) >>= fun l => pure l.toArray := by
                    have h9 := List.mapM_toArray (l := fn.results.toList) (f := resOf a'.tmps)
                    rw [Array.toArray_toList] at h9
                    rw [h9, map_eq_pure_bind]
                  rw [e2, Sem.run_bind, h1]
                  rfl
                rw [results_eq, Sem.run_bind, e1]
                rfl
              obtain ⟨κ2, t1, t2, t3, t4⟩ := trim_ok hr2.store q hst2 (hext.ext (Nat.le_refl _))
              exact ⟨_, hrun, _, κ2, rfl, t1, rvsV_of t2, t3, t4⟩
            rcases he with rfl | rfl <;> (subst hx; exact hpost)
          · cases hfin
        split at h
        · rename_i r hev; exact key _ r (.inl rfl) hev h
        · rename_i r hev; exact key _ r (.inr rfl) hev h
        · cases h
      · cases h
    · cases h
  · cases h

theorem allP_map : ∀ {vs : List V} {ts : List T}, allP vs = some ts → vs = ts.map .p
  | [], ts, h => by simp [allP] at h; subst h; rfl
  | v :: vs, ts, h => by
    unfold allP at h
    split at h
    · rename_i e; cases e
    · rename_i t vs' e
      injection e with e1 e2
      subst e1 e2
      split at h
      · rename_i ts' e3
        injection h with h; subst h
        rw [allP_map e3]; rfl
      · cases h
    · cases h

theorem F2_unp : ∀ {ts : List T} {xs : List Value}, F2 (VV1 U κ s w) (ts.map .p) xs → F2 (TV w (okOf U κ)) ts xs
  | [], _, .nil => .nil
  | t :: ts, _, .cons a b => .cons (VV_p (VV_of1 a)) (F2_unp b)

/-- A call on trees is one in any memory. -/
theorem GCall.of_pure {f : FuncId} {ts rs : List T} {s : List SObj} (h : PCall P f ts rs) : GCall P f s (ts.map .p) s (rs.map .p) := by
  refine ⟨h.1, fun U κ w vals hS hargs => ?_⟩
  have hU : ∀ b o, w.heap.size ≤ b → okOf U κ b o := fun b o hb => ⟨hS.up b o hb, fun pl hpl hh => by have := hS.below pl hpl hh.2.2.2; have := hh.1; omega⟩
  refine (h.2 (okOf U κ) w vals ⟨hU, hS.glob⟩ (F2_unp hargs)).mono ?_
  rintro e w' ⟨v, rfl, hv, hk⟩
  refine ⟨v, κ, rfl, hS.kept0 hk, ?_, hk.step0, .refl _ _⟩
  match rs, hv with
  | [], hv => obtain ⟨vs, a, b⟩ := hv; exact ⟨vs, a, F2.map_left (forall₂_mono (fun _ _ c => VV1_of c) b)⟩
  | [r], hv => exact VV1_of hv
  | r :: r' :: rest, hv =>
    obtain ⟨vs, a, b⟩ := hv
    have hm : F2 (VV1 U κ s w') ((r :: r' :: rest).map .p) vs := F2.map_left (forall₂_mono (fun _ _ c => VV1_of c) b)
    exact ⟨vs, a, hm⟩

/-- What is known of calls is right. -/
structure KOk (C : GCtx) : Prop where
  names : NamesOk C.P
  K : ∀ f ts rs, C.K f ts = some rs → PCall C.P f ts rs
  KG : ∀ f s vs rs s', C.KG f s vs = some (rs, s') → GCall C.P f s vs s' rs

/-! A round -/

theorem allLt_get {m : Nat} : ∀ {l : List Tmp} {p : Tmp}, allLt m l = true → p ∈ l → p < m
  | q :: r, p, h, hp => by
    simp only [allLt, Bool.and_eq_true, Nat.blt_eq] at h
    rcases List.mem_cons.1 hp with rfl | hp
    · exact h.1
    · exact allLt_get h.2 hp

theorem lpArgs_rel {m : Nat} : ∀ {ps : List Tmp} {vs : List V} {xs : List Value} {t : List (Nat × V)} {tmps : Array Value}, ps.length = vs.length → okParts vs = true → F2 (VV1 U κ s w) vs xs → allLt m ps = true → tmps.size = m → NoWh t →
    (∀ x v, getT t x = some v → Slot U κ s w { tmps, defers := [] } x v) →
    ((ps.zip xs).foldl (fun (tmps : Array Value) (p : Tmp × Value) => tmps.setIfInBounds p.1 p.2) tmps).size = m ∧ NoWh (lpArgs ps vs t) ∧
      ∀ x v, getT (lpArgs ps vs t) x = some v → Slot U κ s w { tmps := (ps.zip xs).foldl (fun (tmps : Array Value) (p : Tmp × Value) => tmps.setIfInBounds p.1 p.2) tmps, defers := [] } x v
  | [], [], _, t, tmps, _, _, .nil, _, hm, hn, h => ⟨hm, hn, h⟩
  | p :: ps, v :: vs, _, t, tmps, hl, hok, .cons (b := y) h1 h2, hp, hm, hn, h => by
    simp only [okParts, Bool.and_eq_true] at hok
    simp only [allLt, Bool.and_eq_true, Nat.blt_eq] at hp
    simp only [List.zip_cons_cons, List.foldl_cons, lpArgs]
    refine lpArgs_rel (ps := ps) (by simpa using hl) hok.2 h2 hp.2 (by simp [hm]) (fun x d want u hx => ?_) (fun x u hx => ?_)
    · rw [getT_cons] at hx
      split at hx
      · injection hx with hx; exact okPart_notWh hok.1 d want u hx
      · exact hn x d want u hx
    · rw [getT_cons] at hx
      split at hx
      · rename_i hpx
        have hpx' : p = x := by simpa using hpx
        subst hpx'
        injection hx with hx; subst hx
        exact slot_of (y := y) (by simp [Array.getElem?_setIfInBounds_self_of_lt, hm, hp.1]) h1
      · rename_i hpx
        have hpx' : p ≠ x := by simpa using hpx
        have h0 := h x u hx
        have hnw : ∀ d want z, u ≠ .wh d want z := fun d want z e => hn x d want z (by rw [hx, e])
        have same : (tmps.setIfInBounds p y)[x]? = tmps[x]? := Array.getElem?_setIfInBounds_ne hpx'
        cases u with
        | wh d want z => exact absurd rfl (hnw d want z)
        | bad => trivial
        | _ => obtain ⟨y', a, b⟩ := h0; exact ⟨y', by show (tmps.setIfInBounds p y)[x]? = some y'; rw [same]; exact a, b⟩

theorem zip_foldl (ps : Array Tmp) (xs : List Value) (tmps : Array Value) : (ps.zip xs.toArray).foldl (fun tmps (t, a) => tmps.setIfInBounds t a) tmps = (ps.toList.zip xs).foldl (fun (tmps : Array Value) (p : Tmp × Value) => tmps.setIfInBounds p.1 p.2) tmps := by
  rw [← Array.foldl_toList, Array.toList_zip]

theorem roundEnd_spec {id n : Nat} {ls : LoopState} {pd : Option Code} {b : Bool} {r : GR} {rs : List V} {s' : List SObj} {D' : List (Nat × Bool)} {ob' : List Prop} (h : roundEnd id n ls pd b r = some (rs, s', D', ob')) :
    ∃ ls0 pd0 d f m t ps as bd, r.st.s[id]? = some (.lp ls0 pd0 d f m t ps as bd) ∧ rs = [.p (.bool b)] ∧ s' = trimS n [] (r.st.s.set id (.lp ls pd d f m t ps as bd)) ∧ ob' = r.obs := by
  unfold roundEnd at h
  split at h
  · rename_i e
    simp only [Option.some.injEq, Prod.mk.injEq] at h
    obtain ⟨rfl, rfl, rfl, rfl⟩ := h
    exact ⟨_, _, _, _, _, _, _, _, _, e, rfl, rfl, rfl⟩
  · cases h

theorem lp_get {κ κ' : List Place} {s s' : List SObj} {n id : Nat} {ls : LoopState} {pd : Option Code} {d : Nat} {f : FuncId} {m : Nat} {t : List (Nat × V)} {ps : Array Tmp} {as bd : Code} {pl : Place} (h : ExtN n κ s κ' s') (hi : id < n)
    (hs : s[id]? = some (.lp ls pd d f m t ps as bd)) (hk : κ[id]? = some pl) : ∃ pl', κ'[id]? = some pl' ∧ pl'.blk = pl.blk := by
  obtain ⟨_, _, _, pl', _, a, b⟩ := h.lp id ls pd d f m t ps as bd pl hi hs hk
  exact ⟨pl', a, b⟩

/-- A ROUND. -/
theorem roundC_sound (hpf : PSound C.P pf) (hgf : GSound C.P gf) {id : Nat} {s s' : List SObj} {vs rs : List V} {D D' : List (Nat × Bool)} {ob ob' : List Prop}
    (h : roundC C pf gf id s vs D ob = some (rs, s', D', ob')) (ho : allOf ob') : allOf ob ∧ ∃ b, rs = [.p (.bool b)] ∧ YCall C.P id s vs s' b := by
  unfold roundC at h
  split at h
  · rename_i ls0 pd0 d0 f m t ps as bd hs
    split at h
    · rename_i hc
      simp only [Bool.and_eq_true, Nat.beq_eq] at hc
      obtain ⟨⟨⟨⟨⟨hlen, hok⟩, hra⟩, hrb⟩, hnw⟩, hlt⟩ := hc
      split at h
      · rename_i r1 h1
        split at h
        · rename_i pd1 d1 f1 m1 t1 ps1 as1 bd1 hs1
          have hid := getElem?_lt hs
          have key : ∀ (e : Ex) (r2 : GR) (ls : LoopState) (jump : Option Code) (b : Bool), ((e = .normal ∧ jump = none ∧ ls = .ready ∧ b = true) ∨ (∃ j, e = .exit j ∧ jump = some (.exit j) ∧ ls = .done ∧ b = false) ∨ (e = .ret ∧ jump = some .ret ∧ ls = .done ∧ b = false)) →
              evC C pf gf f s.length bd { r1 with st := { r1.st with s := r1.st.s.set id (.lp .busy pd1 d1 f1 m1 t1 ps1 as1 bd1) } } = some (e, r2) → roundEnd id s.length ls jump b r2 = some (rs, s', D', ob') → allOf ob ∧ ∃ b, rs = [.p (.bool b)] ∧ YCall C.P id s vs s' b := by
            intro e r2 ls jump b hcase h2 h3
            obtain ⟨ls2, pd2, d2, f2, m2, t2, ps2, as2, bd2, hs2, rfl, rfl, rfl⟩ := roundEnd_spec h3
            obtain ⟨o1, hcode2⟩ := evC_sound hpf hgf bd h2 ho
            obtain ⟨o0, hcode1⟩ := evC_sound hpf hgf as h1 o1
            refine ⟨o0, b, rfl, fun ro U κ w vals hS hargs => ?_⟩
            have hkl : id < κ.length := by rw [hS.len]; exact hid
            refine ⟨κ[id], List.getElem?_eq_getElem hkl, ?_⟩
            generalize hpl : κ[id] = pl
            have hk : κ[id]? = some pl := by rw [← hpl]; exact List.getElem?_eq_getElem hkl
            obtain ⟨q1, q2, q3, q4, tmps, ⟨fn, Dd, a3⟩, a4, a5⟩ := hS.obj id _ pl hs hk
            have hvl := F2_len hargs
            have hy := run_yield (P := C.P) (args := vals.toArray) a3 (by simp; omega)
            refine ⟨fn, _, as, bd, hy, ?_⟩
            simp only [zip_foldl]
            obtain ⟨l1, l2, l3⟩ := lpArgs_rel (m := m) (ps := ps.toList) (by simp; omega) hok hargs hlt a4 (noWhB_spec hnw) a5
            generalize hT : (ps.toList.zip vals).foldl (fun (tmps : Array Value) (p : Tmp × Value) => tmps.setIfInBounds p.1 p.2) tmps = T0 at l1 l3
            refine roundIn_of_wpIn trivial ?_
            have hr0 : Rel U κ { n := m, t := lpArgs ps.toList vs t, s } { tmps := T0, defers := [] } w := ⟨hS, l1, .nil, l3⟩
            obtain ⟨n1, hcode1⟩ := hcode1 l2
            obtain ⟨_, hcode2⟩ := hcode2 n1
            refine wpIn_mono (hcode1 (some pl.blk) (.inr hra) U κ _ w hr0) ?_
            rintro x1 a1 w1 ⟨rfl, κ1, hr1, hst1, hx1⟩
            obtain ⟨pl1, k1, e1⟩ := lp_get hx1 hid hs hk
            obtain ⟨fn1, D1, tm1, hh1, hset1⟩ := hr1.store.setLp (ls' := .busy) (pd' := pd1) (t' := t1) hs1 k1 (.inl rfl)
            rw [e1] at hh1 hset1
            obtain ⟨hS2, hst2, hx2⟩ := hset1 _ rfl
            refine ⟨_, run_beginRound hh1 rfl, ?_⟩
            have hr2 := hr1.carry hS2 hst2 hx2
            refine wpIn_mono (hcode2 (some pl.blk) (.inr hrb) U κ1 a1 _ hr2) ?_
            rintro x2 a2 w2 ⟨rfl, κ2, hr3, hst3, hx3⟩
            have hx13 : ExtN s.length κ s κ2 r2.st.s := (hx1.trans (.of hx2)).trans hx3
            obtain ⟨pl2, k2, e2⟩ := lp_get hx13 hid hs hk
            obtain ⟨fn2, D2, tm2, hh2, hset2⟩ := hr3.store.setLp (ls' := ls) (pd' := jump) (t' := t2) hs2 k2 (.inl rfl)
            rw [e2] at hh2 hset2
            obtain ⟨hS4, hst4, hx4⟩ := hset2 _ rfl
            have hstep : Step U κ w κ2 _ := ((hst1.trans hst2).trans hst3).trans hst4
            have hext : Ext κ s κ2 _ := (hx13.trans (.of hx4)).ext (Nat.le_refl _)
            obtain ⟨κ3, t1', _, t3', t4'⟩ := trim_ok (rs := []) (xs := []) hS4 .nil hstep hext
            rcases hcase with ⟨rfl, rfl, rfl, rfl⟩ | ⟨j, rfl, rfl, rfl, rfl⟩ | ⟨rfl, rfl, rfl, rfl⟩
            · exact ⟨_, _, run_endRound none hh2, rfl, κ3, t1', t3', t4'⟩
            · exact ⟨_, _, run_endRound (some (.exit j)) hh2, rfl, κ3, t1', t3', t4'⟩
            · exact ⟨_, _, run_endRound (some .ret) hh2, rfl, κ3, t1', t3', t4'⟩
          split at h
          · rename_i r2 h2; exact key .normal r2 .ready none true (.inl ⟨rfl, rfl, rfl, rfl⟩) h2 h
          · rename_i j r2 h2; exact key (.exit j) r2 .done (some (.exit j)) false (.inr (.inl ⟨j, rfl, rfl, rfl, rfl⟩)) h2 h
          · rename_i r2 h2; exact key .ret r2 .done (some .ret) false (.inr (.inr ⟨rfl, rfl, rfl, rfl⟩)) h2 h
          · cases h
        · cases h
      · cases h
    · cases h
  · cases h

theorem callC_sound (hC : KOk C) : ∀ d, GSound C.P (callC C d)
  | 0 => by intro f s vs D ob rs s' D' ob' h; simp [callC] at h
  | d + 1 => by
    intro f s vs D ob rs s' D' ob' h ho
    have ih := callC_sound hC d
    simp only [callC] at h
    split at h
    · rename_i hy
      obtain ⟨o0, b, e, hr⟩ := roundC_sound (pureC_sound hC.K ih) ih h ho
      exact ⟨o0, by unfold GC; rw [hy]; exact ⟨b, e, hr⟩⟩
    · rename_i hy
      refine And.imp_right (GC.of hy) ?_
      split at h
      · rename_i rs1 s1 e
        simp only [Option.some.injEq, Prod.mk.injEq] at h
        obtain ⟨rfl, rfl, rfl, rfl⟩ := h
        exact ⟨ho, hC.KG _ _ _ _ _ e⟩
      · split at h
        · rename_i rs1 e
          simp only [Option.bind_eq_some_iff] at e
          obtain ⟨ts, e1, e2⟩ := e
          simp only [Option.some.injEq, Prod.mk.injEq] at h
          obtain ⟨rfl, rfl, rfl, rfl⟩ := h
          rw [allP_map e1]
          exact ⟨ho, GCall.of_pure (hC.K _ _ _ e2)⟩
        · exact funC_sound hC.names (pureC_sound hC.K ih) ih h ho

/-- A run of one function, its loops told. -/
def topC (C : GCtx) (d : Nat) (f : FuncId) (s : List SObj) (vs : List V) (D : List (Nat × Bool)) (L : List (Option (List Nat × Ex × St))) (Q : List (List V × List SObj) := []) (QP : List (List T) := []) (W : List Told := []) : Option (List V × List SObj × List Prop) :=
  match funC C (pureC C (callC C d)) (callC C d) f s vs D L [] Q QP W with
  | some (rs, s', [], ob) => some (rs, s', ob)
  | _ => none

theorem topC_sound (hC : KOk C) {d : Nat} {f : FuncId} {s s' : List SObj} {vs rs : List V} {D : List (Nat × Bool)} {L : List (Option (List Nat × Ex × St))} {Q : List (List V × List SObj)} {QP : List (List T)} {W : List Told} {ob : List Prop} (h : topC C d f s vs D L Q QP W = some (rs, s', ob)) (ho : allOf ob) : GCall C.P f s vs s' rs := by
  unfold topC at h
  split at h
  · rename_i rs1 s1 ob1 e
    simp only [Option.some.injEq, Prod.mk.injEq] at h
    obtain ⟨rfl, rfl, rfl⟩ := h
    exact (funC_sound hC.names (pureC_sound hC.K (callC_sound hC d)) (callC_sound hC d) e ho).2
  · cases h

/-- A body's run: where it comes out, cut to some slots. -/
def bodyC (C : GCtx) (d : Nat) (f : FuncId) (n : Nat) (c : Code) (st : St) (D : List (Nat × Bool)) (L : List (Option (List Nat × Ex × St))) (k : List Nat) (Q : List (List V × List SObj) := []) (QP : List (List T) := []) (W : List Told := []) : Option (Ex × St × List Prop) :=
  match evC C (pureC C (callC C d)) (callC C d) f n c { st, D, obs := [], L, Q, QP, W } with
  | some (e, r) => match r.D, r.L with
    | [], [] => if noWhB st.t then some (e, { r.st with t := cutT' k r.st.t }, r.obs) else none
    | _, _ => none
  | none => none

theorem bodyC_sound (hC : KOk C) {d : Nat} {f : FuncId} {n : Nat} {c : Code} {st st' : St} {D : List (Nat × Bool)} {L : List (Option (List Nat × Ex × St))} {k : List Nat} {Q : List (List V × List SObj)} {QP : List (List T)} {W : List Told} {e : Ex} {ob : List Prop} (h : bodyC C d f n c st D L k Q QP W = some (e, st', ob)) (ho : allOf ob) : CodeG C.P n c st e st' := by
  unfold bodyC at h
  split at h
  · rename_i e1 r h1
    split at h
    · split at h
      · rename_i hw
        simp only [Option.some.injEq, Prod.mk.injEq] at h
        obtain ⟨rfl, rfl, rfl⟩ := h
        obtain ⟨_, hc⟩ := evC_sound (pureC_sound hC.K (callC_sound hC d)) (callC_sound hC d) c h1 ho
        obtain ⟨_, hc⟩ := hc (noWhB_spec hw)
        intro ro hro U κ a w hr
        refine wpIn_mono (hc ro hro U κ a w hr) (fun x a' w' hq => ?_)
        obtain ⟨q1, κ', q2, q3, q4⟩ := hq
        exact ⟨q1, κ', q2.cut, q3, q4⟩
      · cases h
    · cases h
  · cases h

/-- A closed run. -/
def runC (C : GCtx) (d : Nat) (f : FuncId) (ts : List T) (D : List (Nat × Bool)) : Option (List T × List Prop) :=
  match callC C d f [] (ts.map .p) D [] with
  | some (rs, s', [], ob) => match (match Nat.ble yB f with | true => none | false => unplace 64 s' rs) with
    | some ts' => some (ts', ob)
    | none => none
  | _ => none

theorem runC_sound (hC : KOk C) {d : Nat} {f : FuncId} {ts rs : List T} {D : List (Nat × Bool)} {ob : List Prop} (h : runC C d f ts D = some (rs, ob)) (ho : allOf ob) : PCall C.P f ts rs := by
  unfold runC at h
  split at h
  · rename_i rs' s' ob' e
    split at h
    · rename_i ts' hu
      injection h with h; simp only [Prod.mk.injEq] at h; obtain ⟨rfl, rfl⟩ := h
      split at hu
      · cases hu
      · rename_i hy
        exact ((callC_sound hC d _ _ _ _ _ _ _ _ _ e ho).2.call hy).pure hu
    · cases h
  · cases h

end Go.HM
