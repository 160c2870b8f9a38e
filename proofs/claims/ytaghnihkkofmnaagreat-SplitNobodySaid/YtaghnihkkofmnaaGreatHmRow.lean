/- HM: a law that gives 'true' and leaves its arguments as they were. -/
import Derived.Test.YtaghnihkkofmnaaGreatHmEnd
import Derived.Carry
import Derived.ChangeSame
import Derived.Below
namespace Go.HM
open Go.ChangeShapes Go.WideShapes Go.ChangeAt Go.RowKit

section
variable {H : Type} {enc : TypeId × Value → H} {P : Program} {W : World} {base : Nat}

theorem cell_spotless {r : Reach} {t : TypeId} {v : Value} (h : Cell.okWide P W r base t v) : spotless v := by
  intro a n c e
  subst e
  unfold Cell.okWide at h
  split at h
  all_goals first
    | contradiction
    | (unfold Cell.ok at h
       split at h
       all_goals first
         | contradiction
         | exact h.elim
         | (rename_i e; cases e; exact h.2.2.2.1)
         | (rename_i e _; cases e; exact h.2.2.2.1)
         | (simp_all [World.has]; done))

theorem value_spotless {t : TypeId} {v : Value} (h : Value.okWide P W .any base t v) : ∀ x ∈ v.cells.toList, spotless x := by
  unfold Value.okWide at h
  have row : ∀ cs, v = .agg cs → Row.okWide P W .any base t cs → ∀ x ∈ v.cells.toList, spotless x := by
    rintro cs rfl ⟨ts, _, _, hr⟩ x hx
    simp only [Value.cells] at hx
    obtain ⟨i, hi⟩ := List.getElem?_of_mem hx
    obtain ⟨u, _, hu⟩ := hr i x (by simpa using hi)
    exact cell_spotless hu
  split at h
  · obtain ⟨cs, e, _, hr⟩ := h; exact row cs e hr
  · obtain ⟨cs, e, _, hr⟩ := h; exact row cs e hr
  · intro x hx
    cases v with
    | agg cs => unfold Cell.okWide at h; split at h <;> first | contradiction | (unfold Cell.ok at h; split at h <;> first | contradiction | exact h.elim)
    | _ =>
      simp only [Value.cells, List.mem_singleton] at hx
      first
        | (subst hx; exact cell_spotless h)
        | (intro a n c e; subst e; simp_all)

theorem cell_notagg {r : Reach} {t : TypeId} {v : Value} (h : Cell.okWide P W r base t v) : isAggV v = false := by
  cases v with
  | agg cs => unfold Cell.okWide at h; split at h <;> first | contradiction | (unfold Cell.ok at h; split at h <;> first | contradiction | exact h.elim)
  | _ => rfl

theorem agg_match {d : Nat} {t : TypeId} {s : Sh} {x : T} {v : Value} (hs : shOf P d t = some s) (hx : HasSh s x) (h : Value.okWide P W .any base t v) : isAggV v = x.isAgg := by
  cases d with
  | zero => simp [shOf] at hs
  | succ d =>
    simp only [shOf] at hs
    unfold Value.okWide at h
    split at hs
    · rename_i hu; rw [hu] at h; injection hs with hs; subst hs
      obtain ⟨b, rfl⟩ := hx
      exact cell_notagg h
    · rename_i k hu; rw [hu] at h; injection hs with hs; subst hs
      obtain ⟨n, rfl, _⟩ := hx
      exact cell_notagg h
    · rename_i hu; rw [hu] at h; injection hs with hs; subst hs
      obtain ⟨n, rfl, _⟩ := hx
      exact cell_notagg h
    · rename_i fs hu
      rw [hu] at h
      obtain ⟨cs, rfl, _⟩ := h
      split at hs
      · split at hs
        · injection hs with hs; subst hs
          obtain ⟨xs, rfl, _⟩ := hx
          rfl
        · cases hs
      · cases hs
    · rename_i n e hu
      rw [hu] at h
      obtain ⟨cs, rfl, _⟩ := h
      split at hs
      · injection hs with hs; subst hs
        obtain ⟨bs, rfl, _⟩ := hx
        rfl
      · cases hs
    · rename_i e hu
      rw [hu] at h
      split at hs
      · cases hs
      · split at hs
        · split at hs
          · injection hs with hs; subst hs
            obtain ⟨f, bs, rfl, _⟩ := hx
            exact cell_notagg h
          · cases hs
        · split at hs
          · injection hs with hs; subst hs
            obtain ⟨f, bs, rfl, _⟩ := hx
            exact cell_notagg h
          · cases hs
    · cases hs

def shsOf (P : Program) : List TypeId → Option (List Sh)
  | [] => some []
  | t :: ts => match shOf P 12 t, shsOf P ts with | some s, some ss => some (s :: ss) | _, _ => none

theorem args_trees {sp : Nat → Bool} {held : Bool} : ∀ {ts : List TypeId} {vs : List Value} {ds : List (DataW H)} {ps : List MemPlace} {ss : List Sh}, DataW.TrodAll enc P W 0 sp held ts vs ds ps → shsOf P ts = some ss →
    (∀ (j : Nat) t v, ts[j]? = some t → vs[j]? = some v → Value.okWide P W .any base t v) → ∃ xs, HasShs ss xs ∧ F2 (TV W okAll) xs vs
  | [], vs, ds, ps, ss, h, hs, _ => by
    obtain ⟨rfl, rfl, rfl⟩ := trodAll_nil h
    simp only [shsOf, Option.some.injEq] at hs
    subst hs
    exact ⟨[], rfl, .nil⟩
  | t :: ts, vs, ds, ps, ss, h, hs, hv => by
    obtain ⟨v, vs', d, ds', p, q, rfl, rfl, rfl, h0, h1⟩ := trodAll_cons h
    simp only [shsOf] at hs
    split at hs
    · rename_i s ss' e1 e2
      injection hs with hs; subst hs
      have hok := hv 0 t v rfl rfl
      obtain ⟨xs, a, b⟩ := args_trees h1 e2 (fun j t' v' ht hv' => hv (j + 1) t' v' (by simpa using ht) (by simpa using hv'))
      obtain ⟨fuel, hf⟩ := h0
      obtain ⟨y, y1, y2⟩ := trod_sh 12 t s e1 fuel _ _ hf
      exact ⟨y :: xs, ⟨y, xs, rfl, y1, a⟩, .cons ⟨y2, agg_match e1 y1 hok⟩ b⟩
    · cases hs

theorem Kept.below {w w' : World} (h : Kept [] w w') : Below w.heap.size w w' := ⟨h.os, h.tape, h.output, h.size, fun k hk => h.block k hk (by simp)⟩

theorem trodAll_stays (hl : laidOutB P = true) {W' : World} (hb : Below W.heap.size W W') {sp : Nat → Bool} : ∀ {ts : List TypeId} {vs : List Value} {ds : List (DataW H)} {ps : List MemPlace},
    (ts.all fun t => P.readableRec t && decide (t < P.types.size)) = true → DataW.TrodAll enc P W 0 (fun _ => true) true ts vs ds ps → (∀ x ∈ ps, x.block < W.heap.size) → (∀ x ∈ ps, sp x.block = true) → DataW.TrodAll enc P W' 0 sp true ts vs ds ps
  | [], vs, ds, ps, _, h, _, _ => by
    obtain ⟨rfl, rfl, rfl⟩ := trodAll_nil h
    exact trodAll_mk0
  | t :: ts, vs, ds, ps, hr, h, hlt, hsp => by
    obtain ⟨v, vs', d, ds', p, q, rfl, rfl, rfl, h0, h1⟩ := trodAll_cons h
    simp only [List.all_cons, Bool.and_eq_true, decide_eq_true_eq] at hr
    refine trodAll_cons_mk (WideElems.Trod_stays hl hr.1.1 hr.1.2 h0 (fun x hx => hb.same (hlt x (by simp [hx]))) (fun x hx => hsp x (by simp [hx]))) ?_
    exact trodAll_stays hl hb (by simpa using hr.2) h1 (fun x hx => hlt x (by simp [hx])) (fun x hx => hsp x (by simp [hx]))

theorem post_below {f : Func} {s : ChangeSpec} {apart fresh handsOn again : Bool} {W W' : World} {args : Array Value} {v : Value} {ds gs : List (DataW H)} {before pa pv : List MemPlace}
    (hW : DataW.Whole enc P f.params.toList s.vars apart W args.toList ds gs before)
    (hres : ∀ (b : Nat) (sp : Nat → Bool) (hd : Bool), DataW.TrodAll enc P W' b sp hd f.resultTypes.toList (v.resultList f.resultTypes.size) (s.fn H (ds ++ gs)).results [])
    (hargs : ∀ sp : Nat → Bool, (∀ p ∈ before, sp p.block = true) → DataW.TrodAll enc P W' 0 sp true f.params.toList args.toList (s.fn H (ds ++ gs)).args pa)
    (hvars : ∀ sp : Nat → Bool, (∀ p ∈ before, sp p.block = true) → DataW.TrodVars enc P W' sp s.vars (s.fn H (ds ++ gs)).vars pv)
    (hps : before = pa ++ pv) (hb : Below W.heap.size W W')
    (hok : ∀ (j : Nat) (t : TypeId) (r : Value), f.resultTypes[j]? = some t → (v.resultList f.resultTypes.size)[j]? = some r → Value.okWide P W' .any 0 t r) :
    s.post enc P f apart fresh handsOn again W args v W' := by
  have hlt : ∀ p ∈ before, p.block < W.heap.size := fun p hp => hW.lt p hp
  have hold : ∀ p ∈ before, (fun b => decide (b < W.heap.size)) p.block = true := fun p hp => by simpa using hlt p hp
  refine ⟨ds, gs, before, [], pa, pv, hW, hres _ _ _, hargs _ hold, hvars _ hold, World.keptBut_mono (fun p hp => ⟨hp, ?_⟩) (hb.frame (· ∈ before)), fun _ => ?_⟩
  · rw [hps, List.mem_append] at hp
    exact Or.inr hp
  · obtain ⟨_, _, _, _, _, hz, hn⟩ := hW
    refine ⟨hok, _, _, ([] ++ pa) ++ pv, ⟨[] ++ pa, pv, trodAll_append (hargs _ (fun _ _ => rfl)) (hres _ _ _), hvars _ (fun _ _ => rfl), rfl, ?_, ?_⟩, ?_⟩
    · intro b off hp
      have hin : MemPlace.cell b off ∈ before := by rw [hps]; simpa using hp
      rw [hb.frozen (hlt _ hin)]
      exact hz b off hin
    · intro ha
      have := hn ha
      rw [hps] at this
      simpa using this
    · intro p hp _
      rw [hps]
      simpa using hp

theorem trodAll_len {sp : Nat → Bool} {held : Bool} : ∀ {ts : List TypeId} {vs : List Value} {ds : List (DataW H)} {ps : List MemPlace}, DataW.TrodAll enc P W 0 sp held ts vs ds ps → ds.length = ts.length
  | [], vs, ds, ps, h => by obtain ⟨rfl, rfl, rfl⟩ := trodAll_nil h; rfl
  | t :: ts, vs, ds, ps, h => by
    obtain ⟨v, vs', d, ds', p, q, rfl, rfl, rfl, h0, h1⟩ := trodAll_cons h
    simp [trodAll_len h1]

/-- THE CONTRACT OF A LAW: true, whatever it is handed. -/
theorem law_contract {K : FuncId} {fn : Func} {s : ChangeSpec} {ss : List Sh} {bt : TypeId} {n : Nat} (hl : laidOutB P = true) (hsh : shsOf P fn.params.toList = some ss)
    (hrd : (fn.params.toList.all fun t => P.readableRec t && decide (t < P.types.size)) = true) (hn : fn.params.toList.length = n) (hres : fn.resultTypes = #[bt]) (hbt : P.underlying bt = some .bool) (hvars : s.vars = [])
    (hfn : ∀ (H : Type) (ds : List (DataW H)), ds.length = n → (s.fn H (ds ++ [])).results = [.lit (.bool true)] ∧ (s.fn H (ds ++ [])).args = ds ∧ (s.fn H (ds ++ [])).vars = [])
    (hP : ∀ xs, HasShs ss xs → PCall P K xs [.bool true])
    {args : Array Value} {ds gs : List (DataW H)} {before : List MemPlace}
    (hval : ∀ (j : Nat) t v, fn.params[j]? = some t → args[j]? = some v → Value.okWide P W .any base t v)
    (hW : DataW.Whole enc P fn.params.toList s.vars false W args.toList ds gs before) (hG : GlobU W okAll := by intro g t h; cases h) :
    Calls P K args W fun e W' => ∃ v, e = .returned v ∧ s.post enc P fn false true false false W args v W' := by
  have hW' := hW
  obtain ⟨p, q, hA, hV, rfl, hfz, hnd⟩ := hW
  rw [hvars] at hV
  obtain ⟨rfl, rfl⟩ := trodVars_none hV
  obtain ⟨xs, hx, hF⟩ := args_trees (base := base) hA hsh (fun j t v ht hv => hval j t v (by simpa using ht) (by simpa using hv))
  have hlen : ds.length = n := by rw [trodAll_len hA, hn]
  obtain ⟨f1, f2, f3⟩ := hfn H ds hlen
  have hc := (hP xs hx).2 okAll W args.toList ⟨fun _ _ _ => trivial, hG⟩ hF
  rw [show args.toList.toArray = args by simp] at hc
  refine hc.mono fun e W' ⟨v, he, hr, hk⟩ => ?_
  have hv : v = .bool true := by
    have h1 : TV W' okAll (.bool true) v := hr
    have h2 := h1.cell rfl
    cases h2
    rfl
  subst hv
  have hb := Kept.below hk
  have hlt : ∀ x ∈ p, x.block < W.heap.size := fun x hx => hW'.lt x (by simp [hx])
  refine ⟨_, he, post_below (pa := p) (pv := []) hW' ?_ ?_ ?_ rfl hb (ok_one hres rfl (okWide_bool_mk hbt _))⟩
  · intro b sp hd
    rw [f1, hres]
    exact trodAll_mk1 (shut_bool hbt true)
  · intro sp hsp
    rw [f2]
    exact trodAll_stays hl hb hrd hA hlt (fun x hx => hsp x (by simp [hx]))
  · intro sp _
    rw [f3, hvars]
    rfl

end
end Go.HM
