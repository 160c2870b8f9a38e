/- HM, part Z: loops by their bodies. -/
import Derived.Test.YtaghnihkkofmnaaGreatHmY
namespace Go.HM

/-- The bodies of the loops, as they come in the text; an outer one ahead of what lies in it. -/
def loops : Code → List Code
  | .seq a b => loops a ++ loops b
  | .cond _ x y => loops x ++ loops y
  | .block _ c => loops c
  | .scope c => loops c
  | .loop c => c :: loops c
  | _ => []

def loopAt (fn : Func) (k : Nat) : Code := match fn.body with
  | some c => (loops c).getD k .skip
  | none => .skip

/-- A body's path: where it comes out, what is kept of the state, what is owed. -/
def evB (P : Program) (c : Code) (st : St) (orc : List Orc) (k : Keep) : Option (Ex × St × List Prop) :=
  match ev P c { st, orc, obs := [] } with
  | some (e, r) => match r.orc with
    | [] => some (e, r.st.weak k, r.obs)
    | _ => none
  | none => none

theorem evB_sound {P : Program} {c : Code} {st st' : St} {orc : List Orc} {k : Keep} {e : Ex} {obs : List Prop} (h : evB P c st orc k = some (e, st', obs)) (ho : allOf obs) : CodeR P c st e st' := by
  unfold evB at h
  split at h
  · rename_i e1 r h1
    split at h
    · injection h with h; injection h with h2 h3; injection h3 with h3 h4
      subst h2 h3 h4
      have hc := (ev_sound c h1 ho).2
      intro U κ a w hr
      refine wp_mono (hc U κ a w hr) (fun x a' w' hq => ?_)
      obtain ⟨q1, κ', q2, q3⟩ := hq
      obtain ⟨r2, s2⟩ := weak_rel q2 k
      exact ⟨q1, _, r2, q3.trans s2⟩
    · cases h
  · cases h

/-- One round, then the rest. -/
theorem LoopR.next {P : Program} {c : Code} {st st1 st' : St} {e : Ex} (h : CodeR P c st .normal st1) (hl : LoopR P c st1 e st') : LoopR P c st e st' := by
  obtain ⟨n, hl⟩ := hl
  refine ⟨n + 1, fun U κ a w hr => ?_⟩
  rw [rounds_succ]
  refine wp_mono (h U κ a w hr) (fun x a' w' hx => ?_)
  obtain ⟨rfl, κ1, hr1, hs1⟩ := hx
  exact rounds_mono (fun e a w hq => hq.step hs1) (hl U _ a' w' hr1)

theorem evB_next {P : Program} {c : Code} {st st1 st' : St} {orc : List Orc} {k : Keep} {e : Ex} {obs : List Prop} (h : evB P c st orc k = some (.normal, st1, obs)) (ho : allOf obs) (hl : LoopR P c st1 e st') : LoopR P c st e st' :=
  LoopR.next (evB_sound h ho) hl

theorem evB_leave {P : Program} {c : Code} {st st' : St} {orc : List Orc} {k : Keep} {e : Ex} {obs : List Prop} (h : evB P c st orc k = some (e, st', obs)) (ho : allOf obs) (he : e ≠ .normal) : LoopR P c st e st' :=
  LoopR.leave (evB_sound h ho) he

end Go.HM
namespace Go.HM

/-- A loop over a list, told by its rounds: 'inl': on, 'inr': out. -/
def runL {α σ : Type} (step : σ → Nat → α → σ ⊕ (Ex × St)) (fin : σ → Ex × St) : List α → Nat → σ → Ex × St
  | [], _, s => fin s
  | x :: r, i, s => match step s i x with
    | .inl s' => runL step fin r (i + 1) s'
    | .inr o => o

theorem loop_list {P : Program} {c : Code} {α σ : Type} (l : List α) (S : σ → Nat → St) (step : σ → Nat → α → σ ⊕ (Ex × St)) (fin : σ → Ex × St) (Inv : σ → Nat → Prop)
    (hgo : ∀ s i x s', Inv s i → l[i]? = some x → step s i x = .inl s' → Inv s' (i + 1) ∧ CodeR P c (S s i) .normal (S s' (i + 1)))
    (hstop : ∀ s i x o, Inv s i → l[i]? = some x → step s i x = .inr o → o.1 ≠ .normal ∧ CodeR P c (S s i) o.1 o.2)
    (hend : ∀ s, Inv s l.length → (fin s).1 ≠ .normal ∧ CodeR P c (S s l.length) (fin s).1 (fin s).2) :
    ∀ s, Inv s 0 → LoopR P c (S s 0) (runL step fin l 0 s).1 (runL step fin l 0 s).2 := by
  have key : ∀ (r : List α) (i : Nat) (s : σ), l.drop i = r → i ≤ l.length → Inv s i → LoopR P c (S s i) (runL step fin r i s).1 (runL step fin r i s).2 := by
    intro r
    induction r with
    | nil =>
      intro i s h hi hI
      have : i = l.length := by
        have := congrArg List.length h
        simp at this
        omega
      subst this
      obtain ⟨a, b⟩ := hend s hI
      exact LoopR.leave b a
    | cons x r ih =>
      intro i s h hi hI
      have hx : l[i]? = some x := by
        have := congrArg (·[0]?) h
        simpa using this
      have hlt : i < l.length := by
        rcases Nat.lt_or_ge i l.length with q | q
        · exact q
        · rw [List.getElem?_eq_none q] at hx; cases hx
      simp only [runL]
      split
      · rename_i s' hs
        obtain ⟨a, b⟩ := hgo s i x s' hI hx hs
        refine LoopR.next b (ih (i + 1) s' ?_ hlt a)
        have := congrArg List.tail h
        simpa [List.tail_drop] using this
      · rename_i o hs
        obtain ⟨a, b⟩ := hstop s i x o hI hx hs
        exact LoopR.leave b a
  exact fun s hI => key l 0 s rfl (Nat.zero_le _) hI

theorem wrap64 {x : Int} (h : -9223372036854775808 ≤ x) (k : x ≤ 9223372036854775807) : IntKind.i64.wrap x = x := by
  simp [IntKind.wrap, IntKind.bits, IntKind.signed]
  omega

theorem el_map {α : Type} {f : α → T} {l : List α} {i : Nat} {x : α} (h : l[i]? = some x) : 0 ≤ (i : Int) ∧ (l.map f)[(i : Int).toNat]? = some (f x) := by
  simp [h]

theorem lt_len {α β : Type} {f : α → β} {l : List α} {i : Nat} {x : α} (h : l[i]? = some x) : decide ((i : Int) < ((l.map f).length : Int)) = true := by
  have : i < l.length := by
    rcases Nat.lt_or_ge i l.length with q | q
    · exact q
    · rw [List.getElem?_eq_none q] at h; cases h
  simp; omega

end Go.HM
