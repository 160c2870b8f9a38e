/- HN, part W: code of a function, and of a round of a range over a function: which differ in the frame alone. -/
import Derived.Test.YtaghnihkkofmnaaGreatHnV
import Derived.OrdersIn
import Derived.LoopNIn
namespace Go.HM

/-- Everything is let in; 'ro': in a round of which loop. -/
def FW (ro : Option Nat) : Fence := { Fence.wide with round := ro }

theorem FW_none : FW none = Fence.wide := rfl

/-- No range over a function. -/
def noRF : Code → Bool
  | .region _ _ _ => true
  | .seq a b => noRF a && noRF b
  | .cond _ a b => noRF a && noRF b
  | .block _ c => noRF c
  | .loop c => noRF c
  | .scope c => noRF c
  | .skip => true
  | .label _ => true
  | .exit _ => true
  | .ret => true
  | _ => false

variable {P : Program} {Q : Exit → Act → World → Prop} {ro : Option Nat}

theorem callsIn_FW {n : Nat} {f : FuncId} {args : Array Value} {w : World} {R : Ending → World → Prop} (h : Calls P f args w R) : CallsIn (FW ro) n P f args w R :=
  (callsIn_wide (n := n)).2 h

theorem oper_in {n : Nat} {o : Oper} {a : Act} {w : World} {K : Act → World → Prop} (hd : ∀ c, o.op ≠ .defer c) (h : o.wp P a w K Q) : o.wpIn (FW ro) n P a w K Q := by
  refine ⟨fun _ _ => trivial, ?_⟩
  rw [Oper.semAt_eq _ _ _ hd]
  unfold Oper.wp at h
  generalize (execOp a.eval o).run P w = r at h
  cases r with
  | ok x w' =>
    cases x with
    | value v => exact h
    | skip => exact h
    | defer d => exact h
    | enter f args =>
      refine ⟨fun e => (by cases e), ?_⟩
      refine (callsIn_FW h).mono fun e w'' he => ?_
      cases e <;> exact he
    | row row args =>
      refine ⟨fun e => (by cases e), fun c cs _ => ?_⟩
      obtain ⟨v, w'', q, r⟩ := h c cs
      exact ⟨v, w'', q, stepsIn_wide.2 r⟩
    | _ => exact h.elim
  | halt x w' => cases x <;> exact h

/-- What gives a value is no defer. -/
theorem not_defer {o : Oper} {ρ : Operand → Value} {w w' : World} {nx : Next} (h : (execOp ρ o).run P w = .ok nx w') (hn : (∃ x, nx = .value x) ∨ nx = .skip) : ∀ c, o.op ≠ .defer c := by
  intro c hc
  unfold execOp at h
  simp only [hc] at h
  rw [Sem.run_bind] at h
  generalize (resolve ρ c o.type).run P w = r at h
  cases r with
  | ok d w1 =>
    simp only [Result.andThen_ok, Sem.run_pure] at h
    rcases hn with ⟨x, rfl⟩ | rfl <;> cases h
  | halt x w1 => cases h

/-- A region, in whatever order is drawn. -/
def RegW (P : Program) (ro : Option Nat) (ops : Array Oper) (draw : Bool) (Q : Exit → Act → World → Prop) (a : Act) (w : World) : Prop := match draw with
  | false => wpOpsIn (FW ro) 0 P ops Q (List.range ops.size) a w
  | true => P.follows .mixedOrders = true ∧ wpAnyIn (FW ro) 0 P .any ops Q ops.size (Array.replicate ops.size false) a { w with drawn := w.drawn + 1 }

theorem RegW.wpIn {rid : Nat} {ops : Array Oper} {draw : Bool} {a : Act} {w : World} (h : RegW P ro ops draw Q a w) : (Code.region rid ops draw).wpIn (FW ro) 0 P Q a w := by
  cases draw with
  | false => exact wpIn_region h
  | true => exact wpIn_region_any h.1 h.2

theorem wpIn_scope_straight {n : Nat} {c : Code} {a : Act} {w : World} (h : c.wpIn (FW ro) n P (Exit.noGoto Q) a w) : (Code.scope c).wpIn (FW ro) n P Q a w := by
  intro b k cs hro hb hr
  have s1 : step P (lone (b.atR a (.code (.scope c) :: k)) cs w) = .next (lone (b.atR a (.code c :: .inScope c :: k)) cs w) := step_lone_go (by simp [stepG, stepG.exec, Frame.atR])
  obtain ⟨e, a₁, w₁, hq, harr⟩ := h b (.inScope c :: k) cs hro hb hr
  have s2 : step P (lone (b.atR a₁ (.inScope c :: k)) cs w₁) = .next (lone (b.atR a₁ k) cs w₁) := step_lone_go (by simp [stepG, stepG.exec, Frame.atR])
  have t1 : StepsIn (Machine.fenced P (FW ro)) P (lone (b.atR a (.code (.scope c) :: k)) cs w) (lone (b.atR a (.code c :: .inScope c :: k)) cs w) := .one (fenced_calm hb hr rfl) s1
  have t2 : StepsIn (Machine.fenced P (FW ro)) P (lone (b.atR a₁ (.inScope c :: k)) cs w₁) (lone (b.atR a₁ k) cs w₁) := .one (fenced_calm hb hr rfl) s2
  cases e with
  | normal => exact ⟨.normal, a₁, w₁, hq, StepsIn.trans t1 (StepsIn.trans harr t2)⟩
  | exit id => exact ⟨.exit id, a₁, w₁, hq, fun k' hk => StepsIn.trans t1 (harr.1 k' (by simp [exitTo, hk])), fun hs he => let ⟨k₁, h1, h2⟩ := harr.2 hs (by simp [exitTo, he]); ⟨k₁, h1, StepsIn.trans t1 h2⟩⟩
  | goto l => exact hq.elim
  | ret => exact ⟨.ret, a₁, w₁, hq, fun h => let ⟨t, h2⟩ := harr.1 h; ⟨t, StepsIn.trans t1 h2⟩, fun h => let ⟨k₁, h2⟩ := harr.2 h; ⟨k₁, StepsIn.trans t1 h2⟩⟩
  | panic ch => exact ⟨.panic ch, a₁, w₁, hq, let ⟨t, h2⟩ := harr; ⟨t, StepsIn.trans t1 h2⟩⟩
  | outgrown => exact ⟨.outgrown, a₁, w₁, hq, .of_steps (k := k) t1 harr⟩

theorem roundsIn_mono {n : Nat} {c : Code} {Q' : Exit → Act → World → Prop} (hq : ∀ e a w, Q e a w → Q' e a w) : ∀ {k : Nat} {a : Act} {w : World}, Code.roundsIn (FW ro) n P c Q k a w → Code.roundsIn (FW ro) n P c Q' k a w
  | 0, _, _, h => h
  | k + 1, a, w, h => by
    rw [roundsIn_succ] at h ⊢
    refine wpIn_mono h (fun e a' w' he => ?_)
    cases e with
    | normal => exact roundsIn_mono hq he
    | exit id => exact hq _ _ _ he
    | goto l => exact hq _ _ _ he
    | ret => exact hq _ _ _ he
    | panic ch => exact hq _ _ _ he
    | outgrown => exact hq _ _ _ he

theorem noRF_l {x y : Code} (h : ro = none ∨ noRF (.seq x y) = true) : ro = none ∨ noRF x = true := h.imp id fun h => by
  simp only [noRF, Bool.and_eq_true] at h; exact h.1
theorem noRF_r {x y : Code} (h : ro = none ∨ noRF (.seq x y) = true) : ro = none ∨ noRF y = true := h.imp id fun h => by
  simp only [noRF, Bool.and_eq_true] at h; exact h.2
theorem noRF_t {c : Operand} {x y : Code} (h : ro = none ∨ noRF (.cond c x y) = true) : ro = none ∨ noRF x = true := h.imp id fun h => by
  simp only [noRF, Bool.and_eq_true] at h; exact h.1
theorem noRF_f {c : Operand} {x y : Code} (h : ro = none ∨ noRF (.cond c x y) = true) : ro = none ∨ noRF y = true := h.imp id fun h => by
  simp only [noRF, Bool.and_eq_true] at h; exact h.2

end Go.HM
