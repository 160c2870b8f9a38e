/- HN, part A: calls that take the caller's memory: what they are, one step of a region. -/
import Derived.Test.YtaghnihkkofmnaaGreatHnW
import Derived.RangeFuncIn
namespace Go.HM

variable {P : Program} {U : Nat → Nat → Prop} {κ : List Place} {s : List SObj} {w : World} {ok : Nat → Nat → Prop}

theorem Ext.trans {κ κ' κ'' : List Place} {s s' s'' : List SObj} (h : Ext κ s κ' s') (k : Ext κ' s' κ'' s'') : Ext κ s κ'' s'' where
  box := fun id v pl a b => by
    obtain ⟨v', pl', c, d, e⟩ := h.box id v pl a b
    obtain ⟨v'', pl'', c', d', e'⟩ := k.box id v' pl' c d
    exact ⟨v'', pl'', c', d', e'.trans e⟩
  map := fun id v pl a b => by
    obtain ⟨v', pl', c, d, e⟩ := h.map id v pl a b
    obtain ⟨v'', pl'', c', d', e'⟩ := k.map id v' pl' c d
    exact ⟨v'', pl'', c', d', e'.trans e⟩
  row := fun id cur e a => by
    obtain ⟨c1, a1, b1, d1⟩ := h.row id cur e a
    obtain ⟨c2, a2, b2, d2⟩ := k.row id c1 e a1
    exact ⟨c2, a2, Nat.le_trans b1 b2, fun q => (d2 (by omega)).trans (d1 (by omega))⟩
  vec := fun id cur v a => by
    obtain ⟨c1, v1, a1, b1, d1⟩ := h.vec id cur v a
    obtain ⟨c2, v2, a2, b2, d2⟩ := k.vec id c1 v1 a1
    exact ⟨c2, v2, a2, Nat.le_trans b1 b2, fun q => (d2 (by omega)).trans (d1 (by omega))⟩
  lp := fun id ls pd d f n t ps as bd pl a b => by
    obtain ⟨ls', pd', t', pl', c, x, e⟩ := h.lp id ls pd d f n t ps as bd pl a b
    obtain ⟨ls'', pd'', t'', pl'', c', x', e'⟩ := k.lp id ls' pd' d f n t' ps as bd pl' c x
    exact ⟨ls'', pd'', t'', pl'', c', x', e'.trans e⟩
  dfr := fun id pl a b => by
    obtain ⟨pl', c, x, e⟩ := h.dfr id pl a b
    obtain ⟨pl'', c', x', e'⟩ := k.dfr id pl' c x
    exact ⟨pl'', c', x', e'.trans e⟩

/-- As 'Ext', for the first n objects. -/
structure ExtN (n : Nat) (κ : List Place) (s : List SObj) (κ' : List Place) (s' : List SObj) : Prop where
  box : ∀ (id : Nat) (v : V) (pl : Place), id < n → s[id]? = some (SObj.box v) → κ[id]? = some pl → ∃ (v' : V) (pl' : Place), s'[id]? = some (SObj.box v') ∧ κ'[id]? = some pl' ∧ pl'.blk = pl.blk
  map : ∀ (id : Nat) (es : List (T × T)) (pl : Place), id < n → s[id]? = some (SObj.map es) → κ[id]? = some pl → ∃ (es' : List (T × T)) (pl' : Place), s'[id]? = some (SObj.map es') ∧ κ'[id]? = some pl' ∧ pl'.blk = pl.blk
  row : ∀ (id cur e : Nat), id < n → s[id]? = some (SObj.row cur e) → ∃ cur', s'[id]? = some (SObj.row cur' e) ∧ cur ≤ cur' ∧ (cur' = cur → κ'[id]? = κ[id]?)
  vec : ∀ (id cur : Nat) (v : V), id < n → s[id]? = some (SObj.vec cur v) → ∃ (cur' : Nat) (v' : V), s'[id]? = some (SObj.vec cur' v') ∧ cur ≤ cur' ∧ (cur' = cur → κ'[id]? = κ[id]?)
  lp : ∀ (id : Nat) (ls : LoopState) (pend : Option Code) (d : Nat) (f : FuncId) (m : Nat) (t : List (Nat × V)) (ps : Array Tmp) (as bd : Code) (pl : Place), id < n → s[id]? = some (SObj.lp ls pend d f m t ps as bd) → κ[id]? = some pl → ∃ (ls' : LoopState) (pend' : Option Code) (t' : List (Nat × V)) (pl' : Place), s'[id]? = some (SObj.lp ls' pend' d f m t' ps as bd) ∧ κ'[id]? = some pl' ∧ pl'.blk = pl.blk
  dfr : ∀ (id : Nat) (pl : Place), id < n → s[id]? = some SObj.dfr → κ[id]? = some pl → ∃ pl' : Place, s'[id]? = some SObj.dfr ∧ κ'[id]? = some pl' ∧ pl'.blk = pl.blk

theorem ExtN.of {n : Nat} {κ κ' : List Place} {s s' : List SObj} (h : Ext κ s κ' s') : ExtN n κ s κ' s' :=
  ⟨fun id v pl _ => h.box id v pl, fun id v pl _ => h.map id v pl, fun id v pl _ => h.row id v pl, fun id c v _ => h.vec id c v, fun id ls pd d f m t ps as bd pl _ => h.lp id ls pd d f m t ps as bd pl, fun id pl _ => h.dfr id pl⟩

theorem ExtN.trans {n : Nat} {κ κ' κ'' : List Place} {s s' s'' : List SObj} (h : ExtN n κ s κ' s') (k : ExtN n κ' s' κ'' s'') : ExtN n κ s κ'' s'' where
  box := fun id v pl hn a b => by
    obtain ⟨v', pl', c, d, e⟩ := h.box id v pl hn a b
    obtain ⟨v'', pl'', c', d', e'⟩ := k.box id v' pl' hn c d
    exact ⟨v'', pl'', c', d', e'.trans e⟩
  map := fun id v pl hn a b => by
    obtain ⟨v', pl', c, d, e⟩ := h.map id v pl hn a b
    obtain ⟨v'', pl'', c', d', e'⟩ := k.map id v' pl' hn c d
    exact ⟨v'', pl'', c', d', e'.trans e⟩
  row := fun id cur e hn a => by
    obtain ⟨c1, a1, b1, d1⟩ := h.row id cur e hn a
    obtain ⟨c2, a2, b2, d2⟩ := k.row id c1 e hn a1
    exact ⟨c2, a2, Nat.le_trans b1 b2, fun q => (d2 (by omega)).trans (d1 (by omega))⟩
  vec := fun id cur v hn a => by
    obtain ⟨c1, v1, a1, b1, d1⟩ := h.vec id cur v hn a
    obtain ⟨c2, v2, a2, b2, d2⟩ := k.vec id c1 v1 hn a1
    exact ⟨c2, v2, a2, Nat.le_trans b1 b2, fun q => (d2 (by omega)).trans (d1 (by omega))⟩
  lp := fun id ls pd d f m t ps as bd pl hn a b => by
    obtain ⟨ls', pd', t', pl', c, x, e⟩ := h.lp id ls pd d f m t ps as bd pl hn a b
    obtain ⟨ls'', pd'', t'', pl'', c', x', e'⟩ := k.lp id ls' pd' d f m t' ps as bd pl' hn c x
    exact ⟨ls'', pd'', t'', pl'', c', x', e'.trans e⟩
  dfr := fun id pl hn a b => by
    obtain ⟨pl', c, x, e⟩ := h.dfr id pl hn a b
    obtain ⟨pl'', c', x', e'⟩ := k.dfr id pl' hn c x
    exact ⟨pl'', c', x', e'.trans e⟩

theorem ExtN.ext {n : Nat} {κ κ' : List Place} {s s' : List SObj} (h : ExtN n κ s κ' s') (hn : s.length ≤ n) : Ext κ s κ' s' := by
  have lt : ∀ {id : Nat} {o : SObj}, s[id]? = some o → id < n := fun {id o} e => by
    rcases Nat.lt_or_ge id s.length with q | q
    · omega
    · simp [List.getElem?_eq_none q] at e
  exact ⟨fun id v pl a => h.box id v pl (lt a) a, fun id v pl a => h.map id v pl (lt a) a, fun id cur e a => h.row id cur e (lt a) a, fun id cur v a => h.vec id cur v (lt a) a, fun id ls pd d f m t ps as bd pl a => h.lp id ls pd d f m t ps as bd pl (lt a) a, fun id pl a => h.dfr id pl (lt a) a⟩

/-- Results with places. -/
def RVsV (U : Nat → Nat → Prop) (κ : List Place) (s : List SObj) (w : World) : List V → Value → Prop
  | [v], x => VV1 U κ s w v x
  | vs, x => ∃ xs : List Value, x = .tuple xs.toArray ∧ F2 (VV1 U κ s w) vs xs

/-- A CALL THAT TAKES THE CALLER'S MEMORY: from these objects and values it gives those. -/
def GCall (P : Program) (f : FuncId) (s : List SObj) (vs : List V) (s' : List SObj) (rs : List V) : Prop :=
  Callable P f ∧ ∀ (U : Nat → Nat → Prop) (κ : List Place) (w : World) (vals : List Value), RelS U κ s w → F2 (VV1 U κ s w) vs vals →
    Calls P f vals.toArray w (fun e w' => ∃ v κ', e = .returned v ∧ RelS U κ' s' w' ∧ RVsV U κ' s' w' rs v ∧ Step U κ w κ' w' ∧ Ext κ s κ' s')

/-- A ROUND of a range over a function: 'yield', called in these objects with these values. -/
def YCall (P : Program) (id : Nat) (s : List SObj) (vs : List V) (s' : List SObj) (b : Bool) : Prop :=
  ∀ (ro : Option Nat) (U : Nat → Nat → Prop) (κ : List Place) (w : World) (vals : List Value), RelS U κ s w → F2 (VV1 U κ s w) vs vals →
    ∃ pl : Place, κ[id]? = some pl ∧ ∃ (fn : FuncId) (tmps : Array Value) (as bd : Code), (Instr.yield pl.blk vals.toArray).run P w = .ok (.round pl.blk fn tmps as bd) w ∧
      RoundIn (FW ro) 0 P pl.blk fn tmps as bd w (fun e w' => e = .returned (.bool b) ∧ ∃ κ', RelS U κ' s' w' ∧ Step U κ w κ' w' ∧ Ext κ s κ' s')

/-- From here on a function's number means a round. -/
def yB : Nat := 1000000007

/-- A call of a function, or of a 'yield'. -/
def GC (P : Program) (f : FuncId) (s : List SObj) (vs : List V) (s' : List SObj) (rs : List V) : Prop := match Nat.ble yB f with
  | false => GCall P f s vs s' rs
  | true => ∃ b, rs = [.p (.bool b)] ∧ YCall P (f - yB) s vs s' b

theorem GC.of {f : FuncId} {s s' : List SObj} {vs rs : List V} (hy : Nat.ble yB f = false) (h : GCall P f s vs s' rs) : GC P f s vs s' rs := by
  unfold GC; rw [hy]; exact h

theorem GC.call {f : FuncId} {s s' : List SObj} {vs rs : List V} (hy : Nat.ble yB f = false) (h : GC P f s vs s' rs) : GCall P f s vs s' rs := by
  unfold GC at h; rw [hy] at h; exact h

def okParts : List V → Bool
  | [] => true
  | v :: vs => okPart v && okParts vs

def noAggs : List V → Bool
  | [] => true
  | v :: vs => !v.isAgg && noAggs vs

/-- Who is called, with what. -/
def calleeV (P : Program) (t : List (Nat × V)) (o : Oper) : Option (FuncId × List V) :=
  match o.op with
  | .call c => match c.callee with
    | .value f => match evalO P t none 0 f, evalOs P t none c.argTypes.toList c.args.toList with
      | some (.p (.clo f caps)), some vs => if okParts vs && !Nat.ble yB f then some (f, vs ++ caps.map .p) else none
      | some (.clo f caps), some vs => if okParts vs && !Nat.ble yB f then some (f, vs ++ caps) else none
      | some (.yld id), some vs => if okParts vs then some (yB + id, vs) else none
      | _, _ => none
    | _ => none
  | _ => none

def tupV : List V → V
  | [v] => v
  | vs => .tup vs

/-- One step. -/
inductive StepG (P : Program) (pr : Oper → Bool) (ops : Array Oper) (o : Oper) (t : List (Nat × V)) (s : List SObj) : V → List SObj → Prop
  | skip : guardOf ops t o = some .skip → StepG P pr ops o t s (.tup []) s
  | run {it : Option Item} {q : OpR} : guardOf ops t o = some (.run none) → isCall o = false → (isBS o && pr o) = false → hop P t s none o it = some q → (∀ p ∈ q.obs, p) → isWh q.v = false → StepG P pr ops o t s q.v q.s
  | pcall {f : FuncId} {ts rs : List T} : guardOf ops t o = some (.run none) → isCall o = true → pr o = true → callee P t none o = some (f, ts) → PCall P f ts rs → StepG P pr ops o t s (tupOf rs) s
  | gcall {f : FuncId} {vs rs : List V} {s' : List SObj} : guardOf ops t o = some (.run none) → isCall o = true → pr o = false → calleeV P t o = some (f, vs) → GC P f s vs s' rs → okParts rs = true → StepG P pr ops o t s (tupV rs) s'
  | bview {q : OpR} : guardOf ops t o = some (.run none) → isBS o = true → pr o = true → buildBx P t s o = some q → StepG P pr ops o t s q.v q.s
  | vrun {q : OpR} : guardOf ops t o = some (.run none) → isCall o = false → (isBS o && pr o) = false → hopW P t s o = some q → isWh q.v = false → StepG P pr ops o t s q.v q.s
  | told {b : Bool} {s' : List SObj} : StepG P pr ops o t s (.p (.bool b)) s' → StepG P pr ops o t s (.rb b) s'

def tch (pr : Oper → Bool) (o : Oper) : Nat := if (isCall o && !pr o) || (isBS o && pr o) then 2 else touch o.op

theorem F2_okParts {vs : List V} {xs : List Value} (h : F2 (VV U κ s w) vs xs) (hv : okParts vs = true) : F2 (VV1 U κ s w) vs xs := by
  induction h with
  | nil => exact .nil
  | cons a b ih =>
    simp only [okParts, Bool.and_eq_true] at hv
    exact .cons (VV_one a hv.1) (ih hv.2)

theorem vcs_one : ∀ {vs : List V} {cs : List Value}, Vcs U κ s w vs cs → (∀ v ∈ vs, v.isAgg = false) → F2 (VV1 U κ s w) vs cs
  | [], _, .nil, _ => .nil
  | v :: vs, _, .cons h1 h2, hn => by
    have ht := hn v (by simp)
    have hl := h1.len
    rw [V.isAgg_false_sz ht] at hl
    rename_i c1 c2
    obtain ⟨x, rfl⟩ : ∃ x, c1 = [x] := by
      cases c1 with
      | nil => simp at hl
      | cons x r => cases r with
        | nil => exact ⟨x, rfl⟩
        | cons y r => simp at hl
    exact .cons (VV1_of_cell h1 ht) (vcs_one h2 (fun v hv => hn v (by simp [hv])))

theorem VV_tupV {rs : List V} {x : Value} (h : RVsV U κ s w rs x) (ho : okParts rs = true) : VV U κ s w (tupV rs) x := by
  match rs, h with
  | [], h => obtain ⟨xs, a, b⟩ := h; exact ⟨xs, a, b⟩
  | [v], h => exact VV_of1 h
  | v :: v' :: r, h => obtain ⟨xs, a, b⟩ := h; exact ⟨xs, a, b⟩

/-- A call that takes the caller's memory, in the model. -/
theorem gcall_wp {st : St} {a : Act} (h : Rel U κ st a w) {o : Oper} {f : FuncId} {vs rs : List V} {s' : List SObj} (hc : calleeV P st.t o = some (f, vs)) (hy : Nat.ble yB f = false) (hp : GCall P f st.s vs s' rs) (hrs : okParts rs = true) {K : Act → World → Prop} {Q : Exit → Act → World → Prop}
    (hK : ∀ x w' κ', VV U κ' s' w' (tupV rs) x → Rel U κ' { st with s := s' } a w' → Step U κ w κ' w' → Ext κ st.s κ' s' → K (a.put o.dst x) w') : o.wp P a w K Q := by
  have main : ∀ {c : Call} {fo : Operand} {cs : List Value} {vs0 caps : List V}, o.op = .call c → c.callee = .value fo → a.eval fo = .func (.func f) #[] cs.toArray → evalOs P st.t none c.argTypes.toList c.args.toList = some vs0 → okParts vs0 = true → F2 (VV1 U κ st.s w) caps cs → vs = vs0 ++ caps → o.wp P a w K Q := by
    intro c fo cs vs0 caps ho hfo hfe e2 hok hcaps hvs
    subst hvs
    have hargs := F2_okParts (evalOs_spec h (g := none) (fun _ _ e => by cases e) e2) hok
    obtain ⟨⟨fn, p1, p2, p3⟩, p4⟩ := hp
    have hrun : (execOp a.eval o).run P w = .ok (.enter f (c.args.map a.eval ++ cs.toArray)) w := by
      unfold execOp
      simp only [ho]
      simp only [resolve, hfo, Sem.run_bind, hfe, Deferred.ofValue, Sem.run_pure, Result.andThen_ok, invoke, Array.empty_append, callFunc, run_program, p1, p2, p3]
      simp
    unfold Oper.wp
    rw [hrun]
    simp only [Oper.upon]
    have := p4 U κ w (c.args.toList.map a.eval ++ cs) h.store (hargs.append hcaps)
    have harr : (c.args.toList.map a.eval ++ cs).toArray = c.args.map a.eval ++ cs.toArray := by
      apply Array.ext'; simp
    rw [harr] at this
    refine this.mono ?_
    rintro e w' ⟨v, κ', rfl, hs, hv, hst, hx⟩
    exact hK v w' κ' (VV_tupV hv hrs) (h.carry hs hst hx) hst hx
  unfold calleeV at hc
  split at hc
  · rename_i c ho
    split at hc
    · rename_i fo hfo
      split at hc
      · rename_i f' caps vs0 e1 e2
        split at hc
        · rename_i hok
          simp only [Bool.and_eq_true] at hok
          replace hok := hok.1
          injection hc with hc; injection hc with hc1 hc2
          subst hc1
          have hf := (VV_p (evalO_spec h (g := none) (fun _ _ e => by cases e) e1)).cell rfl
          generalize hfe : a.eval fo = fx at hf
          cases hf with
          | clo q1 q2 =>
            refine main ho hfo hfe e2 hok ?_ hc2.symm
            exact F2.map_left (forall₂_mono (fun _ _ c => VV1_of c) (tcs_one q1 q2))
        · cases hc
      · rename_i f' caps vs0 e1 e2
        split at hc
        · rename_i hok
          simp only [Bool.and_eq_true] at hok
          replace hok := hok.1
          injection hc with hc; injection hc with hc1 hc2
          subst hc1
          have hf := Vc_one_cell (VV_one (evalO_spec h (g := none) (fun _ _ e => by cases e) e1) rfl) rfl
          generalize hfe : a.eval fo = fx at hf
          cases hf with
          | clo q1 q2 => exact main ho hfo hfe e2 hok (vcs_one q1 q2) hc2.symm
        · cases hc
      · split at hc
        · injection hc with hc; injection hc with hc1 hc2
          exfalso
          rw [← hc1] at hy
          have hle : ∀ i, Nat.ble yB (yB + i) = true := fun i => by rw [Nat.ble_eq]; exact Nat.le_add_right _ _
          rw [hle] at hy; cases hy
        · cases hc
      · cases hc
    · cases hc
  · cases hc

theorem call_not_defer {o : Oper} (h : isCall o = true) : ∀ c, o.op ≠ .defer c := by
  intro c hc
  unfold isCall at h
  rw [hc] at h
  cases h

/-- A round, in the model. -/
theorem ycall_wp {ro : Option Nat} {st : St} {a : Act} (h : Rel U κ st a w) {o : Oper} {f : FuncId} {vs : List V} {b : Bool} {s' : List SObj} (hc : calleeV P st.t o = some (f, vs)) (hy : Nat.ble yB f = true) (hp : YCall P (f - yB) st.s vs s' b) {K : Act → World → Prop} {Q : Exit → Act → World → Prop}
    (hK : ∀ x w' κ', VV U κ' s' w' (.p (.bool b)) x → Rel U κ' { st with s := s' } a w' → Step U κ w κ' w' → Ext κ st.s κ' s' → K (a.put o.dst x) w') : o.wpIn (FW ro) 0 P a w K Q := by
  unfold calleeV at hc
  split at hc
  · rename_i c ho
    split at hc
    · rename_i fo hfo
      split at hc
      · split at hc
        · rename_i hok
          simp only [Bool.and_eq_true, Bool.not_eq_true'] at hok
          injection hc with hc; injection hc with hc1 hc2
          rw [hc1, hy] at hok; cases hok.2
        · cases hc
      · split at hc
        · rename_i hok
          simp only [Bool.and_eq_true, Bool.not_eq_true'] at hok
          injection hc with hc; injection hc with hc1 hc2
          rw [hc1, hy] at hok; cases hok.2
        · cases hc
      · rename_i id vs0 e1 e2
        split at hc
        · rename_i hok
          injection hc with hc; injection hc with hc1 hc2
          subst hc1 hc2
          rw [Nat.add_sub_cancel_left] at hp
          have hf := Vc_one_cell (VV_one (evalO_spec h (g := none) (fun _ _ e => by cases e) e1) rfl) rfl
          have hargs := F2_okParts (evalOs_spec h (g := none) (fun _ _ e => by cases e) e2) hok
          obtain ⟨pl, p1, fn, tmps, as, bd, p2, p3⟩ := hp ro U κ w _ h.store hargs
          have harr : (c.args.toList.map a.eval).toArray = c.args.map a.eval := by apply Array.ext'; simp
          rw [harr] at p2
          generalize hfe : a.eval fo = fx at hf
          cases hf with
          | yld q1 q2 =>
            rename_i pl' _ _ _ _ _ _ _ _ _
            have hpl : pl' = pl := by rw [q2] at p1; exact Option.some.inj p1
            subst hpl
            have hrun : (execOp a.eval o).run P w = .ok (.round pl'.blk fn tmps as bd) w := by
              unfold execOp
              simp only [ho]
              simp only [resolve, hfo, Sem.run_bind, hfe, Deferred.ofValue, Sem.run_pure, Result.andThen_ok, invoke, Array.empty_append, Array.append_empty]
              exact p2
            refine ⟨fun _ _ => trivial, ?_⟩
            rw [Oper.semAt_eq _ _ _ (fun d e => by rw [ho] at e; cases e), hrun, Oper.uponIn_round]
            refine ⟨fun e => (by cases e), p3.mono ?_⟩
            rintro e w' ⟨rfl, κ', hs, hst, hx⟩
            exact hK _ w' κ' (VV_of1 (VV1_of_cell (.p (.bool b)) rfl)) (h.carry hs hst hx) hst hx
        · cases hc
      · cases hc
    · cases hc
  · cases hc

/-- One step, with what follows. -/
theorem stepG_wp {ro : Option Nat} {pr : Oper → Bool} {ops : Array Oper} {o : Oper} {st : St} {v : V} {s' : List SObj} (hF : StepG P pr ops o st.t st.s v s') {a : Act} (h : Rel U κ st a w) {Q : Exit → Act → World → Prop} :
    (Region.wanted o (yielded ops a.tmps) = true ∧ ∀ K : Act → World → Prop, (∀ x w' κ', (VV U κ' s' w' v x ∨ v = .bad) → Rel U κ' { st with s := s' } a w' → Step U κ w κ' w' → Ext κ st.s κ' s' → K (a.put o.dst x) w') → o.wpIn (FW ro) 0 P a w K Q) ∨
    (Region.wanted o (yielded ops a.tmps) = false ∧ v = .tup [] ∧ s' = st.s) := by
  induction hF with
  | skip hg => have hw := guard_spec h hg; simp only at hw; exact .inr ⟨hw, rfl, rfl⟩
  | bview hg hc hpr hq =>
    have hw := guard_spec h hg; simp only at hw
    refine .inl ⟨hw, fun K hK => ?_⟩
    obtain ⟨⟨nx, w', κ', h1, h2, h3, h4, h5⟩, _⟩ := buildBx_ok h hq
    have hrel := h.carry h3 h4 h5
    refine oper_in (not_defer h1 (by rcases h2 with ⟨x, e, _⟩ | ⟨e, _⟩; exact .inl ⟨x, e⟩; exact .inr e)) ?_
    unfold Oper.wp
    rw [h1]
    rcases h2 with ⟨x, rfl, hv⟩ | ⟨rfl, hv⟩
    · exact hK x w' κ' (.inl hv) hrel h4 h5
    · exact hK undef w' κ' (.inr hv) hrel h4 h5
  | run hg hc hbs hq hob hnw =>
    have hw := guard_spec h hg; simp only at hw
    refine .inl ⟨hw, fun K hK => ?_⟩
    obtain ⟨nx, w', κ', h1, h2, h3, h4, h5⟩ := hop_sound h (g := none) (fun _ _ e => by cases e) hq hob
    have hrel := h.carry h3 h4 h5
    refine oper_in (not_defer h1 (by rcases h2 with ⟨x, e, _⟩ | ⟨e, _⟩; exact .inl ⟨x, e⟩; exact .inr e)) ?_
    unfold Oper.wp
    rw [h1]
    rcases h2 with ⟨x, rfl, hv⟩ | ⟨rfl, hv⟩
    · exact hK x w' κ' (.inl hv) hrel h4 h5
    · exact hK undef w' κ' (.inr hv) hrel h4 h5
  | vrun hg hc hbs hq hnw =>
    have hw := guard_spec h hg; simp only at hw
    refine .inl ⟨hw, fun K hK => ?_⟩
    obtain ⟨nx, w', κ', h1, h2, h3, h4, h5⟩ := hopW_ok h hq
    have hrel := h.carry h3 h4 h5
    refine oper_in (not_defer h1 (by rcases h2 with ⟨x, e, _⟩ | ⟨e, _⟩; exact .inl ⟨x, e⟩; exact .inr e)) ?_
    unfold Oper.wp
    rw [h1]
    rcases h2 with ⟨x, rfl, hv⟩ | ⟨rfl, hv⟩
    · exact hK x w' κ' (.inl hv) hrel h4 h5
    · exact hK undef w' κ' (.inr hv) hrel h4 h5
  | pcall hg hc hpr hcl hp =>
    have hw := guard_spec h hg; simp only at hw
    exact .inl ⟨hw, fun K hK => oper_in (call_not_defer hc) <| call_wp h (g := none) (fun _ _ e => by cases e) hcl hp (fun x w' hk hv => hK x w' κ (.inl hv) (h.kept0 hk) hk.step0 (.refl _ _))⟩
  | gcall hg hc hpr hcl hp hok =>
    have hw := guard_spec h hg; simp only at hw
    refine .inl ⟨hw, fun K hK => ?_⟩
    unfold GC at hp
    split at hp
    · rename_i hy
      exact oper_in (call_not_defer hc) <| gcall_wp h hcl hy hp hok (fun x w' κ' hv hr hs hx => hK x w' κ' (.inl hv) hr hs hx)
    · rename_i hy
      obtain ⟨b, rfl, hp⟩ := hp
      exact ycall_wp h hcl hy hp (fun x w' κ' hv hr hs hx => hK x w' κ' (.inl hv) hr hs hx)
  | told hb ih =>
    rcases ih with ⟨hw, ih⟩ | ⟨_, hv, _⟩
    · refine .inl ⟨hw, fun K hK => ih K (fun x w' κ' hv hr hs hx => hK x w' κ' ?_ hr hs hx)⟩
      rcases hv with hv | hv
      · rw [VV_bool hv]; exact .inl (VV_of1 (VV1_of_cell (.rb _) rfl))
      · cases hv
    · cases hv

theorem stepG_sound {ro : Option Nat} {pr : Oper → Bool} {ops : Array Oper} {i : Nat} {o : Oper} {st st' : St} {v : V} {s' : List SObj} (ho : ops[i]? = some o) (hF : StepG P pr ops o st.t st.s v s') (hset : setDst { st with s := s' } o.dst v = some st') {a : Act} (h : Rel U κ st a w) {Q : Exit → Act → World → Prop} :
    wpOpIn (FW ro) 0 P ops Q i (fun a' w' => ∃ κ', Rel U κ' st' a' w' ∧ Step U κ w κ' w' ∧ Ext κ st.s κ' st'.s) a w := by
  have hs := setDst_s hset
  simp only at hs
  unfold wpOpIn
  rw [ho]
  simp only
  rcases stepG_wp hF h with ⟨hw, hk⟩ | ⟨hw, rfl, rfl⟩
  · rw [hw]
    simp only [if_true]
    refine hk _ (fun x w' κ' hv hrel hstep hx => ⟨κ', setDst_rel hrel hset hv.symm, hstep, by rw [hs]; exact hx⟩)
  · rw [hw]
    simp only [Bool.false_eq_true, if_false]
    exact ⟨fun _ _ => trivial, κ, setDst_rel (x := undef) h hset (.inr ⟨[], rfl, .nil⟩), .refl _ _ _, by rw [hs]; exact .refl _ _⟩

end Go.HM
