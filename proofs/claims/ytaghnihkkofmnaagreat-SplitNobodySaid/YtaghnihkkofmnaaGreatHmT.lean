/- HM, part T: a region whose order is drawn. -/
import Derived.Test.YtaghnihkkofmnaaGreatHmS
namespace Go.HM

variable {P : Program} {U : Nat → Nat → Prop} {κ : List Place} {s : List SObj} {w : World} {ok : Nat → Nat → Prop}

/-- One step, without what is told: 'v' is what its slot gets. -/
inductive StepF (P : Program) (ops : Array Oper) (o : Oper) (t : List (Nat × V)) (s : List SObj) : V → List SObj → Prop
  | skip : guardOf ops t o = some .skip → StepF P ops o t s (.tup []) s
  | run {it : Option Item} {q : OpR} : guardOf ops t o = some (.run none) → hopC P t s none o it = some q → (∀ p ∈ q.obs, p) → isWh q.v = false → StepF P ops o t s q.v q.s
  | told {it : Option Item} {q : OpR} {b : Bool} : guardOf ops t o = some (.run none) → hopC P t s none o it = some q → (∀ p ∈ q.obs, p) → q.v = .p (.bool b) → StepF P ops o t s (.rb b) q.s
  | spec {d x : Nat} {want : Bool} {v : V} {s' : List SObj} : guardOf ops t o = some (.run (some (d, want))) → hop P t s (some (d, want)) o none = some ⟨v, s', []⟩ → o.dst = some x → okPart v = true → touch o.op < 2 → StepF P ops o t s (.wh d want v) s

theorem resolve1_cases {rid idx : Nat} {v v' : V} {orc os : List Orc} {obs obs' : List Prop} (h : resolve1 rid idx v orc obs = some (v', os, obs')) (ha : allOf obs') : v' = v ∨ ∃ b, v = .p (.bool b) ∧ v' = .rb b := by
  unfold resolve1 at h
  split at h
  · split at h
    · rename_i b
      injection h with h; injection h with h1 h2; injection h2 with h2 h3
      subst h1 h3
      right
      have := ha.1
      subst this
      exact ⟨_, rfl, rfl⟩
    · injection h with h; injection h with h1 h2; exact .inl h1.symm
    · cases h
  · injection h with h; injection h with h1 h2; exact .inl h1.symm

theorem stepOp_F {rid : Nat} {ops : Array Oper} {i : Nat} {r r' : Run} (hs : stepOp P rid ops i r = some r') (hobs : allOf r'.obs) : ∃ o v s', ops[i]? = some o ∧ StepF P ops o r.st.t r.st.s v s' ∧ setDst { r.st with s := s' } o.dst v = some r'.st := by
  unfold stepOp at hs
  split at hs
  · cases hs
  · rename_i o ho
    split at hs
    · rename_i hg
      simp only [Option.map_eq_some_iff] at hs
      obtain ⟨st, hst, rfl⟩ := hs
      exact ⟨o, _, _, ho, .skip hg, hst⟩
    · rename_i hg
      split at hs
      rename_i it os hnx
      split at hs
      · rename_i q hq
        split at hs
        · rename_i v os' obs' hr
          split at hs
          · cases hs
          rename_i hwh
          split at hs
          · rename_i st' hst
            injection hs with hs; subst hs
            have hall : allOf (q.obs ++ r.obs) := by split at hr <;> exact resolve1_obs hr hobs
            have hq' : ∃ it', hopC P r.st.t r.st.s none o it' = some q := by split at hq <;> exact ⟨_, hq⟩
            obtain ⟨it', hq'⟩ := hq'
            have hob := allOf_mem (allOf_append.1 hall).1
            have hc : v = q.v ∨ ∃ b, q.v = .p (.bool b) ∧ v = .rb b := by split at hr <;> exact resolve1_cases hr hobs
            rcases hc with rfl | ⟨b, hb, rfl⟩
            · exact ⟨o, _, _, ho, .run hg hq' hob (by simpa using hwh), hst⟩
            · exact ⟨o, _, _, ho, .told hg hq' hob hb, hst⟩
          · cases hs
        · cases hs
      · cases hs
    · rename_i d want hg
      split at hs
      · rename_i v s' x hq hdst
        split at hs
        · rename_i hc
          simp only [Bool.and_eq_true, Nat.blt_eq] at hc
          simp only [Option.map_eq_some_iff] at hs
          obtain ⟨st', hst, rfl⟩ := hs
          refine ⟨o, _, _, ho, .spec hg hq hdst hc.1 hc.2, ?_⟩
          rw [hdst]; exact hst
        · cases hs
      · cases hs
    · cases hs

/-- One step, in the model. -/
theorem stepF_sound {ops : Array Oper} {i : Nat} {o : Oper} {st st' : St} {v : V} {s' : List SObj} (ho : ops[i]? = some o) (hF : StepF P ops o st.t st.s v s') (hset : setDst { st with s := s' } o.dst v = some st') {a : Act} (h : Rel U κ st a w) {Q : Exit → Act → World → Prop} :
    wpOp P ops Q i (fun a' w' => ∃ κ', Rel U κ' st' a' w' ∧ Step U κ w κ' w') a w := by
  unfold wpOp
  rw [ho]
  simp only
  cases hF with
  | skip hg =>
    have hw := guard_spec h hg
    simp only at hw
    rw [hw]
    simp only [Bool.false_eq_true, if_false]
    exact ⟨κ, setDst_rel (x := undef) h hset (.inr ⟨[], rfl, .nil⟩), .refl _ _ _⟩
  | run hg hq hob hnw =>
    have hw := guard_spec h hg
    simp only at hw
    rw [hw]
    simp only [if_true]
    left
    exact hopC_wp h (g := none) (fun _ _ e => by cases e) hq hob (fun x w' κ' hv hrel hstep => ⟨κ', setDst_rel hrel hset hv.symm, hstep⟩)
  | told hg hq hob hb =>
    have hw := guard_spec h hg
    simp only at hw
    rw [hw]
    simp only [if_true]
    left
    refine hopC_wp h (g := none) (fun _ _ e => by cases e) hq hob (fun x w' κ' hv hrel hstep => ⟨κ', setDst_rel hrel hset (.inr ?_), hstep⟩)
    rw [hb] at hv
    rcases hv with hv | hv
    · rw [VV_bool hv]; exact VV_of1 (VV1_of_cell (.rb _) rfl)
    · cases hv
  | spec hg hq hdst hp htouch =>
    rename_i d x want v s'
    obtain ⟨b, hb, hw⟩ := guard_spec h hg
    have hs' := hop_still htouch hq
    simp only at hs'
    subst hs'
    have hput : ∀ (w' : World) (κ' : List Place) (y : Value), Rel U κ' st a w' → (b = want → VV U κ' st.s w' v y) → (b ≠ want → y = undef) → Rel U κ' st' (a.put o.dst y) w' := by
      intro w' κ' y hrel hv hund
      rw [hdst] at hset ⊢
      unfold setDst at hset
      simp only at hset
      split at hset
      · rename_i hlt
        have hlt' : x < st.n := by simpa [Nat.blt_eq] using hlt
        injection hset with hset; subst hset
        refine hrel.put hlt' (fun hd => ⟨y, put_get_same (by rw [hrel.size]; exact hlt'), ?_⟩)
        by_cases hdx : d = x
        · subst hdx
          rw [put_get_same (by rw [hrel.size]; exact hlt')] at hd
          by_cases hbw : b = want
          · exact hv hbw
          · rw [hund hbw] at hd; simp [undef] at hd
        · rw [put_get_other hdx, hb] at hd
          injection hd with hd; injection hd with hd
          exact hv hd
      · cases hset
    by_cases hbw : b = want
    · subst hbw
      rw [hw]
      simp only [BEq.rfl, if_true]
      left
      obtain ⟨nx, w', κ', h1, h2, h3, h4, h5⟩ := hop_sound h (g := some (d, b)) (fun d' want' e => by injection e with e; injection e with e1 e2; subst e1 e2; exact hb) hq (by simp)
      have hrel := h.carry h3 h4 h5
      unfold Oper.wp
      rw [h1]
      rcases h2 with ⟨y, rfl, hv⟩ | ⟨rfl, hv⟩
      · exact ⟨κ', hput w' κ' y hrel (fun _ => hv) (fun e => absurd rfl e), h4⟩
      · simp only at hv; rw [hv] at hp; simp [okPart] at hp
    · have : (b == want) = false := by simpa using hbw
      rw [hw, this]
      simp only [Bool.false_eq_true, if_false]
      exact ⟨κ, hput w κ undef h (fun e => absurd e hbw) (fun _ => rfl), .refl _ _ _⟩

/-! What a step looks at -/

theorem tmpOf_mem {xs : List Operand} {x : Nat} (h : Operand.tmp x ∈ xs) : x ∈ xs.filterMap tmpOf := List.mem_filterMap.2 ⟨_, h, rfl⟩

def Agree (L : List Nat) (t t' : List (Nat × V)) : Prop := ∀ x ∈ L, getT t x = getT t' x

theorem evalO_congr {t t' : List (Nat × V)} {g : Option (Nat × Bool)} {ty : TypeId} {x : Operand} (h : ∀ d, tmpOf x = some d → getT t d = getT t' d) : evalO P t g ty x = evalO P t' g ty x := by
  cases x with
  | tmp d => simp only [evalO, h d rfl]
  | _ => rfl

theorem evalO_agree {L : List Nat} {t t' : List (Nat × V)} (ha : Agree L t t') {g : Option (Nat × Bool)} {ty : TypeId} {xs : List Operand} (hL : xs.filterMap tmpOf ⊆ L) {x : Operand} (hx : x ∈ xs) : evalO P t g ty x = evalO P t' g ty x :=
  evalO_congr (fun d hd => ha d (hL (List.mem_filterMap.2 ⟨x, hx, hd⟩)))

theorem evalOs_agree {L : List Nat} {t t' : List (Nat × V)} (ha : Agree L t t') {g : Option (Nat × Bool)} : ∀ {tys : List TypeId} {xs : List Operand}, xs.filterMap tmpOf ⊆ L → evalOs P t g tys xs = evalOs P t' g tys xs
  | _, [], _ => rfl
  | tys, x :: xs, hL => by
    simp only [evalOs]
    rw [evalO_agree ha hL (x := x) (by simp), evalOs_agree ha (xs := xs) (fun d hd => hL (by
      obtain ⟨y, h1, h2⟩ := List.mem_filterMap.1 hd
      exact List.mem_filterMap.2 ⟨y, by simp [h1], h2⟩))]

theorem setParts_agree {places : Nat → Option (TypeId × Nat × Nat)} {ev ev' : TypeId → Operand → Option V} : ∀ {parts : List (Nat × Operand)} {vs : List V}, (∀ p ∈ parts, ∀ ty, ev ty p.2 = ev' ty p.2) → setParts places ev vs parts = setParts places ev' vs parts
  | [], vs, h => rfl
  | (i, x) :: r, vs, h => by
    have ih : ∀ vs, setParts places ev vs r = setParts places ev' vs r := fun vs => setParts_agree (fun p hp => h p (List.mem_cons_of_mem _ hp))
    have hx : ∀ ty, ev ty x = ev' ty x := h (i, x) (List.mem_cons_self ..)
    simp only [setParts, hx, ih]

theorem setBytes_agree {ev ev' : TypeId → Operand → Option V} {e : TypeId} : ∀ {parts : List (Nat × Operand)} {bs : List Int}, (∀ p ∈ parts, ∀ ty, ev ty p.2 = ev' ty p.2) → setBytes ev e bs parts = setBytes ev' e bs parts
  | [], bs, h => rfl
  | (i, x) :: r, bs, h => by
    have ih : ∀ bs, setBytes ev e bs r = setBytes ev' e bs r := fun bs => setBytes_agree (fun p hp => h p (List.mem_cons_of_mem _ hp))
    have hx : ∀ ty, ev ty x = ev' ty x := h (i, x) (List.mem_cons_self ..)
    simp only [setBytes, hx, ih]

theorem buildV_agree {ty : TypeId} {ev ev' : TypeId → Operand → Option V} {parts : List (Nat × Operand)} (h : ∀ p ∈ parts, ∀ ty, ev ty p.2 = ev' ty p.2) : buildV P ty ev parts = buildV P ty ev' parts := by
  unfold buildV
  simp only [setParts_agree h, setBytes_agree h]

theorem buildSl_agree {ty : TypeId} {len : Nat} {ev ev' : TypeId → Operand → Option V} {parts : List (Nat × Operand)} (h : ∀ p ∈ parts, ∀ ty, ev ty p.2 = ev' ty p.2) : buildSl P ty len ev parts = buildSl P ty len ev' parts := by
  unfold buildSl
  simp only [setParts_agree h]

theorem scalarOperands_agree {ρ ρ' : Operand → Option V} : ∀ {xs : List Operand}, (∀ x ∈ xs, ρ x = ρ' x) → scalarOperands ρ xs = scalarOperands ρ' xs
  | [], _ => rfl
  | x :: xs, h => by
    have ih := scalarOperands_agree (xs := xs) (fun y hy => h y (List.mem_cons_of_mem _ hy))
    have hx := h x (List.mem_cons_self ..)
    simp only [scalarOperands, hx, ih]

theorem scOp_agree {ρ ρ' : Operand → Option V} {o : Oper} (hns : ∀ cs b, o.op ≠ .select cs b) (h : ∀ x ∈ o.op.operands, ρ x = ρ' x) : scOp P ρ o = scOp P ρ' o := by
  unfold scOp
  rw [execOp_congr (ρ := fun x => scOf (ρ x)) (ρ' := fun x => scOf (ρ' x)) o hns (fun x hx => by simp only [h x hx])]

theorem bndOf_congr {t t' : List (Nat × V)} {g : Option (Nat × Bool)} {x : Option Operand} (h : ∀ y, x = some y → evalO P t g 0 y = evalO P t' g 0 y) : bndOf (evalO P t g 0) x = bndOf (evalO P t' g 0) x := by
  cases x with
  | none => rfl
  | some y => simp only [bndOf, h y rfl]

theorem bnds_congr {t t' : List (Nat × V)} {g : Option (Nat × Bool)} {lo hi mx : Option Operand} (h : ∀ y, (lo = some y ∨ hi = some y ∨ mx = some y) → evalO P t g 0 y = evalO P t' g 0 y) (n : Nat) : bnds (evalO P t g 0) n lo hi mx = bnds (evalO P t' g 0) n lo hi mx := by
  simp only [bnds, bndOf_congr (fun y e => h y (.inl e)), bndOf_congr (x := hi) (fun y e => h y (.inr (.inl e))), bndOf_congr (x := mx) (fun y e => h y (.inr (.inr e)))]

theorem hop1_t {L : List Nat} {t t' : List (Nat × V)} (ha : Agree L t t') {g : Option (Nat × Bool)} {o : Oper} {it : Option Item} (hL : o.op.operands.toList.filterMap tmpOf ⊆ L) : hop1 P t s g o it = hop1 P t' s g o it := by
  have hE : ∀ x ∈ o.op.operands, ∀ g ty, evalO P t g ty x = evalO P t' g ty x := fun x hx g ty => evalO_agree ha hL (by simpa using hx)
  obtain ⟨dst, op, type, pos, after, guard⟩ := o
  simp only at hE hL
  cases op with
  | index ty x y => simp only [hop1, hE x (by simp [Op.operands]), hE y (by simp [Op.operands])]
  | makeMap ty r => rfl
  | lookup ty x k ok => simp only [hop1, hE x (by simp [Op.operands]), hE k (by simp [Op.operands])]
  | mapUpdate ty x k v => simp only [hop1, hE x (by simp [Op.operands]), hE k (by simp [Op.operands]), hE v (by simp [Op.operands])]
  | insert ty x k v => simp only [hop1, hE x (by simp [Op.operands]), hE k (by simp [Op.operands]), hE v (by simp [Op.operands])]
  | slice ty x lo hi mx =>
    have hb := fun n => bnds_congr (P := P) (t := t) (t' := t') (g := g) (lo := lo) (hi := hi) (mx := mx) (fun y hy => hE y (by rcases hy with rfl | rfl | rfl <;> simp [Op.operands]) g 0) n
    simp only [hop1, hE x (by simp [Op.operands]), hb]
  | _ => rfl

theorem hop2_t {L : List Nat} {t t' : List (Nat × V)} (ha : Agree L t t') {g : Option (Nat × Bool)} {o : Oper} {it : Option Item} (hL : o.op.operands.toList.filterMap tmpOf ⊆ L) : hop2 P t s g o it = hop2 P t' s g o it := by
  have hE : ∀ x ∈ o.op.operands, ∀ g ty, evalO P t g ty x = evalO P t' g ty x := fun x hx g ty => evalO_agree ha hL (by simpa using hx)
  obtain ⟨dst, op, type, pos, after, guard⟩ := o
  simp only at hE hL
  cases op with
  | indexAddr ty x y => simp only [hop2, hE x (by simp [Op.operands]), hE y (by simp [Op.operands])]
  | convert a b y =>
    have hy := hE y (by simp [Op.operands])
    simp only [hop2]
    split
    · rfl
    · rename_i z _ _
      simp only [hy g a]
    · rfl
  | load ty x => simp only [hop2, hE x (by simp [Op.operands])]
  | sliceToArrayPointer ty x => simp only [hop2, hE x (by simp [Op.operands])]
  | makeSlice ty l c => simp only [hop2, hE l (by simp [Op.operands]), hE c (by simp [Op.operands])]
  | binOp op xT x y yT =>
    cases y with
    | const y => simp only [hop2, hE x (by simp [Op.operands])]
    | _ => rfl
  | call c =>
    have hA : ∀ x ∈ c.args.toList, ∀ g ty, evalO P t g ty x = evalO P t' g ty x := fun x hx g ty => hE x (by simp [Op.operands, Call.operands]; right; simpa using hx) g ty
    simp only [hop2]
    split
    · split
      · rename_i x ty e1 e2
        simp only [hA x (by rw [e1]; simp)]
      · rfl
    · split
      · rename_i x y tx ty e1 e2
        simp only [hA x (by rw [e1]; simp), hA y (by rw [e1]; simp)]
      · rfl
    · rfl
  | _ => rfl

/-- An operation hangs on the slots that it names. -/
theorem hop0_t {L : List Nat} {t t' : List (Nat × V)} (ha : Agree L t t') {g : Option (Nat × Bool)} {o : Oper} {it : Option Item} (hL : o.op.operands.toList.filterMap tmpOf ⊆ L) : hop0 P t s g o it = hop0 P t' s g o it := by
  have hE : ∀ x ∈ o.op.operands, ∀ g ty, evalO P t g ty x = evalO P t' g ty x := fun x hx g ty => evalO_agree ha hL (by simpa using hx)
  have hSc : (∀ cs b, o.op ≠ .select cs b) → ∀ g ty, scOp P (evalO P t g ty) o = scOp P (evalO P t' g ty) o := fun hns g ty => scOp_agree hns (fun x hx => hE x hx g ty)
  obtain ⟨dst, op, type, pos, after, guard⟩ := o
  simp only at hE hL
  cases op with
  | move x => simp only [hop0, hE x (by simp [Op.operands])]
  | assign x => simp only [hop0, hE x (by simp [Op.operands])]
  | pick c a b => simp only [hop0, hE c (by simp [Op.operands]), hE a (by simp [Op.operands]), hE b (by simp [Op.operands])]
  | alloc e => rfl
  | box e x => simp only [hop0, hE x (by simp [Op.operands])]
  | build ty parts =>
    have : ∀ p ∈ parts.toList, ∀ ty, evalO P t g ty p.2 = evalO P t' g ty p.2 := fun p hp ty => hE p.2 (by simp [Op.operands]; exact ⟨p.1, by simpa using hp⟩) g ty
    simp only [hop0]
    rw [buildV_agree this]
  | buildSlice ty len parts =>
    have : ∀ p ∈ parts.toList, ∀ ty, evalO P t g ty p.2 = evalO P t' g ty p.2 := fun p hp ty => hE p.2 (by simp [Op.operands]; exact ⟨p.1, by simpa using hp⟩) g ty
    simp only [hop0, buildSl_agree this]
  | load ty x => simp only [hop0, hE x (by simp [Op.operands])]
  | store ty x y => simp only [hop0, hE x (by simp [Op.operands]), hE y (by simp [Op.operands])]
  | nilCheck x => simp only [hop0, hE x (by simp [Op.operands])]
  | fieldAddr ty x f => simp only [hop0, hE x (by simp [Op.operands])]
  | indexAddr ty x y => simp only [hop0, hE x (by simp [Op.operands]), hE y (by simp [Op.operands])]
  | field ty x f => simp only [hop0, hE x (by simp [Op.operands])]
  | extract x i => simp only [hop0, hE x (by simp [Op.operands])]
  | makeFunc f first caps =>
    cases f with
    | func f =>
      simp only [hop0]
      rw [evalOs_agree ha (xs := caps.toList) (fun d hd => hL (by
        obtain ⟨y, h1, h2⟩ := List.mem_filterMap.1 hd
        exact List.mem_filterMap.2 ⟨y, by simp [Op.operands]; exact .inr (by simpa using h1), h2⟩))]
    | _ => rfl
  | binOp op xT x y yT => simp only [hop0, hE x (by simp [Op.operands]), hE y (by simp [Op.operands]), hSc (by intro _ _ h; cases h)]
  | unOp op ty x => simp only [hop0, hE x (by simp [Op.operands]), hSc (by intro _ _ h; cases h)]
  | convert a b x => simp only [hop0, hE x (by simp [Op.operands]), hSc (by intro _ _ h; cases h)]
  | call c =>
    have hA : ∀ x ∈ c.args.toList, ∀ g ty, evalO P t g ty x = evalO P t' g ty x := fun x hx g ty => hE x (by simp [Op.operands, Call.operands]; right; simpa using hx) g ty
    have hSO : ∀ ty, scalarOperands (evalO P t g ty) c.args.toList = scalarOperands (evalO P t' g ty) c.args.toList := fun ty => scalarOperands_agree (fun x hx => hA x hx g ty)
    simp only [hop0]
    split
    · split
      · rename_i x ty e1 e2
        simp only [hA x (by rw [e1]; simp), hSc (by intro _ _ h; cases h)]
      · rfl
    · split
      · rename_i x y tx ty e1 e2
        simp only [hA x (by rw [e1]; simp), hA y (by rw [e1]; simp)]
      · rfl
    · simp only [hSO, hSc (by intro _ _ h; cases h)]
    · simp only [hSO, hSc (by intro _ _ h; cases h)]
    · rfl
  | index ty x y => simp only [hop0]; exact hop1_t ha hL
  | makeMap ty r => simp only [hop0]; exact hop1_t ha hL
  | lookup ty x k ok => simp only [hop0]; exact hop1_t ha hL
  | mapUpdate ty x k v => simp only [hop0]; exact hop1_t ha hL
  | insert ty x k v => simp only [hop0]; exact hop1_t ha hL
  | slice ty x lo hi mx => simp only [hop0]; exact hop1_t ha hL
  | _ => rfl

theorem hopA_t {L : List Nat} {t t' : List (Nat × V)} (ha : Agree L t t') {g : Option (Nat × Bool)} {o : Oper} {it : Option Item} (hL : o.op.operands.toList.filterMap tmpOf ⊆ L) : hopA P t s g o it = hopA P t' s g o it := by
  unfold hopA
  rw [hop0_t ha hL, hop2_t ha hL]

theorem hop_t {L : List Nat} {t t' : List (Nat × V)} (ha : Agree L t t') {g : Option (Nat × Bool)} {o : Oper} {it : Option Item} (hL : o.op.operands.toList.filterMap tmpOf ⊆ L) : hop P t s g o it = hop P t' s g o it := by
  unfold hop
  simp only [hopA_t ha hL]

/-- What does not look at the store does not hang on it. -/
theorem hop_s {t : List (Nat × V)} {g : Option (Nat × Bool)} {o : Oper} {it : Option Item} {s s' : List SObj} (ht : touch o.op = 0) {q : OpR} (hq : hop P t s g o it = some q) : hop P t s' g o it = some { q with s := s' } := by
  unfold hop at hq ⊢
  rw [ht] at hq ⊢
  simp only at hq ⊢
  split at hq
  · rename_i q' e; injection hq with hq; subst hq; rfl
  · cases hq

theorem callee_t {L : List Nat} {t t' : List (Nat × V)} (ha : Agree L t t') {g : Option (Nat × Bool)} {o : Oper} (hL : o.op.operands.toList.filterMap tmpOf ⊆ L) : callee P t g o = callee P t' g o := by
  obtain ⟨dst, op, type, pos, after, guard⟩ := o
  cases op with
  | call c =>
    have hc : ∀ f, c.callee = .value f → evalO P t g 0 f = evalO P t' g 0 f ∧ evalOs P t g c.argTypes.toList c.args.toList = evalOs P t' g c.argTypes.toList c.args.toList := fun f hf => by
      refine ⟨evalO_agree ha hL (x := f) (by simp [Op.operands, Call.operands, hf]), evalOs_agree ha (fun d hd => hL ?_)⟩
      obtain ⟨y, h1, h2⟩ := List.mem_filterMap.1 hd
      exact List.mem_filterMap.2 ⟨y, by simp [Op.operands, Call.operands, hf]; right; simpa using h1, h2⟩
    simp only [callee]
    split
    · rename_i f hf
      rw [(hc f hf).1, (hc f hf).2]
    · rfl
  | _ => rfl

theorem hopC_t {L : List Nat} {t t' : List (Nat × V)} (ha : Agree L t t') {g : Option (Nat × Bool)} {o : Oper} {it : Option Item} (hL : o.op.operands.toList.filterMap tmpOf ⊆ L) : hopC P t s g o it = hopC P t' s g o it := by
  unfold hopC
  rw [callee_t ha hL, hop_t ha hL]

theorem isCall_touch {o : Oper} (h : isCall o = true) : touch o.op = 0 := by
  obtain ⟨dst, op, type, pos, after, guard⟩ := o
  unfold isCall at h
  cases op with
  | call c => simp only at h; simp only [touch]; split at h <;> simp_all
  | _ => simp at h

theorem hopC_s {t : List (Nat × V)} {g : Option (Nat × Bool)} {o : Oper} {it : Option Item} {s s' : List SObj} (ht : touch o.op = 0) {q : OpR} (hq : hopC P t s g o it = some q) : hopC P t s' g o it = some { q with s := s' } := by
  unfold hopC at hq ⊢
  split at hq
  · rename_i hc
    rw [if_pos hc]
    split at hq
    · rename_i e1; injection hq with hq; subst hq; simp only [e1]
    · cases hq
  · rename_i hc
    rw [if_neg hc]
    exact hop_s ht hq

theorem hopC_still {t : List (Nat × V)} {g : Option (Nat × Bool)} {o : Oper} {it : Option Item} {q : OpR} (ht : touch o.op < 2) (hq : hopC P t s g o it = some q) : q.s = s := by
  unfold hopC at hq
  split at hq
  · split at hq
    · injection hq with hq; rw [← hq]
    · cases hq
  · exact hop_still ht hq

theorem guardOf_t {L : List Nat} {ops : Array Oper} {t t' : List (Nat × V)} (ha : Agree L t t') {o : Oper} (hL : reads ops o ⊆ L) : guardOf ops t o = guardOf ops t' o := by
  unfold guardOf
  split
  · rfl
  · rename_i j want e
    split
    · rename_i d hd
      rw [ha d (hL (by simp [reads, e, hd]))]
    · rfl

/-- A step, from another state that agrees. -/
theorem StepF.agree {ops : Array Oper} {o : Oper} {t t' : List (Nat × V)} {s s' s1 : List SObj} {v : V} (ha : Agree (reads ops o) t t') (hs : touch o.op ≠ 0 → s = s') (h : StepF P ops o t s v s1) : StepF P ops o t' s' v (if touch o.op = 2 then s1 else s') := by
  have hL : o.op.operands.toList.filterMap tmpOf ⊆ reads ops o := fun x hx => by unfold reads; exact List.mem_append.2 (.inl hx)
  have hC : ∀ {it : Option Item} {q : OpR}, hopC P t s none o it = some q → ∃ q', hopC P t' s' none o it = some q' ∧ q'.v = q.v ∧ q'.obs = q.obs ∧ q'.s = (if touch o.op = 2 then q.s else s') := by
    intro it q hq
    rw [hopC_t ha hL] at hq
    by_cases h0 : touch o.op = 0
    · exact ⟨_, hopC_s h0 hq, rfl, rfl, by simp [h0]⟩
    · rw [hs h0] at hq
      refine ⟨q, hq, rfl, rfl, ?_⟩
      split
      · rfl
      · rename_i h2
        exact hopC_still (by
          have : touch o.op ≤ 2 := by
            obtain ⟨dst, op, type, pos, after, guard⟩ := o
            cases op <;> simp [touch]
            all_goals (first | (split <;> simp; done) | (split <;> first | simp | (split <;> simp)))
          omega) hq
  cases h with
  | skip hg =>
    have := StepF.skip (P := P) (s := s') (by rw [← guardOf_t ha (fun x hx => hx)]; exact hg)
    split
    · rename_i h2; rw [hs (by omega)]; exact this
    · exact this
  | run hg hq hob hnw =>
    obtain ⟨q', p1, p2, p3, p4⟩ := hC hq
    have := StepF.run (P := P) (by rw [← guardOf_t ha (fun x hx => hx)]; exact hg) p1 (by rw [p3]; exact hob) (by rw [p2]; exact hnw)
    rw [p2, p4] at this
    exact this
  | told hg hq hob hb =>
    obtain ⟨q', p1, p2, p3, p4⟩ := hC hq
    have := StepF.told (P := P) (by rw [← guardOf_t ha (fun x hx => hx)]; exact hg) p1 (by rw [p3]; exact hob) (by rw [p2]; exact hb)
    rw [p4] at this
    exact this
  | spec hg hq hdst hp htouch =>
    have hq' := hq
    rw [hop_t ha hL] at hq'
    have h2 : ¬ touch o.op = 2 := by omega
    rw [if_neg h2]
    by_cases h0 : touch o.op = 0
    · exact StepF.spec (by rw [← guardOf_t ha (fun x hx => hx)]; exact hg) (hop_s h0 hq') hdst hp htouch
    · rw [hs h0] at hq'
      exact StepF.spec (by rw [← guardOf_t ha (fun x hx => hx)]; exact hg) hq' hdst hp htouch

end Go.HM
