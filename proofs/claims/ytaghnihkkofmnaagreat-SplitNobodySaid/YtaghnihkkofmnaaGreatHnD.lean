/- HN, part D: the evaluator that runs calls is sound. -/
import Derived.Test.YtaghnihkkofmnaaGreatHnC
import Derived.RangeFuncRecord
namespace Go.HM

variable {P : Program} {U : Nat → Nat → Prop} {κ : List Place} {s : List SObj} {w : World} {ok : Nat → Nat → Prop} {C : GCtx} {pf : PFn} {gf : GFn}

def PSound (P : Program) (pf : PFn) : Prop := ∀ f ts D ob rs D' ob', pf f ts D ob = some (rs, D', ob') → allOf ob' → allOf ob ∧ PCall P f ts rs
def GSound (P : Program) (gf : GFn) : Prop := ∀ f s vs D ob rs s' D' ob', gf f s vs D ob = some (rs, s', D', ob') → allOf ob' → allOf ob ∧ GC P f s vs s' rs

theorem tellB_spec {b d : Bool} {D D' : List (Nat × Bool)} {ob ob' : List Prop} (h : tellB b D ob = (d, D', ob')) (ho : allOf ob') : allOf ob ∧ b = d := by
  match D, h with
  | [], h => simp only [tellB, Prod.mk.injEq] at h; obtain ⟨rfl, rfl, rfl⟩ := h; exact ⟨ho, rfl⟩
  | (0, d0) :: r, h => simp only [tellB, Prod.mk.injEq] at h; obtain ⟨rfl, rfl, rfl⟩ := h; exact ⟨ho.2, ho.1⟩
  | (k + 1, d0) :: r, h => simp only [tellB, Prod.mk.injEq] at h; obtain ⟨rfl, rfl, rfl⟩ := h; exact ⟨ho, rfl⟩

theorem resolveG_spec {v v' : V} {D D' : List (Nat × Bool)} {ob ob' : List Prop} (h : resolveG v D ob = (v', D', ob')) (ho : allOf ob') : allOf ob ∧ (v' = v ∨ ∃ b, v = .p (.bool b) ∧ v' = .rb b) := by
  unfold resolveG at h
  split at h
  · rename_i b
    split at h
    rename_i b' D1 ob1 e
    simp only [Prod.mk.injEq] at h
    obtain ⟨rfl, rfl, rfl⟩ := h
    obtain ⟨o, rfl⟩ := tellB_spec e ho
    exact ⟨o, .inr ⟨_, rfl, rfl⟩⟩
  · simp only [Prod.mk.injEq] at h
    obtain ⟨rfl, rfl, rfl⟩ := h
    exact ⟨ho, .inl rfl⟩

def NoWh (t : List (Nat × V)) : Prop := ∀ x d want u, getT t x ≠ some (.wh d want u)

def Eqv (t t' : List (Nat × V)) : Prop := ∀ x, getT t x = getT t' x

theorem putL_spec {st st' : St} {d : Option Nat} {v : V} (h : putL st d v = some st') : st'.n = st.n ∧ st'.s = st.s ∧ (∀ x, getT st'.t x = if d = some x then some v else getT st.t x) ∧ (∀ st2 : St, st2.n = st.n → ∃ st3, setDst st2 d v = some st3) := by
  rw [putL_eq] at h
  split at h
  · injection h with h; subst h
    exact ⟨rfl, rfl, fun x => by simp, fun st2 _ => ⟨st2, rfl⟩⟩
  · rename_i d
    split at h
    · rename_i hlt
      injection h with h; subst h
      refine ⟨rfl, rfl, fun x => ?_, fun st2 hn => by unfold setDst; simp only [hn, hlt, if_true]; exact ⟨_, rfl⟩⟩
      simp only [getT_nil, getT_cons]
      by_cases hx : d = x
      · subst hx; simp
      · have : (d == x) = false := by simpa using hx
        simp [this, hx]
    · cases h

theorem putG_spec {r0 : GR} {st : St} {d : Option Nat} {x : V × List (Nat × Bool) × List Prop} {r : GR} (h : putG r0 st d x = some r) : putL st d x.1 = some r.st ∧ r.D = x.2.1 ∧ r.obs = x.2.2 := by
  unfold putG at h
  split at h
  split at h
  · rename_i e; injection h with h; subst h; exact ⟨e, rfl, rfl⟩
  · cases h

theorem findD_spec {k : T} : ∀ {es : List (T × T)} {i : Nat} {D D' : List (Nat × Bool)} {ob ob' : List Prop} {x : Option (Nat × T)}, findD k es i D ob = (x, D', ob') → allOf ob' → allOf ob ∧ findT k es i = x
  | [], i, D, D', ob, ob', x, h, ho => by
    simp only [findD, Prod.mk.injEq] at h
    obtain ⟨rfl, rfl, rfl⟩ := h
    exact ⟨ho, rfl⟩
  | (a, v) :: r, i, D, D', ob, ob', x, h, ho => by
    unfold findD at h
    split at h
    · rename_i D1 ob1 e
      simp only [Prod.mk.injEq] at h
      obtain ⟨rfl, rfl, rfl⟩ := h
      obtain ⟨h1, h2⟩ := tellB_spec e ho
      exact ⟨h1, by unfold findT; rw [h2]; rfl⟩
    · rename_i D1 ob1 e
      obtain ⟨g1, g2⟩ := findD_spec h ho
      obtain ⟨h1, h2⟩ := tellB_spec e g1
      exact ⟨h1, by unfold findT; rw [h2]; exact g2⟩

theorem lookD_spec {P : Program} {kt vt : TypeId} {ok' : Bool} {k : T} {es : List (T × T)} {D D' : List (Nat × Bool)} {ob ob' : List Prop} {v : V} (h : lookD P kt vt ok' k es D ob = some (v, D', ob')) (ho : allOf ob') : allOf ob ∧ lookV P kt vt ok' k es = some v := by
  unfold lookD at h
  unfold lookV
  split at h
  · rename_i hc
    rw [if_pos hc]
    split at h
    · rename_i z hz
      split at h
      · rename_i e
        injection h with h
        simp only [Prod.mk.injEq] at h
        obtain ⟨rfl, rfl, rfl⟩ := h
        obtain ⟨g1, g2⟩ := findD_spec e ho
        exact ⟨g1, by rw [hz, g2]⟩
      · rename_i e
        injection h with h
        simp only [Prod.mk.injEq] at h
        obtain ⟨rfl, rfl, rfl⟩ := h
        obtain ⟨g1, g2⟩ := findD_spec e ho
        exact ⟨g1, by rw [hz, g2]⟩
    · cases h
  · cases h

theorem putD_spec {P : Program} {kt : TypeId} {k v : T} {es es' : List (T × T)} {D D' : List (Nat × Bool)} {ob ob' : List Prop} (h : putD P kt k v es D ob = some (es', D', ob')) (ho : allOf ob') : allOf ob ∧ putM P kt k v es = some es' := by
  unfold putD at h
  unfold putM
  split at h
  · rename_i hc
    rw [if_pos hc]
    split at h
    · rename_i e
      injection h with h
      simp only [Prod.mk.injEq] at h
      obtain ⟨rfl, rfl, rfl⟩ := h
      obtain ⟨g1, g2⟩ := findD_spec e ho
      exact ⟨g1, by rw [g2]⟩
    · rename_i e
      injection h with h
      simp only [Prod.mk.injEq] at h
      obtain ⟨rfl, rfl, rfl⟩ := h
      obtain ⟨g1, g2⟩ := findD_spec e ho
      exact ⟨g1, by rw [g2]⟩
  · cases h

theorem hopM_spec {P : Program} {t : List (Nat × V)} {s : List SObj} {o : Oper} {D D' : List (Nat × Bool)} {ob ob' : List Prop} {q : OpR} (h : hopM P t s o D ob = some (q, D', ob')) (ho : allOf ob') : allOf ob ∧ hop P t s none o none = some q ∧ q.obs = [] := by
  obtain ⟨dst, op, type, pos, after, guard⟩ := o
  unfold hopM at h
  split at h
  · rename_i ty x k ok' e0
    simp only at e0; subst e0
    split at h
    · rename_i kt vt id e1 e2
      split at h
      · rename_i kk es e3 e4
        split at h
        · rename_i v D1 ob1 e5
          injection h with h
          simp only [Prod.mk.injEq] at h
          obtain ⟨rfl, rfl, rfl⟩ := h
          obtain ⟨g1, g2⟩ := lookD_spec e5 ho
          refine ⟨g1, ?_, rfl⟩
          simp only [hop, touch, hopA, hop0, hop1, e1, e2, e3, e4, g2, Option.map_some]
        · cases h
      · cases h
    · cases h
  · rename_i ty x k v e0
    simp only at e0; subst e0
    split at h
    · rename_i kt vt id e1 e2
      split at h
      · rename_i kk vv es e3 e3' e4
        split at h
        · rename_i es' D1 ob1 e5
          injection h with h
          simp only [Prod.mk.injEq] at h
          obtain ⟨rfl, rfl, rfl⟩ := h
          obtain ⟨g1, g2⟩ := putD_spec e5 ho
          refine ⟨g1, ?_, rfl⟩
          simp only [hop, touch, hopA, hop0, hop1, e1, e2, e3, e3', e4, g2, Option.map_some]
        · cases h
      · cases h
    · cases h
  · rename_i ty x k v e0
    simp only at e0; subst e0
    split at h
    · rename_i kt vt id e1 e2
      split at h
      · rename_i kk vv es e3 e3' e4
        split at h
        · rename_i es' D1 ob1 e5
          injection h with h
          simp only [Prod.mk.injEq] at h
          obtain ⟨rfl, rfl, rfl⟩ := h
          obtain ⟨g1, g2⟩ := putD_spec e5 ho
          refine ⟨g1, ?_, rfl⟩
          simp only [hop, touch, hopA, hop0, hop1, e1, e2, e3, e3', e4, g2, Option.map_some]
        · cases h
      · cases h
    · cases h
  · cases h

theorem bndP_spec {ev : Operand → Option V} {d k : Nat} {x : Option Operand} {p : Prop} (h : bndP ev d k x = some p) (hp : p) : ∃ m, bndOf ev x = some m ∧ m.getD d = k := by
  unfold bndP at h
  split at h
  · injection h with h; subst h; exact ⟨none, rfl, hp⟩
  · rename_i y
    split at h
    · rename_i e1
      injection h with h; subst h
      refine ⟨some k, ?_, rfl⟩
      unfold bndOf
      simp only [e1, hp]
      rfl
    · cases h

theorem hopT_spec {P : Program} {t : List (Nat × V)} {s : List SObj} {o : Oper} {w : Told} {q : OpR} {ps : List Prop} (h : hopT P t s o w = some (q, ps)) (ho : allOf ps) : (hop P t s none o none = some q ∨ hopW P t s o = some q) ∧ q.obs = [] := by
  obtain ⟨dst, op, type, pos, after, guard⟩ := o
  unfold hopT at h
  simp only at h
  split at h
  · rename_i ty x lo hi
    split at h
    · rename_i l hh
      split at h
      · rename_i e xv e1 e2
        split at h
        · rename_i u e3
          split at h
          · rename_i n sz e4 e5
            split at h
            · rename_i p1 p2 u' e6 e7 e8 e9
              simp only [Option.some.injEq, Prod.mk.injEq] at h
              obtain ⟨rfl, rfl⟩ := h
              obtain ⟨h1, h2, h3, h4, _⟩ := ho
              obtain ⟨m1, a1, a2⟩ := bndP_spec e7 h1
              obtain ⟨m2, b1, b2⟩ := bndP_spec e8 h2
              have hb : bnds (evalO P t none 0) n lo hi none = some (l, hh, none) := by
                have hn : bndOf (evalO P t none 0) (none : Option Operand) = some none := rfl
                unfold bnds
                rw [a1, b1, hn]
                simp [a2, b2, bndM, h3, h4]
              refine ⟨.inl ?_, rfl⟩
              unfold hop
              simp only [touch]
              unfold hopA hop0
              simp only [hop1, e1, e2, e3, e4, e5, e6, if_true]
              rw [hb]
              simp only [e9, Option.map_some]
            · cases h
          · cases h
        · cases h
      · cases h
    · cases h
  · rename_i ty x k ok
    split at h
    · rename_i kt vt id e1 e2
      split at h
      · rename_i kk es z e3 e4 e5
        split at h
        · rename_i i v
          simp only [Option.some.injEq, Prod.mk.injEq] at h
          obtain ⟨rfl, rfl⟩ := h
          obtain ⟨h1, h2, _⟩ := ho
          refine ⟨.inl ?_, rfl⟩
          unfold hop
          simp only [touch]
          unfold hopA hop0
          simp only [hop1, e1, e2, e3, e4, lookV, h1, h2, e5, if_true, Option.map_some]
        · simp only [Option.some.injEq, Prod.mk.injEq] at h
          obtain ⟨rfl, rfl⟩ := h
          obtain ⟨h1, h2, _⟩ := ho
          refine ⟨.inl ?_, rfl⟩
          unfold hop
          simp only [touch]
          unfold hopA hop0
          simp only [hop1, e1, e2, e3, e4, lookV, h1, h2, e5, if_true, Option.map_some]
        · cases h
      · cases h
    · cases h
  case h_5 =>
    rename_i c
    split at h
    · rename_i hcl
      split at h
      · rename_i x k tx ty ha ht
        split at h
        · rename_i kt vt id e1 e2
          split at h
          · rename_i kk es e3 e4
            split at h
            · simp only [Option.some.injEq, Prod.mk.injEq] at h
              obtain ⟨rfl, rfl⟩ := h
              obtain ⟨h1, h2, _⟩ := ho
              refine ⟨.inr ?_, rfl⟩
              simp only [hopW, hopW0, hopW1, hopW2, hcl, ha, ht, e1, e2, e3, e4, h1, h2, if_true, delEnt]
            · simp only [Option.some.injEq, Prod.mk.injEq] at h
              obtain ⟨rfl, rfl⟩ := h
              obtain ⟨h1, h2, _⟩ := ho
              refine ⟨.inr ?_, rfl⟩
              simp only [hopW, hopW0, hopW1, hopW2, hcl, ha, ht, e1, e2, e3, e4, h1, h2, if_true, delEnt]
            · cases h
          · cases h
        · cases h
      · cases h
    · cases h
  all_goals first
    | cases h
    | (split at h
       · rename_i kt vt id e1 e2
         split at h
         · rename_i kk vv es e3 e4 e5
           split at h
           · simp only [Option.some.injEq, Prod.mk.injEq] at h
             obtain ⟨rfl, rfl⟩ := h
             obtain ⟨h1, h2, _⟩ := ho
             refine ⟨.inl ?_, rfl⟩
             unfold hop
             simp only [touch]
             unfold hopA hop0
             simp only [hop1, e1, e2, e3, e4, e5, putM, h1, h2, if_true, Option.map_some]
           · simp only [Option.some.injEq, Prod.mk.injEq] at h
             obtain ⟨rfl, rfl⟩ := h
             obtain ⟨h1, h2, _⟩ := ho
             refine ⟨.inl ?_, rfl⟩
             unfold hop
             simp only [touch]
             unfold hopA hop0
             simp only [hop1, e1, e2, e3, e4, e5, putM, h1, h2, if_true, Option.map_some]
           · cases h
         · cases h
       · cases h)

theorem stepC_F0 {ops : Array Oper} {o : Oper} {r r' : GR} (hpf : PSound C.P pf) (hgf : GSound C.P gf) (hs : stepC C pf gf ops o r = some r') (hobs : allOf r'.obs) :
    allOf r.obs ∧ ∃ v s', StepG C.P C.pr ops o r.st.t r.st.s v s' ∧ putL { r.st with s := s' } o.dst v = some r'.st := by
  unfold stepC at hs
  split at hs
  · rename_i hg
    obtain ⟨h1, h2, h3⟩ := putG_spec hs
    exact ⟨by rw [h3] at hobs; exact hobs, _, _, .skip hg, h1⟩
  · rename_i hg
    have fin : ∀ {r0 : GR} {v : V} {s' : List SObj} {D : List (Nat × Bool)} {ob : List Prop}, putG r0 { r.st with s := s' } o.dst (resolveG v D ob) = some r' → StepG C.P C.pr ops o r.st.t r.st.s v s' → allOf ob ∧ ∃ v s', StepG C.P C.pr ops o r.st.t r.st.s v s' ∧ putL { r.st with s := s' } o.dst v = some r'.st := by
      intro r0 v s' D ob hput hst
      generalize hx : resolveG v D ob = x at hput
      obtain ⟨v', D', ob'⟩ := x
      obtain ⟨h1, h2, h3⟩ := putG_spec hput
      simp only at h1 h2 h3
      obtain ⟨o1, hc⟩ := resolveG_spec hx (by rw [← h3]; exact hobs)
      rcases hc with rfl | ⟨b, rfl, rfl⟩
      · exact ⟨o1, _, _, hst, h1⟩
      · exact ⟨o1, _, _, .told hst, h1⟩
    split at hs
    · rename_i hc
      split at hs
      · rename_i hpr
        split at hs
        · rename_i f ts e1
          split at hs
          · rename_i rs q _ _
            have hput : putG { r with QP := q } { r.st with s := r.st.s } o.dst (resolveG (tupOf rs) r.D (PCall C.P f ts rs :: r.obs)) = some r' := hs
            have hob : allOf (PCall C.P f ts rs :: r.obs) := by
              generalize hx : resolveG (tupOf rs) r.D (PCall C.P f ts rs :: r.obs) = x at hput
              obtain ⟨v', D', ob'⟩ := x
              obtain ⟨h1, h2, h3⟩ := putG_spec hput
              simp only at h3
              exact (resolveG_spec hx (by rw [← h3]; exact hobs)).1
            exact ⟨hob.2, (fin hput (.pcall hg hc hpr e1 hob.1)).2⟩
          split at hs
          · rename_i rs D ob e2
            have hput : putG r { r.st with s := r.st.s } o.dst (resolveG (tupOf rs) D ob) = some r' := hs
            have hob : allOf ob := by
              generalize hx : resolveG (tupOf rs) D ob = x at hput
              obtain ⟨v', D', ob'⟩ := x
              obtain ⟨h1, h2, h3⟩ := putG_spec hput
              simp only at h3
              exact (resolveG_spec hx (by rw [← h3]; exact hobs)).1
            obtain ⟨o0, hp⟩ := hpf _ _ _ _ _ _ _ e2 hob
            exact ⟨o0, (fin hput (.pcall hg hc hpr e1 hp)).2⟩
          · cases hs
        · cases hs
      · rename_i hpr
        split at hs
        · rename_i f vs e1
          split at hs
          · rename_i rs s' q htd _
            simp only [Bool.and_eq_true, Bool.not_eq_true'] at htd
            split at hs
            · rename_i hok
              have hob : allOf (GCall C.P f r.st.s vs s' rs :: r.obs) := by
                generalize hx : resolveG (tupV rs) r.D (GCall C.P f r.st.s vs s' rs :: r.obs) = x at hs
                obtain ⟨v', D', ob'⟩ := x
                obtain ⟨h1, h2, h3⟩ := putG_spec hs
                simp only at h3
                exact (resolveG_spec hx (by rw [← h3]; exact hobs)).1
              exact ⟨hob.2, (fin hs (.gcall hg hc (by simpa using hpr) e1 (.of htd.2 hob.1) hok)).2⟩
            · cases hs
          split at hs
          · rename_i rs s' D ob e2
            split at hs
            · rename_i hok
              have hob : allOf ob := by
                generalize hx : resolveG (tupV rs) D ob = x at hs
                obtain ⟨v', D', ob'⟩ := x
                obtain ⟨h1, h2, h3⟩ := putG_spec hs
                simp only at h3
                exact (resolveG_spec hx (by rw [← h3]; exact hobs)).1
              obtain ⟨o0, hp⟩ := hgf _ _ _ _ _ _ _ _ _ e2 hob
              exact ⟨o0, (fin hs (.gcall hg hc (by simpa using hpr) e1 hp hok)).2⟩
            · cases hs
          · cases hs
        · cases hs
    · rename_i hc
      split at hs
      · rename_i hbs
        simp only [Bool.and_eq_true] at hbs
        split at hs
        · rename_i q hq
          obtain ⟨h1, h2, h3⟩ := putG_spec hs
          exact ⟨by rw [h3] at hobs; exact hobs, _, _, .bview hg hbs.1 hbs.2 hq, h1⟩
        · cases hs
      rename_i hbs
      split at hs
      · rename_i w ws _ _
        split at hs
        · rename_i q ps hq
          split at hs
          · cases hs
          · rename_i hwh
            have hob : allOf (ps ++ r.obs) := by
              generalize hx : resolveG q.v r.D (ps ++ r.obs) = x at hs
              obtain ⟨v', D', ob'⟩ := x
              obtain ⟨h1, h2, h3⟩ := putG_spec hs
              simp only at h3
              exact (resolveG_spec hx (by rw [← h3]; exact hobs)).1
            have ha := allOf_append.1 hob
            obtain ⟨g1, g2⟩ := hopT_spec hq ha.1
            rcases g1 with g1 | g1
            · exact ⟨ha.2, (fin hs (.run hg (by simpa using hc) (by simpa using hbs) g1 (fun p hp => by rw [g2] at hp; cases hp) (by simpa using hwh))).2⟩
            · exact ⟨ha.2, (fin hs (.vrun hg (by simpa using hc) (by simpa using hbs) g1 (by simpa using hwh))).2⟩
        · cases hs
      split at hs
      · rename_i q D ob hq
        split at hs
        · cases hs
        · rename_i hwh
          have hob : allOf ob := by
            generalize hx : resolveG q.v D ob = x at hs
            obtain ⟨v', D', ob'⟩ := x
            obtain ⟨h1, h2, h3⟩ := putG_spec hs
            simp only at h3
            exact (resolveG_spec hx (by rw [← h3]; exact hobs)).1
          obtain ⟨g1, g2, g3⟩ := hopM_spec hq hob
          exact ⟨g1, (fin hs (.run hg (by simpa using hc) (by simpa using hbs) g2 (fun p hp => by rw [g3] at hp; cases hp) (by simpa using hwh))).2⟩
      split at hs
      · rename_i q hq0
        have hq : hop C.P r.st.t r.st.s none o (C.item o) = some q := by
          split at hq0
          · cases hq0
          · exact hq0
        split at hs
        · cases hs
        · rename_i hwh
          have hob : allOf (q.obs ++ r.obs) := by
            generalize hx : resolveG q.v r.D (q.obs ++ r.obs) = x at hs
            obtain ⟨v', D', ob'⟩ := x
            obtain ⟨h1, h2, h3⟩ := putG_spec hs
            simp only at h3
            exact (resolveG_spec hx (by rw [← h3]; exact hobs)).1
          have ha := allOf_append.1 hob
          exact ⟨ha.2, (fin hs (.run hg (by simpa using hc) (by simpa using hbs) hq (allOf_mem ha.1) (by simpa using hwh))).2⟩
      split at hs
      · rename_i q hq
        split at hs
        · cases hs
        · rename_i hwh
          have hob : allOf r.obs := by
            generalize hx : resolveG q.v r.D r.obs = x at hs
            obtain ⟨v', D', ob'⟩ := x
            obtain ⟨h1, h2, h3⟩ := putG_spec hs
            simp only at h3
            exact (resolveG_spec hx (by rw [← h3]; exact hobs)).1
          exact ⟨hob, (fin hs (.vrun hg (by simpa using hc) (by simpa using hbs) hq (by simpa using hwh))).2⟩
      · cases hs
  · cases hs

/-- One step, from slots that say the same. -/
theorem stepC_F {ops : Array Oper} {o : Oper} {r r' : GR} (hpf : PSound C.P pf) (hgf : GSound C.P gf) (hs : stepC C pf gf ops o r = some r') (hobs : allOf r'.obs) {t : List (Nat × V)} (ht : Eqv r.st.t t) (hn : NoWh t) :
    allOf r.obs ∧ ∃ v s' t', StepG C.P C.pr ops o t r.st.s v s' ∧ setDst ⟨r.st.n, t, s'⟩ o.dst v = some ⟨r.st.n, t', s'⟩ ∧ Eqv r'.st.t t' ∧ NoWh t' ∧ r'.st.n = r.st.n ∧ r'.st.s = s' := by
  obtain ⟨o0, v, s', h1, h2⟩ := stepC_F0 hpf hgf hs hobs
  obtain ⟨p1, p2, p3, p4⟩ := putL_spec h2
  simp only at p1 p2 p3 p4
  have h1' := h1.agree (t' := t) (s' := r.st.s) (fun x _ => ht x) (fun _ => rfl)
  have hs' : (if tch C.pr o = 2 then s' else r.st.s) = s' := by
    split
    · rfl
    · rename_i h2; exact (stepF_stillG h1 (by have := touch_leG (pr := C.pr) o; omega)).symm
  rw [hs'] at h1'
  obtain ⟨st3, h3⟩ := p4 ⟨r.st.n, t, s'⟩ rfl
  obtain ⟨g1, g2, g3⟩ := setDst_get (st := ⟨r.st.n, t, s'⟩) (s' := s') h3 (fun x dd want u _ => hn x dd want u)
  simp only at g1 g2 g3
  refine ⟨o0, v, s', st3.t, h1', ?_, fun x => ?_, fun x d want u hx => ?_, p1, p2⟩
  · rw [h3, ← g1, ← g2]
  · rw [p3, g3, ht x]
  · rw [g3] at hx
    split at hx
    · injection hx with hx; exact stepF_noWh h1' d want u hx
    · exact hn x d want u hx

theorem opsC_obs {ops : Array Oper} (hpf : PSound C.P pf) (hgf : GSound C.P gf) : ∀ {os : List Oper} {r r' : GR} {fs : List FP}, opsC C pf gf ops os r = some (r', fs) → allOf r'.obs → allOf r.obs
  | [], r, r', fs, h, ho => by simp only [opsC, Option.some.injEq, Prod.mk.injEq] at h; rw [h.1]; exact ho
  | o :: os, r, r', fs, h, ho => by
    simp only [opsC] at h
    split at h
    · rename_i r2 h2
      split at h
      · rename_i r3 fs3 h3
        simp only [Option.some.injEq, Prod.mk.injEq] at h
        obtain ⟨rfl, _⟩ := h
        exact (stepC_F0 hpf hgf h2 (opsC_obs hpf hgf h3 ho)).1
      · cases h
    · cases h

theorem fp_eqv {t t' : List (Nat × V)} (h : Eqv t t') (o : Oper) : fpL P t o = fpL P t' o ∧ fpS P t o = fpS P t' o := by
  have hE : ∀ ty x, evalO P t none ty x = evalO P t' none ty x := fun ty x => evalO_congr (fun d _ => h d)
  unfold fpL fpS
  simp only [hE]
  exact ⟨trivial, trivial⟩

/-- A run's steps, one by one. -/
theorem trace_of_opsC {ops : Array Oper} (hpf : PSound C.P pf) (hgf : GSound C.P gf) : ∀ (os : List Oper) (pre : List Oper) {r r' : GR} {fs : List FP} {t0 : List (Nat × V)}, ops.toList = pre ++ os → opsC C pf gf ops os r = some (r', fs) → allOf r'.obs → Eqv r.st.t t0 → NoWh t0 →
    ∃ t s v, TraceG C.P C.pr ops r.st.n pre.length os.length t s v ∧ t pre.length = t0 ∧ s pre.length = r.st.s ∧ r'.st.n = r.st.n ∧ Eqv r'.st.t (t (pre.length + os.length)) ∧ NoWh (t (pre.length + os.length)) ∧ r'.st.s = s (pre.length + os.length) ∧
      (∀ i o x, os[i]? = some o → fs[i]? = some x → x = (fpL C.P (t (pre.length + i)) o, fpS C.P (t (pre.length + i)) o, fpC C.pr o (s (pre.length + i)) (s (pre.length + i + 1))))
  | [], pre, r, r', fs, t0, hops, h, ho, ht, hn => by
    simp only [opsC, Option.some.injEq, Prod.mk.injEq] at h
    obtain ⟨rfl, rfl⟩ := h
    exact ⟨fun _ => t0, fun _ => r.st.s, fun _ => .bad, ⟨fun i a b => by simp at b; omega⟩, rfl, rfl, rfl, ht, hn, rfl, fun i o x h => by simp at h⟩
  | o :: os, pre, r, r', fs, t0, hops, h, ho, ht, hn => by
    simp only [opsC] at h
    split at h
    · rename_i r1 h1
      split at h
      · rename_i r3 fs3 h3
        simp only [Option.some.injEq, Prod.mk.injEq] at h
        obtain ⟨rfl, rfl⟩ := h
        have ho1 := opsC_obs hpf hgf h3 ho
        obtain ⟨_, v0, s0, t1, a1, a2, a3, a4, a5, a6⟩ := stepC_F hpf hgf h1 ho1 ht hn
        obtain ⟨t, s, v, b1, b2, b3, b4, b5, b6, b7, b8⟩ := trace_of_opsC hpf hgf os (pre ++ [o]) (by simp [hops]) h3 ho a3 a4
        simp only [List.length_append, List.length_cons, List.length_nil, Nat.zero_add] at b1 b2 b3 b5 b6 b7 b8
        have ho' : ops[pre.length]? = some o := by rw [← Array.getElem?_toList, hops]; simp
        refine ⟨fun i => if i = pre.length then t0 else t i, fun i => if i = pre.length then r.st.s else s i, fun i => if i = pre.length then v0 else v i, ⟨fun i hi1 hi2 => ?_⟩, by simp, by simp, by rw [b4, a5], ?_, ?_, ?_, fun i o2 x h1 h2 => ?_⟩
        · by_cases hik : i = pre.length
          · subst hik
            refine ⟨o, ho', ?_, ?_⟩
            · simp only [if_true, show ¬ (pre.length + 1 = pre.length) by omega, if_false, b3, a6]; exact a1
            · simp only [if_true, show ¬ (pre.length + 1 = pre.length) by omega, if_false, b2, b3, a6]; exact a2
          · obtain ⟨o', c1, c2, c3⟩ := b1.step i (by omega) (by simp at hi2; omega)
            refine ⟨o', c1, ?_, ?_⟩
            · simp only [hik, show ¬ (i + 1 = pre.length) by omega, if_false]; exact c2
            · simp only [hik, show ¬ (i + 1 = pre.length) by omega, if_false]; rw [← a5]; exact c3
        · simp only [List.length_cons, show ¬ (pre.length + (os.length + 1) = pre.length) by omega, if_false]
          rw [show pre.length + (os.length + 1) = pre.length + 1 + os.length by omega]; exact b5
        · simp only [List.length_cons, show ¬ (pre.length + (os.length + 1) = pre.length) by omega, if_false]
          rw [show pre.length + (os.length + 1) = pre.length + 1 + os.length by omega]; exact b6
        · simp only [List.length_cons, show ¬ (pre.length + (os.length + 1) = pre.length) by omega, if_false]
          rw [show pre.length + (os.length + 1) = pre.length + 1 + os.length by omega]; exact b7
        · cases i with
          | zero =>
            simp only [List.getElem?_cons_zero, Option.some.injEq] at h1 h2
            subst h1 h2
            simp only [Nat.add_zero, if_true, show ¬ (pre.length + 1 = pre.length) by omega, if_false]
            obtain ⟨q1, q2⟩ := fp_eqv (P := C.P) ht o
            rw [q1, q2, b3]
          | succ i =>
            simp only [List.getElem?_cons_succ] at h1 h2
            have := b8 i o2 x h1 h2
            simp only [show ¬ (pre.length + (i + 1) = pre.length) by omega, show ¬ (pre.length + (i + 1) + 1 = pre.length) by omega, if_false]
            rw [show pre.length + (i + 1) = pre.length + 1 + i by omega]; exact this
      · cases h
    · cases h

/-- In the text's order. -/
theorem trace_wp {ro : Option Nat} {ops : Array Oper} {n : Nat} {t : Nat → List (Nat × V)} {s : Nat → List SObj} {v : Nat → V} {Q : Exit → Act → World → Prop} : ∀ (m k : Nat) {κ : List Place} {a : Act} {w : World}, TraceG C.P C.pr ops n k m t s v → Rel U κ ⟨n, t k, s k⟩ a w →
    (∀ κ' a' w', Rel U κ' ⟨n, t (k + m), s (k + m)⟩ a' w' → Step U κ w κ' w' → Ext κ (s k) κ' (s (k + m)) → Q .normal a' w') → wpOpsIn (FW ro) 0 C.P ops Q (List.range' k m) a w
  | 0, k, κ, a, w, hT, hr, hQ => hQ κ a w hr (.refl _ _ _) (.refl _ _)
  | m + 1, k, κ, a, w, hT, hr, hQ => by
    obtain ⟨o, a1, a2, a3⟩ := hT.step k (Nat.le_refl _) (by omega)
    rw [List.range'_succ, wpOpsIn_cons]
    refine wpOpIn_mono (fun a' w' hK => ?_) (stepG_sound (st := ⟨n, t k, s k⟩) (st' := ⟨n, t (k + 1), s (k + 1)⟩) a1 a2 a3 hr)
    obtain ⟨κ1, hr1, hs1, hx1⟩ := hK
    refine trace_wp m (k + 1) ⟨fun i h1 h2 => hT.step i (by omega) (by omega)⟩ hr1 (fun κ2 a2 w2 hr2 hs2 hx2 => ?_)
    rw [show k + 1 + m = k + (m + 1) by omega] at hr2 hx2
    exact hQ κ2 a2 w2 hr2 (hs1.trans hs2) (hx1.trans hx2)

theorem Rel.eqv {n : Nat} {t t' : List (Nat × V)} {s : List SObj} {a : Act} (h : Rel U κ ⟨n, t, s⟩ a w) (ht : Eqv t' t) : Rel U κ ⟨n, t', s⟩ a w := h.congr rfl rfl ht

theorem memP_owed {fs : List FP} {i k : Nat} : ∀ {l : List (Nat × Nat)}, allOf (owedP fs l) → memP i k l = true → ∀ a s s' x y z w, fs[i]? = some (some a, x, y) → fs[k]? = some (z, w, some (s, s')) → s[a]? = s'[a]?
  | [], _, h, _, _, _, _, _, _, _, _, _ => by simp [memP] at h
  | (i', k') :: r, ho, h, a, s, s', x, y, z, w, e1, e2 => by
    simp only [memP, Bool.or_eq_true, Bool.and_eq_true, Nat.beq_eq] at h
    simp only [owedP] at ho
    rcases h with ⟨rfl, rfl⟩ | h
    · rw [e1, e2] at ho
      exact ho.1
    · split at ho
      · exact memP_owed ho.2 h a s s' x y z w e1 e2
      · exact memP_owed ho h a s s' x y z w e1 e2

theorem apT_ok {ops : Array Oper} {n : Nat} {t : Nat → List (Nat × V)} {s : Nat → List SObj} {v : Nat → V} (hT : TraceG C.P C.pr ops n 0 ops.size t s v) {fs : List FP} {l : List (Nat × Nat)} (hl : allOf (owedP fs l)) (hfs : ∀ i o x, ops[i]? = some o → fs[i]? = some x → x = (fpL C.P (t i) o, fpS C.P (t i) o, fpC C.pr o (s i) (s (i + 1)))) : ApOk C.P C.pr ops (apT ops fs l) t s := by
  intro i k o ok ha ho hok id hid hlt
  unfold apT at ha
  rw [Bool.or_eq_true] at ha
  rcases ha with ha | ha
  · rw [Bool.and_eq_true] at ha
    obtain ⟨hm, hw⟩ := ha
    unfold isOwed at hw
    split at hw
    · rename_i a x y z w' sa sb e1 e2
      have h1 := hfs i o _ ho e1
      have h2 := hfs k ok _ hok e2
      simp only [Prod.mk.injEq] at h1 h2
      have q1 := h1.1
      rw [hid] at q1
      injection q1 with q1
      subst q1
      have q2 := h2.2.2
      have he := memP_owed hl hm _ _ _ _ _ _ _ e1 e2
      unfold fpC at q2
      split at q2
      · injection q2 with q2
        simp only [Prod.mk.injEq] at q2
        rw [← q2.1, ← q2.2]
        exact he.symm
      · cases q2
    · cases hw
  · exact apD_ok hT hfs i k o ok ha ho hok id hid hlt

theorem regC0_sound {ro : Option Nat} {ops : Array Oper} {draw : Bool} {r r' : GR} (hpf : PSound C.P pf) (hgf : GSound C.P gf) (h : regC0 C pf gf ops draw r = some r') (ho : allOf r'.obs) (hnw : NoWh r.st.t) : NoWh r'.st.t ∧ ∀ {κ : List Place} {w : World} {a : Act}, Rel U κ r.st a w →
    RegW C.P ro ops draw (fun x a' w' => x = .normal ∧ ∃ κ', Rel U κ' r'.st a' w' ∧ Step U κ w κ' w' ∧ Ext κ r.st.s κ' r'.st.s) a w := by
  unfold regC0 at h
  split at h
  · rename_i r1 fs h1
    split at h
    · rename_i hd
      injection h with h; subst h
      obtain ⟨howe, ho⟩ := allOf_append.1 ho
      simp only [Bool.or_eq_true, Bool.not_eq_true', Bool.and_eq_true] at hd
      obtain ⟨t, s, v, q1, q2, q3, q4, q5, q6, q7, q8⟩ := trace_of_opsC hpf hgf ops.toList [] (t0 := r.st.t) rfl h1 ho (fun x => rfl) hnw
      simp only [List.length_nil, Nat.zero_add, Array.length_toList] at q1 q2 q3 q5 q6 q7 q8
      refine ⟨fun x d want u hx => q6 x d want u (by rw [← q5 x]; exact hx), fun {κ w a} hr => ?_⟩
      have hback : ∀ {κ' : List Place} {a' : Act} {w' : World}, Rel U κ' ⟨r.st.n, t ops.size, s ops.size⟩ a' w' → Rel U κ' r1.st a' w' := fun hr' => hr'.congr q4 q7 q5
      have hr0 : Rel U κ ⟨r.st.n, t 0, s 0⟩ a w := by rw [q2, q3]; exact hr
      cases draw with
      | false =>
        show wpOpsIn (FW ro) 0 C.P ops _ (List.range ops.size) a w
        have := trace_wp (ro := ro) (U := U) (Q := fun x a' w' => x = .normal ∧ ∃ κ', Rel U κ' r1.st a' w' ∧ Step U κ w κ' w' ∧ Ext κ r.st.s κ' r1.st.s) ops.size 0 q1 hr0 (fun κ' a' w' h1 h2 h3 => ⟨rfl, κ', hback (by simpa using h1), h2, by rw [q7, ← q3]; simpa using h3⟩)
        rw [← List.range_eq_range'] at this
        exact this
      | true =>
        have hc := hd.resolve_left (by simp)
        have h0 : ∀ x d want u, getT (t 0) x ≠ some (.wh d want u) := fun x d want u => by rw [q2]; exact hnw x d want u
        refine ⟨hc.2, ?_⟩
        have hr1 : Rel U κ ⟨r.st.n, t 0, s 0⟩ a { w with drawn := w.drawn + 1 } := hr0.drew _
        have hunl : (unl (Array.replicate ops.size false) ops.size).length = ops.size := by
          have : unl (Array.replicate ops.size false) ops.size = List.range ops.size := by
            unfold unl
            rw [List.filter_eq_self]
            intro k hk
            have : k < ops.size := by simpa using hk
            simp [Array.getD, this]
          rw [this]; simp
        have hnone : ∀ k, ¬ Lst (Array.replicate ops.size false) k := fun k hk => by
          unfold Lst at hk
          simp [Array.getD] at hk
        have finS : ∀ {κ' : List Place} {w' : World}, Step U κ { w with drawn := w.drawn + 1 } κ' w' → Step U κ w κ' w' := fun hs' => (Kept.step0 (U := U) (κ := κ) (w := w) (w' := { w with drawn := w.drawn + 1 }) ⟨rfl, rfl, rfl, Nat.le_refl _, fun _ _ _ => rfl⟩).trans hs'
        rcases hc.1 with hc1 | hc1
        · have hInd : ∃ ap anc, IndepG ap (tch C.pr) ops anc ∧ ApOk C.P C.pr ops ap t s := by
            rcases hc1 with hc1 | hc1
            · obtain ⟨anc, hI⟩ := indep_specG hc1
              exact ⟨_, anc, hI, apS_ok q1⟩
            · obtain ⟨anc, hI⟩ := indep_specG hc1
              exact ⟨_, anc, hI, apT_ok q1 howe (fun i o x h1 h2 => q8 i o x (by simpa using h1) h2)⟩
          obtain ⟨ap, anc, hI, hap⟩ := hInd
          refine drawn_anyG hI q1 h0 hap ops.size hunl (st := ⟨r.st.n, t 0, s 0⟩) ⟨by simp, fun k o e hk => absurd hk (hnone k), fun x d want u hx => absurd hx (h0 x d want u), fun x j o hk => absurd hk (hnone j), fun x _ => rfl, fun m hm hE => ?_⟩ rfl hr1 (fun κ' a' w' hr' hs' hx' => ⟨rfl, κ', hback hr', finS hs', by rw [q7, ← q3]; exact hx'⟩)
          have := store_constG (ops := ops) q1 m 0 (by omega) (fun k o _ hk ho2 ht => hnone k ((hE k o ho2 ht).2 (by omega)))
          simp only [Nat.zero_add] at this
          exact this.symm
        · unfold indepA at hc1
          simp only [Bool.and_eq_true] at hc1
          obtain ⟨f, hf, hf1, hf2⟩ := balFirst_spec hc1.1
          simp only [Array.length_toList, Array.getElem?_toList] at hf hf1 hf2
          obtain ⟨anc, hI⟩ := indep_specG hc1.2
          have hap := apT_ok q1 howe (fun i o x h1 h2 => q8 i o x (by simpa using h1) h2)
          obtain ⟨g1, g2⟩ := hr1.room ((s f).length - (s 0).length)
          refine drawn_anyA (ap := apT ops fs (C.owe ops)) (fun i k o ho' hb' q => ?_) hI q1 h0 hf hf1 hf2 hap (frA_none hI q1 hf1 hf2) ops.size hunl (InvA.first q1 h0 hf hf1 hf2 (by simp) hnone) rfl g1 (fun κ' a' w' hr' hs' hx' => ⟨rfl, κ', hback hr', finS (g2.trans hs'), by rw [q7, ← q3]; exact (Ext.deads hr1.store.len _).trans hx'⟩)
          unfold apA at q
          simp only [Bool.and_eq_true] at q
          exact q.1
    · cases h
  · cases h

theorem GSound.gfD (hgf : GSound C.P gf) {L : List Nat} {f : FuncId} {S : List SObj} {vs : List V} {D : List (Nat × Bool)} {ob : List Prop} {rs : List V} {s' : List SObj} {D' : List (Nat × Bool)} {ob' : List Prop} (h : gfD L gf f S vs D ob = some (rs, s', D', ob')) (ho : allOf ob') : allOf ob ∧ Nat.ble yB f = false ∧ FrCall C.P f L S vs s' rs := by
  unfold Go.HM.gfD at h
  simp only at h
  split at h
  · rename_i rs1 s1' D1 ob1 e
    split at h
    · rename_i hc
      simp only [Option.some.injEq, Prod.mk.injEq] at h
      obtain ⟨rfl, rfl, rfl, rfl⟩ := h
      simp only [Bool.and_eq_true, Nat.ble_eq] at hc
      obtain ⟨o1, hg⟩ := hgf _ _ _ _ _ _ _ _ _ e ho
      simp only [Bool.not_eq_true'] at hc
      exact ⟨o1, hc.2, GCall.without vs (hg.call hc.2) rfl hc.1.1.1.1 hc.1.1.1.2 hc.1.1.2 hc.1.2⟩
    · cases h
  · cases h

theorem isMk_op {P : Program} {t : List (Nat × V)} {o : Oper} (h : isMk P t o = true) : (∃ ty l c, o.op = .makeSlice ty l c) ∨ ∃ c x y tx ty e e' n n' ts us b, o.op = .call c ∧ c.callee = .builtin .append ∧ c.args.toList = [x, y] ∧ c.argTypes.toList = [tx, ty] ∧ P.underlying tx = some (.slice e) ∧ P.underlying ty = some (.slice e') ∧ evalO P t none tx x = some (.p (.lst true n ts)) ∧ evalO P t none ty y = some (.p (.lst b n' us)) := by
  unfold isMk at h
  split at h
  · exact .inl ⟨_, _, _, ‹_›⟩
  · split at h
    · split at h
      · split at h
        · exact .inr ⟨_, _, _, _, _, _, _, _, _, _, _, _, ‹_›, ‹_›, ‹_›, ‹_›, ‹_›, ‹_›, ‹_›, ‹_›⟩
        · cases h
      · cases h
    · cases h
  · cases h

theorem appU_free {P : Program} {s : List SObj} {e : TypeId} {dec : Bool} {n : Nat} {ts : List T} {u : T} {q : OpR} (h : appU P s e dec (.p (.lst true n ts)) u = some q) :
    ∃ ext, q.s = s ++ ext ∧ ∀ S : List SObj, S.length = s.length → appU P S e dec (.p (.lst true n ts)) u = some ⟨q.v, S ++ ext, q.obs⟩ := by
  unfold appU at h ⊢
  split at h
  · rename_i m i h1 h2
    split at h
    · rename_i hc
      simp only at h
      split at h
      · rename_i hn
        split at h
        · rename_i t' b h3 h4
          split at h
          · rename_i hd
            simp only [Option.some.injEq] at h; subst h
            refine ⟨_, rfl, fun S hl => ?_⟩
            simp only [h1, h2, hc, hn, h3, h4, hd, if_true, hl]
          · cases h
        · cases h
      · cases h
    · cases h
  · cases h

/-- A new slice leans on nothing. -/
theorem mk_hop {P : Program} {t : List (Nat × V)} {s : List SObj} {o : Oper} {it : Option Item} {q : OpR} (hm : isMk P t o = true) (h : hop P t s none o it = some q) :
    ∃ ext, q.s = s ++ ext ∧ ∀ S : List SObj, S.length = s.length → hop P t S none o it = some ⟨q.v, S ++ ext, q.obs⟩ := by
  rcases isMk_op hm with ⟨ty, l, c, ho⟩ | ⟨c, x, y, tx, ty, e, e', n, n', ts, us, b, ho, hc, ha, hat, hu, hu', hx, hy⟩
  · clear hm
    obtain ⟨dst, op, type, pos, after, guard⟩ := o
    simp only at ho; subst ho
    unfold hop at h ⊢
    simp only [touch, hopA, hop0, hop2, hop1] at h ⊢
    split at h
    · rename_i e kl li kc ci h1 h2 h3
      split at h
      · rename_i ln cn z i h4 h5 h6 h7
        split at h
        · rename_i hc
          split at h
          · split at h
            · simp only [Option.some.injEq] at h; subst h
              exact ⟨[], by simp, fun S hl => by simp_all; omega⟩
            · rename_i hln hit
              simp only [Option.some.injEq] at h; subst h
              exact ⟨_, rfl, fun S hl => by simp_all; omega⟩
          · simp only [Option.some.injEq] at h; subst h
            exact ⟨_, rfl, fun S hl => by simp_all; omega⟩
        · cases h
      · cases h
    · cases h
  · have key : ∀ S : List SObj, hop P t S none o it = if tx == ty then appU P S e (decOf it) (.p (.lst true n ts)) (.lst b n' us) else none := by
      intro S
      obtain ⟨dst, op, type, pos, after, guard⟩ := o
      simp only at ho; subst ho
      unfold hop
      simp only [touch, hc, hopA, hop0, hop2, ha, hat, hu, hu', hx, hy, appV, V.slice?, srcB]
      cases tx == ty
      · rfl
      · simp only [if_true]
        cases appU P S e (decOf it) (.p (.lst true n ts)) (.lst b n' us) <;> rfl
    rw [key] at h
    split at h
    · rename_i ht
      obtain ⟨ext, h1, h2⟩ := appU_free h
      refine ⟨ext, h1, fun S hl => ?_⟩
      rw [key, if_pos ht]
      exact h2 S hl
    · cases h

theorem FrStep.mk {P : Program} {pr : Oper → Bool} {ops : Array Oper} {o : Oper} {t : List (Nat × V)} {L : List Nat} {s : List SObj} {it : Option Item} {q : OpR} (hg : guardOf ops t o = some (.run none)) (hm : isMk P t o = true) (h : hop P t s none o it = some q) (hobs : ∀ p ∈ q.obs, p) (hL : ∀ id ∈ L, id < s.length) (hw : isWh q.v = false) : FrStep P pr ops o t L s q.v q.s := by
  obtain ⟨ext, he, hS'⟩ := mk_hop hm h
  have hc0 : isCall o = false := by
    rcases isMk_op hm with ⟨ty, l, c, hop'⟩ | ⟨c, _, _, _, _, _, _, _, _, _, _, _, hop', hc, _⟩
    · unfold isCall; rw [hop']
    · unfold isCall; simp only [hop', hc]
  have hb0 : isBS o = false := by
    rcases isMk_op hm with ⟨ty, l, c, hop'⟩ | ⟨c, _, _, _, _, _, _, _, _, _, _, _, hop', hc, _⟩
    · unfold isBS; rw [hop']
    · unfold isBS; simp only [hop', hc]
  rw [he]
  refine ⟨fun S hl hS => ⟨S ++ ext, ?_, by simp [hl], fun id hid => ?_, fun id hid => ?_⟩, fun id hid => ?_⟩
  · have := StepG.run (pr := pr) (ops := ops) (q := ⟨q.v, S ++ ext, q.obs⟩) hg hc0 (by rw [hb0]; rfl) (hS' S hl) hobs hw
    exact this
  · exact List.getElem?_append_left (by rw [hl]; exact hL id hid)
  · by_cases hi : id < s.length
    · rw [List.getElem?_append_left (by omega), List.getElem?_append_left hi]
      rcases hS id with q | q
      · exact q
      · exact absurd q.2 hid
    · rw [List.getElem?_append_right (by omega), List.getElem?_append_right (by omega), hl]
  · exact List.getElem?_append_left (hL id hid)

theorem stepFr_F0 {L : List Nat} {ops : Array Oper} {o : Oper} {r r' : GR} (hgf : GSound C.P gf) (hs : stepFr C gf L ops o r = some r') (hobs : allOf r'.obs) :
    allOf r.obs ∧ ∃ v s', FrStep C.P C.pr ops o r.st.t L r.st.s v s' ∧ putL { r.st with s := s' } o.dst v = some r'.st := by
  unfold stepFr at hs
  split at hs
  · rename_i hg
    obtain ⟨h1, h2, h3⟩ := putG_spec hs
    exact ⟨by rw [h3] at hobs; exact hobs, _, _, .skip hg, h1⟩
  · rename_i hg
    split at hs
    · rename_i hc
      simp only [Bool.and_eq_true, Bool.not_eq_true'] at hc
      split at hs
      · rename_i f vs e1
        split at hs
        · rename_i rs s' D ob e2
          split at hs
          · rename_i hok
            generalize hx : resolveG (tupV rs) D ob = x at hs
            obtain ⟨v', D', ob'⟩ := x
            obtain ⟨h1, h2, h3⟩ := putG_spec hs
            simp only at h1 h2 h3
            obtain ⟨o1, hcase⟩ := resolveG_spec hx (by rw [← h3]; exact hobs)
            obtain ⟨o0, hy, hF⟩ := hgf.gfD e2 o1
            have hst := FrStep.call (ops := ops) (o := o) (t := r.st.t) (pr := C.pr) hg hc.1 hc.2 e1 hy hok hF
            rcases hcase with rfl | ⟨b, hb, rfl⟩
            · exact ⟨o0, _, _, hst, h1⟩
            · rw [hb] at hst
              exact ⟨o0, _, _, hst.told, h1⟩
          · cases hs
        · cases hs
      · cases hs
    · split at hs
      · rename_i hm
        simp only [Bool.and_eq_true] at hm
        split at hs
        · rename_i q e1
          split at hs
          · cases hs
          · rename_i hw
            obtain ⟨h1, h2, h3⟩ := putG_spec hs
            simp only at h1 h2 h3
            rw [h3] at hobs
            obtain ⟨o1, o2⟩ := allOf_append.1 hobs
            have hF := FrStep.mk (pr := C.pr) (ops := ops) (L := L) hg hm.1 e1 (allOf_mem o1) (fun id hid => by
              have := List.all_eq_true.1 hm.2 id hid
              simpa [Nat.blt, Nat.lt_iff_add_one_le] using this) (by simpa using hw)
            exact ⟨o2, _, _, hF, h1⟩
        · cases hs
      · cases hs
  · cases hs

theorem FrStep.at_ {ops : Array Oper} {o : Oper} {t : List (Nat × V)} {L : List Nat} {s s' : List SObj} {v : V} {P : Program} {pr : Oper → Bool} (h : FrStep P pr ops o t L s v s') : StepG P pr ops o t s v s' := by
  obtain ⟨S', h1, h2, h3, h4⟩ := h.1 s rfl (fun id => .inl rfl)
  have : S' = s' := List.ext_getElem? fun id => by
    by_cases hid : id ∈ L
    · rw [h3 id hid, h.2 id hid]
    · exact h4 id hid
  rw [← this]; exact h1

theorem stepA_F0 {L : List Nat} {ops : Array Oper} {o : Oper} {r r' : GR} (hpf : PSound C.P pf) (hgf : GSound C.P gf) (hs : stepA C pf gf ops L o r = some r') (hobs : allOf r'.obs) :
    allOf r.obs ∧ ∃ v s', FrStep C.P C.pr ops o r.st.t L r.st.s v s' ∧ putL { r.st with s := s' } o.dst v = some r'.st := by
  unfold stepA at hs
  split at hs
  · obtain ⟨o0, v, s', h1, h2⟩ := stepC_F0 hpf hgf hs hobs
    exact ⟨o0, v, s', .nil h1, h2⟩
  · exact stepFr_F0 hgf hs hobs

theorem stepA_F {L : List Nat} {ops : Array Oper} {o : Oper} {r r' : GR} (hpf : PSound C.P pf) (hgf : GSound C.P gf) (hs : stepA C pf gf ops L o r = some r') (hobs : allOf r'.obs) {t : List (Nat × V)} (ht : Eqv r.st.t t) (hn : NoWh t) :
    allOf r.obs ∧ ∃ v s' t', FrStep C.P C.pr ops o t L r.st.s v s' ∧ setDst ⟨r.st.n, t, s'⟩ o.dst v = some ⟨r.st.n, t', s'⟩ ∧ Eqv r'.st.t t' ∧ NoWh t' ∧ r'.st.n = r.st.n ∧ r'.st.s = s' := by
  obtain ⟨o0, v, s', h1, h2⟩ := stepA_F0 hpf hgf hs hobs
  obtain ⟨p1, p2, p3, p4⟩ := putL_spec h2
  simp only at p1 p2 p3 p4
  have h1' := h1.eqv (t' := t) ht
  obtain ⟨st3, h3⟩ := p4 ⟨r.st.n, t, s'⟩ rfl
  obtain ⟨g1, g2, g3⟩ := setDst_get (st := ⟨r.st.n, t, s'⟩) (s' := s') h3 (fun x dd want u _ => hn x dd want u)
  simp only at g1 g2 g3
  refine ⟨o0, v, s', st3.t, h1', ?_, fun x => ?_, fun x d want u hx => ?_, p1, p2⟩
  · rw [h3, ← g1, ← g2]
  · rw [p3, g3, ht x]
  · rw [g3] at hx
    split at hx
    · injection hx with hx; exact stepF_noWh h1'.at_ d want u hx
    · exact hn x d want u hx

theorem opsA_obs {ops : Array Oper} {fr : List (Nat × Nat)} {n0 : Nat} (hpf : PSound C.P pf) (hgf : GSound C.P gf) : ∀ {os : List Oper} {i : Nat} {r r' : GR} {fs : List FP}, opsA C pf gf ops fr n0 i os r = some (r', fs) → allOf r'.obs → allOf r.obs
  | [], i, r, r', fs, h, ho => by simp only [opsA, Option.some.injEq, Prod.mk.injEq] at h; rw [h.1]; exact ho
  | o :: os, i, r, r', fs, h, ho => by
    simp only [opsA] at h
    split at h
    · rename_i r2 h2
      split at h
      · rename_i r3 fs3 h3
        simp only [Option.some.injEq, Prod.mk.injEq] at h
        obtain ⟨rfl, _⟩ := h
        exact (stepA_F0 hpf hgf h2 (opsA_obs hpf hgf h3 ho)).1
      · cases h
    · cases h

/-- A run's steps, one by one. -/
theorem trace_of_opsA {ops : Array Oper} {fr : List (Nat × Nat)} {n0 : Nat} (hpf : PSound C.P pf) (hgf : GSound C.P gf) : ∀ (os : List Oper) (pre : List Oper) {r r' : GR} {fs : List FP} {t0 : List (Nat × V)}, ops.toList = pre ++ os → opsA C pf gf ops fr n0 pre.length os r = some (r', fs) → allOf r'.obs → Eqv r.st.t t0 → NoWh t0 →
    ∃ t s v, TraceG C.P C.pr ops r.st.n pre.length os.length t s v ∧ t pre.length = t0 ∧ s pre.length = r.st.s ∧ r'.st.n = r.st.n ∧ Eqv r'.st.t (t (pre.length + os.length)) ∧ NoWh (t (pre.length + os.length)) ∧ r'.st.s = s (pre.length + os.length) ∧
      (∀ i o x, os[i]? = some o → fs[i]? = some x → x = (fpL C.P (t (pre.length + i)) o, fpS C.P (t (pre.length + i)) o, fpC C.pr o (s (pre.length + i)) (s (pre.length + i + 1)))) ∧
      (∀ i o, pre.length ≤ i → ops[i]? = some o → FrStep C.P C.pr ops o (t i) (frIds n0 i fr) (s i) (v i) (s (i + 1)))
  | [], pre, r, r', fs, t0, hops, h, ho, ht, hn => by
    simp only [opsA, Option.some.injEq, Prod.mk.injEq] at h
    obtain ⟨rfl, rfl⟩ := h
    exact ⟨fun _ => t0, fun _ => r.st.s, fun _ => .bad, ⟨fun i a b => by simp at b; omega⟩, rfl, rfl, rfl, ht, hn, rfl, fun i o x h => by simp at h, fun i o h1 h2 => by
      rw [← Array.getElem?_toList, hops, List.append_nil] at h2
      have := getElem?_lt h2
      omega⟩
  | o :: os, pre, r, r', fs, t0, hops, h, ho, ht, hn => by
    simp only [opsA] at h
    split at h
    · rename_i r1 h1
      split at h
      · rename_i r3 fs3 h3
        simp only [Option.some.injEq, Prod.mk.injEq] at h
        obtain ⟨rfl, rfl⟩ := h
        have ho1 := opsA_obs hpf hgf h3 ho
        obtain ⟨_, v0, s0, t1, a1, a2, a3, a4, a5, a6⟩ := stepA_F hpf hgf h1 ho1 ht hn
        obtain ⟨t, s, v, b1, b2, b3, b4, b5, b6, b7, b8, b9⟩ := trace_of_opsA (ops := ops) (n0 := n0) (fr := fr) hpf hgf os (pre ++ [o]) (by simp [hops]) (by rw [List.length_append]; exact h3) ho a3 a4
        simp only [List.length_append, List.length_cons, List.length_nil, Nat.zero_add] at b1 b2 b3 b5 b6 b7 b8 b9
        have ho' : ops[pre.length]? = some o := by rw [← Array.getElem?_toList, hops]; simp
        refine ⟨fun i => if i = pre.length then t0 else t i, fun i => if i = pre.length then r.st.s else s i, fun i => if i = pre.length then v0 else v i, ⟨fun i hi1 hi2 => ?_⟩, by simp, by simp, by rw [b4, a5], ?_, ?_, ?_, fun i o2 x h1 h2 => ?_, fun i o2 hi1 hi2 => ?_⟩
        · by_cases hik : i = pre.length
          · subst hik
            refine ⟨o, ho', ?_, ?_⟩
            · simp only [if_true, show ¬ (pre.length + 1 = pre.length) by omega, if_false, b3, a6]; exact a1.at_
            · simp only [if_true, show ¬ (pre.length + 1 = pre.length) by omega, if_false, b2, b3, a6]; exact a2
          · obtain ⟨o', c1, c2, c3⟩ := b1.step i (by omega) (by simp at hi2; omega)
            refine ⟨o', c1, ?_, ?_⟩
            · simp only [hik, show ¬ (i + 1 = pre.length) by omega, if_false]; exact c2
            · simp only [hik, show ¬ (i + 1 = pre.length) by omega, if_false]; rw [← a5]; exact c3
        · simp only [List.length_cons, show ¬ (pre.length + (os.length + 1) = pre.length) by omega, if_false]
          rw [show pre.length + (os.length + 1) = pre.length + 1 + os.length by omega]; exact b5
        · simp only [List.length_cons, show ¬ (pre.length + (os.length + 1) = pre.length) by omega, if_false]
          rw [show pre.length + (os.length + 1) = pre.length + 1 + os.length by omega]; exact b6
        · simp only [List.length_cons, show ¬ (pre.length + (os.length + 1) = pre.length) by omega, if_false]
          rw [show pre.length + (os.length + 1) = pre.length + 1 + os.length by omega]; exact b7
        · cases i with
          | zero =>
            simp only [List.getElem?_cons_zero, Option.some.injEq] at h1 h2
            subst h1 h2
            simp only [Nat.add_zero, if_true, show ¬ (pre.length + 1 = pre.length) by omega, if_false]
            obtain ⟨q1, q2⟩ := fp_eqv (P := C.P) ht o
            rw [q1, q2, b3]
          | succ i =>
            simp only [List.getElem?_cons_succ] at h1 h2
            have := b8 i o2 x h1 h2
            simp only [show ¬ (pre.length + (i + 1) = pre.length) by omega, show ¬ (pre.length + (i + 1) + 1 = pre.length) by omega, if_false]
            rw [show pre.length + (i + 1) = pre.length + 1 + i by omega]; exact this
        · by_cases hik : i = pre.length
          · subst hik
            rw [ho'] at hi2; injection hi2 with hi2; subst hi2
            simp only [if_true, show ¬ (pre.length + 1 = pre.length) by omega, if_false, b3, a6]; exact a1
          · simp only [hik, show ¬ (i + 1 = pre.length) by omega, if_false]
            exact b9 i o2 (by omega) hi2
      · cases h
    · cases h

/-- A region in which boxes and calls are not ordered. -/
theorem regA_sound {ro : Option Nat} {ops0 ops : Array Oper} {π : Nat → Nat} {fr : List (Nat × Nat)} {r r' : GR} (hpf : PSound C.P pf) (hgf : GSound C.P gf) (h : regA C pf gf ops fr r = some r') (hperm : PermOf ops0 ops π) (ho : allOf r'.obs) (hnw : NoWh r.st.t) : NoWh r'.st.t ∧ ∀ {κ : List Place} {w : World} {a : Act}, Rel U κ r.st a w →
    RegW C.P ro ops0 true (fun x a' w' => x = .normal ∧ ∃ κ', Rel U κ' r'.st a' w' ∧ Step U κ w κ' w' ∧ Ext κ r.st.s κ' r'.st.s) a w := by
  unfold regA at h
  split at h
  · rename_i r1 fs h1
    split at h
    · rename_i hd
      injection h with h; subst h
      obtain ⟨howe, ho⟩ := allOf_append.1 ho
      simp only [Bool.and_eq_true] at hd
      obtain ⟨hind, hmix⟩ := hd
      obtain ⟨t, s, v, q1, q2, q3, q4, q5, q6, q7, q8, q9⟩ := trace_of_opsA hpf hgf ops.toList [] (t0 := r.st.t) rfl h1 ho (fun x => rfl) hnw
      simp only [List.length_nil, Nat.zero_add, Array.length_toList] at q1 q2 q3 q5 q6 q7 q8 q9
      refine ⟨fun x d want u hx => q6 x d want u (by rw [← q5 x]; exact hx), fun {κ w a} hr => ?_⟩
      have hback : ∀ {κ' : List Place} {a' : Act} {w' : World}, Rel U κ' ⟨r.st.n, t ops.size, s ops.size⟩ a' w' → Rel U κ' r1.st a' w' := fun hr' => hr'.congr q4 q7 q5
      have hr0 : Rel U κ ⟨r.st.n, t 0, s 0⟩ a w := by rw [q2, q3]; exact hr
      have h0 : ∀ x d want u, getT (t 0) x ≠ some (.wh d want u) := fun x d want u => by rw [q2]; exact hnw x d want u
      refine ⟨hmix, ?_⟩
      refine wpAny_perm hperm ops0.size (listed' := Array.replicate ops.size false) (by simp) (by simp [hperm.size]) (fun k hk => by
        unfold Lst
        simp [Array.getD]) ?_
      rw [← hperm.size]
      have hr1 : Rel U κ ⟨r.st.n, t 0, s 0⟩ a { w with drawn := w.drawn + 1 } := hr0.drew _
      have hunl : (unl (Array.replicate ops.size false) ops.size).length = ops.size := by
        have : unl (Array.replicate ops.size false) ops.size = List.range ops.size := by
          unfold unl
          rw [List.filter_eq_self]
          intro k hk
          have : k < ops.size := by simpa using hk
          simp [Array.getD, this]
        rw [this]; simp
      have hnone : ∀ k, ¬ Lst (Array.replicate ops.size false) k := fun k hk => by
        unfold Lst at hk
        simp [Array.getD] at hk
      have finS : ∀ {κ' : List Place} {w' : World}, Step U κ { w with drawn := w.drawn + 1 } κ' w' → Step U κ w κ' w' := fun hs' => (Kept.step0 (U := U) (κ := κ) (w := w) (w' := { w with drawn := w.drawn + 1 }) ⟨rfl, rfl, rfl, Nat.le_refl _, fun _ _ _ => rfl⟩).trans hs'
      unfold indepR at hind
      simp only [Bool.and_eq_true] at hind
      obtain ⟨⟨hhead, hfirst⟩, hindep⟩ := hind
      obtain ⟨f, hf, hf1, hf2⟩ := balFirst_spec hfirst
      have hnb := balHead_spec hhead
      simp only [Array.length_toList, Array.getElem?_toList] at hf hf1 hf2 hnb
      obtain ⟨anc, hI⟩ := indep_specG hindep
      have hap := apT_ok q1 howe (fun i o x h1 h2 => q8 i o x (by simpa using h1) h2)
      obtain ⟨g1, g2⟩ := hr1.room ((s f).length - (s 0).length)
      refine drawn_anyA (ap := apT ops fs (C.owe ops)) (fun i k o ho' hb' q => ?_) hI q1 h0 hf hf1 hf2 hap (frA_of hI q1 hf1 hf2 hnb (fun i o hi => by rw [q3]; exact q9 i o (Nat.zero_le _) hi)) ops.size hunl (InvA.first q1 h0 hf hf1 hf2 (by simp) hnone) rfl g1 (fun κ' a' w' hr' hs' hx' => ⟨rfl, κ', hback hr', finS (g2.trans hs'), by rw [q7, ← q3]; exact (Ext.deads hr1.store.len _).trans hx'⟩)
      unfold apR at q
      rw [ho'] at q
      simp only [hb'] at q
      exact q
    · cases h
  · cases h

/-- A REGION. -/
theorem regC_sound {ro : Option Nat} {ops : Array Oper} {draw : Bool} {r r' : GR} (hpf : PSound C.P pf) (hgf : GSound C.P gf) (h : regC C pf gf ops draw r = some r') (ho : allOf r'.obs) (hnw : NoWh r.st.t) : NoWh r'.st.t ∧ ∀ {κ : List Place} {w : World} {a : Act}, Rel U κ r.st a w →
    RegW C.P ro ops draw (fun x a' w' => x = .normal ∧ ∃ κ', Rel U κ' r'.st a' w' ∧ Step U κ w κ' w' ∧ Ext κ r.st.s κ' r'.st.s) a w := by
  unfold regC at h
  split at h
  · rename_i hd
    rw [Bool.and_eq_true] at hd
    obtain ⟨rfl, _⟩ := hd
    obtain ⟨_, π, h2⟩ := ordO_spec true true ops
    exact regA_sound hpf hgf h h2 ho hnw
  · exact regC0_sound hpf hgf h ho hnw

theorem regC_obs {ops : Array Oper} {draw : Bool} {r r' : GR} (hpf : PSound C.P pf) (hgf : GSound C.P gf) (h : regC C pf gf ops draw r = some r') (ho : allOf r'.obs) : allOf r.obs := by
  unfold regC at h
  split at h
  · simp only at h
    unfold regA at h
    split at h
    · rename_i r1 fs h1
      split at h
      · injection h with h; subst h; exact opsA_obs hpf hgf h1 (allOf_append.1 ho).2
      · cases h
    · cases h
  · unfold regC0 at h
    split at h
    · rename_i r1 fs h1
      split at h
      · injection h with h; subst h; exact opsC_obs hpf hgf h1 (allOf_append.1 ho).2
      · cases h
    · cases h

theorem cutT_get : ∀ {t : List (Nat × V)} {l : List Nat} {x : Nat} {v : V}, getT (cutT' l t) x = some v → getT t x = some v
  | [], l, x, v, h => by simp [cutT', getT_nil, getT_cons] at h
  | (y, u) :: r, l, x, v, h => by
    simp only [cutT'] at h
    split at h
    · simp only [getT_nil, getT_cons] at h ⊢
      split at h
      · rename_i hy; rw [if_pos hy]; exact h
      · rename_i hy; rw [if_neg hy]; exact cutT_get h
    · rename_i hm
      simp only [getT_nil, getT_cons]
      split
      · rename_i hy
        exfalso
        have hy' : y = x := by simpa using hy
        subst hy'
        have : ∀ {t : List (Nat × V)} {l : List Nat} {v : V}, getT (cutT' l t) y = some v → memN y l = true := by
          intro t
          induction t with
          | nil => intro l v h; simp [cutT', getT_nil, getT_cons] at h
          | cons p r ih =>
            obtain ⟨z, u⟩ := p
            intro l v h
            simp only [cutT'] at h
            split at h
            · rename_i hz
              simp only [getT_nil, getT_cons] at h
              split at h
              · rename_i hzy
                have : z = y := by simpa using hzy
                rw [← this]; exact hz
              · exact memN_iff.2 (List.mem_of_mem_erase (memN_iff.1 (ih h)))
            · exact ih h
        exact hm (this h)
      · exact cutT_get h

theorem selT_get : ∀ {l : List Nat} {t : List (Nat × V)} {x : Nat} {v : V}, getT (selT l t) x = some v → getT t x = some v
  | [], t, x, v, h => by simp [selT, getT_nil] at h
  | y :: l, t, x, v, h => by
    simp only [selT] at h
    split at h
    · rename_i u hu
      rw [getT_cons] at h
      split at h
      · rename_i hy
        have hy' : y = x := by simpa using hy
        subst hy'
        rw [hu]; exact h
      · exact selT_get h
    · exact selT_get h

theorem cutG_rel {f : FuncId} {id : Nat} {st : St} {a : Act} (h : Rel U κ st a w) : Rel U κ (cutG C f id st) a w := by
  unfold cutG
  split
  · exact ⟨h.store, h.size, h.defers, fun x v hg => h.slot x v (selT_get hg)⟩
  · exact h

theorem cutG_s {f : FuncId} {id : Nat} {st : St} : (cutG C f id st).s = st.s := by unfold cutG; split <;> rfl

theorem cutG_noWh {f : FuncId} {id : Nat} {st : St} (h : NoWh st.t) : NoWh (cutG C f id st).t := by
  unfold cutG
  split
  · exact fun x d want u hx => h x d want u (selT_get hx)
  · exact h

/-- Letting go. -/
theorem frz_ext {st st' : St} {n id : Nat} {κ' : List Place} (hf : st.frz id = some st') (hn : n ≤ id) (hk : ∀ i, i ≠ id → κ'[i]? = κ[i]?) : ExtN n κ st.s κ' st'.s := by
  have main : ∀ t : T × Nat, ExtN n κ st.s κ' ((st.s.map (SObj.frz id t)).set id .dead) := fun t => by
    have hs : ∀ i o, i < n → st.s[i]? = some o → ((st.s.map (SObj.frz id t)).set id .dead)[i]? = some (o.frz id t) := fun i o hi ho => by
      rw [List.getElem?_set_ne (by omega), List.getElem?_map, ho]; rfl
    exact ⟨fun i v pl hi a b => ⟨_, pl, hs i _ hi a, by rw [hk i (by omega)]; exact b, rfl⟩, fun i v pl hi a b => ⟨_, pl, hs i _ hi a, by rw [hk i (by omega)]; exact b, rfl⟩, fun i cur e hi a => ⟨cur, hs i _ hi a, Nat.le_refl _, fun _ => hk i (by omega)⟩,
      fun i cur v hi a => ⟨cur, _, hs i _ hi a, Nat.le_refl _, fun _ => hk i (by omega)⟩, fun i ls pd d f m tt ps as bd pl hi a b => ⟨ls, pd, _, pl, hs i _ hi a, by rw [hk i (by omega)]; exact b, rfl⟩, fun i pl hi a b => ⟨pl, hs i _ hi a, by rw [hk i (by omega)]; exact b, rfl⟩⟩
  unfold St.frz at hf
  split at hf
  · split at hf
    · injection hf with hf; subst hf; exact main _
    · cases hf
  · split at hf
    · injection hf with hf; subst hf; exact main _
    · cases hf
  · cases hf

theorem frzSlots_rel {n : Nat} {a : Act} : ∀ {xs : List Nat} {st : St} {κ : List Place}, Rel U κ st a w → ∃ κ', Rel U κ' (frzSlots n xs st) a w ∧ Step U κ w κ' w ∧ ExtN n κ st.s κ' (frzSlots n xs st).s
  | [], st, κ, h => ⟨κ, h, .refl _ _ _, .of (.refl _ _)⟩
  | x :: xs, st, κ, h => by
    simp only [frzSlots]
    split
    · split
      · rename_i id _ hn
        split
        · rename_i st' hf
          obtain ⟨κ1, r1, s1, k1⟩ := frz_rel h hf
          obtain ⟨κ2, r2, s2, x2⟩ := frzSlots_rel (n := n) (xs := xs) r1
          exact ⟨κ2, r2, s1.trans s2, (frz_ext hf (by simpa using hn) k1).trans x2⟩
        · exact frzSlots_rel h
      · exact frzSlots_rel h
    · exact frzSlots_rel h

theorem frzIds_rel {n : Nat} {a : Act} : ∀ {xs : List Nat} {st : St} {κ : List Place}, Rel U κ st a w → ∃ κ', Rel U κ' (frzIds n xs st) a w ∧ Step U κ w κ' w ∧ ExtN n κ st.s κ' (frzIds n xs st).s
  | [], st, κ, h => ⟨κ, h, .refl _ _ _, .of (.refl _ _)⟩
  | x :: xs, st, κ, h => by
    simp only [frzIds]
    split
    · rename_i st' hf
      obtain ⟨κ1, r1, s1, k1⟩ := frz_rel h hf
      obtain ⟨κ2, r2, s2, x2⟩ := frzIds_rel (n := n) (xs := xs) r1
      exact ⟨κ2, r2, s1.trans s2, (frz_ext hf (by omega) k1).trans x2⟩
    · exact frzIds_rel h

theorem frzC_rel {f : FuncId} {n id : Nat} {ops : Array Oper} {r : GR} {a : Act} (h : Rel U κ r.st a w) : (frzC C f n id ops r).obs = r.obs ∧ ∃ κ', Rel U κ' (frzC C f n id ops r).st a w ∧ Step U κ w κ' w ∧ ExtN n κ r.st.s κ' (frzC C f n id ops r).st.s := by
  unfold frzC
  split
  · exact ⟨rfl, frzSlots_rel h⟩
  · obtain ⟨κ1, r1, s1, x1⟩ := frzSlots_rel (n := n) (xs := C.frz f id) h
    obtain ⟨κ2, r2, s2, x2⟩ := frzSlots_rel (n := n) (xs := sliced C.P C.pr ops.toList ops.toList) r1
    exact ⟨rfl, κ2, r2, s1.trans s2, x1.trans x2⟩

theorem frzC_obs {f : FuncId} {n id : Nat} {ops : Array Oper} {r : GR} : (frzC C f n id ops r).obs = r.obs := by
  unfold frzC
  split <;> rfl

theorem viewT_notWh {t : T} {off n : Nat} : ∀ d want u, viewT t off n ≠ .wh d want u := by
  intro d want u e
  unfold viewT at e
  split at e
  · split at e <;> cases e
  · split at e
    · cases e
    · split at e <;> cases e
  · cases e

theorem cvT_notWh {t : T} {off n e : Nat} : ∀ d want u, cvT t off n e ≠ .wh d want u := by
  intro d want u h
  unfold cvT at h
  split at h
  · split at h <;> cases h
  · cases h

theorem frz_notWh {id : Nat} {t : T × Nat} {v : V} (h : ∀ d want u, v ≠ .wh d want u) : ∀ d want u, v.frz id t ≠ .wh d want u := by
  intro d want u e
  cases v with
  | ptr i off => simp only [V.frz] at e; split at e <;> cases e
  | view i off n => simp only [V.frz] at e; split at e; exact viewT_notWh d want u e; cases e
  | cv i ver off n e' =>
    simp only [V.frz] at e
    split at e
    · split at e
      · exact cvT_notWh d want u e
      · cases e
    · cases e
  | ep i ver off =>
    simp only [V.frz] at e
    split at e
    · split at e <;> cases e
    · cases e
  | wh a b c => exact h a b c rfl
  | _ => simp [V.frz] at e

theorem frz_noWh {st st' : St} {id : Nat} (hf : st.frz id = some st') (h : NoWh st.t) : NoWh st'.t := by
  unfold St.frz at hf
  split at hf
  · split at hf
    · injection hf with hf; subst hf
      intro x d want u hx
      obtain ⟨v0, h0, h1⟩ := getT_frzT hx
      exact frz_notWh (fun d want u e => h x d want u (by rw [h0, e])) d want u h1.symm
    · cases hf
  · split at hf
    · injection hf with hf; subst hf
      intro x d want u hx
      obtain ⟨v0, h0, h1⟩ := getT_frzT hx
      exact frz_notWh (fun d want u e => h x d want u (by rw [h0, e])) d want u h1.symm
    · cases hf
  · cases hf

theorem frzSlots_noWh {n : Nat} : ∀ {xs : List Nat} {st : St}, NoWh st.t → NoWh (frzSlots n xs st).t
  | [], st, h => h
  | x :: xs, st, h => by
    simp only [frzSlots]
    split
    · split
      · split
        · rename_i hf; exact frzSlots_noWh (frz_noWh hf h)
        · exact frzSlots_noWh h
      · exact frzSlots_noWh h
    · exact frzSlots_noWh h

theorem frzIds_noWh {n : Nat} : ∀ {xs : List Nat} {st : St}, NoWh st.t → NoWh (frzIds n xs st).t
  | [], st, h => h
  | x :: xs, st, h => by
    simp only [frzIds]
    split
    · rename_i hf; exact frzIds_noWh (frz_noWh hf h)
    · exact frzIds_noWh h

theorem frzC_noWh {f : FuncId} {n id : Nat} {ops : Array Oper} {r : GR} (h : NoWh r.st.t) : NoWh (frzC C f n id ops r).st.t := by
  unfold frzC
  split
  · exact frzSlots_noWh h
  · exact frzSlots_noWh (frzSlots_noWh h)

theorem noWhB_spec : ∀ {t : List (Nat × V)}, noWhB t = true → NoWh t
  | [], _, x, d, want, u, hx => by simp [getT_nil] at hx
  | (y, v) :: r, h, x, d, want, u, hx => by
    simp only [noWhB, Bool.and_eq_true, Bool.not_eq_true'] at h
    rw [getT_cons] at hx
    split at hx
    · injection hx with hx; rw [hx] at h; simp [isWh] at h
    · exact noWhB_spec h.2 x d want u hx

theorem Rel.cut {l : List Nat} {st : St} {a : Act} (h : Rel U κ st a w) : Rel U κ { st with t := cutT' l st.t } a w := ⟨h.store, h.size, h.defers, fun x v hg => h.slot x v (cutT_get hg)⟩

theorem LoopG.leave {n : Nat} {c : Code} {st st' : St} {e : Ex} (h : CodeG P n c st e st') (he : e.out = true) : LoopG P n c st e st' := by
  refine ⟨1, fun ro hro U κ a w hr => ?_⟩
  rw [roundsIn_succ]
  refine wpIn_mono (h ro hro U κ a w hr) (fun x a' w' hx => ?_)
  cases e with
  | normal => cases he
  | exit id => have hx1 := hx.1; subst hx1; exact hx
  | ret => have hx1 := hx.1; subst hx1; exact hx

theorem GPost.step {n : Nat} {κ1 : List Place} {s1 : List SObj} {w1 w2 : World} {e : Ex} {st' : St} {x : Exit} {a' : Act} (hs : Step U κ w κ1 w1) (hx : ExtN n κ s κ1 s1) (h : GPost U n κ1 s1 w1 e st' x a' w2) : GPost U n κ s w e st' x a' w2 := by
  obtain ⟨a, κ', b, c, d⟩ := h
  exact ⟨a, κ', b, hs.trans c, hx.trans d⟩

theorem iterC_sound {n : Nat} {c : Code} {b : GR → Option (Ex × GR)} (hb : ∀ r r' e, b r = some (e, r') → allOf r'.obs → allOf r.obs ∧ (NoWh r.st.t → NoWh r'.st.t ∧ CodeG C.P n c r.st e r'.st)) : ∀ (k : Nat) {r r' : GR} {e : Ex}, iterC b k r = some (e, r') → allOf r'.obs →
    allOf r.obs ∧ (NoWh r.st.t → NoWh r'.st.t ∧ ∀ ro : Option Nat, (ro = none ∨ noRF c = true) → ∀ (U : Nat → Nat → Prop) (κ : List Place) (a : Act) (w : World), Rel U κ r.st a w → Code.roundsIn (FW ro) 0 C.P c (GPost U n κ r.st.s w e r'.st) k a w)
  | 0, r, r', e, h, ho => by simp [iterC] at h
  | k + 1, r, r', e, h, ho => by
    simp only [iterC] at h
    split at h
    · rename_i r1 h1
      obtain ⟨o1, hl⟩ := iterC_sound hb k h ho
      obtain ⟨o0, hc⟩ := hb _ _ _ h1 o1
      refine ⟨o0, fun hn => ?_⟩
      obtain ⟨n1, hc⟩ := hc hn
      obtain ⟨n2, hl⟩ := hl n1
      refine ⟨n2, fun ro hro U κ a w hr => ?_⟩
      rw [roundsIn_succ]
      refine wpIn_mono (hc ro hro U κ a w hr) (fun x a' w' hx => ?_)
      obtain ⟨rfl, κ1, hr1, hs1, hx1⟩ := hx
      exact roundsIn_mono (fun e a w hq => hq.step hs1 hx1) (hl ro hro U κ1 a' w' hr1)
    · rename_i hne
      obtain ⟨o0, hc⟩ := hb _ _ _ h ho
      refine ⟨o0, fun hn => ?_⟩
      obtain ⟨n1, hc⟩ := hc hn
      refine ⟨n1, fun ro hro U κ a w hr => ?_⟩
      rw [roundsIn_succ]
      refine wpIn_mono (hc ro hro U κ a w hr) (fun x a' w' hx => ?_)
      cases e with
      | normal => exact absurd h (hne r')
      | exit id => have hx1 := hx.1; subst hx1; exact hx
      | ret => have hx1 := hx.1; subst hx1; exact hx

theorem LoopG.next {n : Nat} {c : Code} {st st1 st' : St} {e : Ex} (h : CodeG P n c st .normal st1) (hl : LoopG P n c st1 e st') : LoopG P n c st e st' := by
  obtain ⟨k, hl⟩ := hl
  refine ⟨k + 1, fun ro hro U κ a w hr => ?_⟩
  rw [roundsIn_succ]
  refine wpIn_mono (h ro hro U κ a w hr) (fun x a' w' hx => ?_)
  obtain ⟨rfl, κ1, hr1, hs1, hx1⟩ := hx
  exact roundsIn_mono (fun e a w hq => hq.step hs1 hx1) (hl ro hro U κ1 a' w' hr1)

theorem Slot.act {a b : Act} {x : Nat} {v : V} (h : Slot U κ s w a x v) (ht : b.tmps = a.tmps) : Slot U κ s w b x v := by
  cases v with
  | wh d want u => unfold Slot at h ⊢; rw [ht]; exact h
  | bad => trivial
  | _ => unfold Slot at h ⊢; rw [ht]; exact h

theorem MarksR.cons {ds : List Deferred} {D : Nat} (h : MarksR U κ w ds) (hD : w.heap[D]? = some (.deferred (some []))) (hU : U D 0) (hκ : ∀ pl ∈ κ, pl.live → pl.blk ≠ D) (hn : ∀ d ∈ ds, d ≠ markD D) : MarksR U κ w (markD D :: ds) := by
  obtain ⟨Ds, a, b, c⟩ := h
  refine ⟨D :: Ds, List.nodup_cons.2 ⟨fun q => hn (markD D) (by rw [b]; exact List.mem_map_of_mem q) rfl, a⟩, by rw [b]; rfl, fun D' hD' => ?_⟩
  rcases List.mem_cons.1 hD' with rfl | q
  · exact ⟨hD, hU, hκ⟩
  · exact c D' q

theorem MarksR.old {ds : List Deferred} (h : MarksR U κ w ds) : ∀ d ∈ ds, d ≠ markD w.heap.size := by
  obtain ⟨Ds, a, b, c⟩ := h
  intro d hd e
  rw [b] at hd
  obtain ⟨D, h1, h2⟩ := List.mem_map.1 hd
  rw [e] at h2
  simp only [markD, Deferred.mk.injEq, Target.collected.injEq, and_true] at h2
  have := (c D h1).1
  rw [h2, Array.getElem?_eq_none (Nat.le_refl _)] at this
  cases this

theorem eval_clo {st : St} {a : Act} (h : Rel U κ st a w) {g : Operand} {f : FuncId} {caps : List V} (hg : (evalO P st.t none 0 g).bind cloV = some (f, caps)) :
    ∃ cs : List Value, a.eval g = .func (.func f) #[] cs.toArray ∧ F2 (VV1 U κ st.s w) caps cs := by
  obtain ⟨gv, hg1, hg2⟩ := Option.bind_eq_some_iff.1 hg
  have hv := evalO_spec h (g := none) (fun _ _ e => by cases e) hg1
  unfold cloV at hg2
  split at hg2
  · simp only [Option.some.injEq, Prod.mk.injEq] at hg2
    obtain ⟨rfl, rfl⟩ := hg2
    have hf := (VV_p hv).cell rfl
    generalize hfe : a.eval g = fx at hf
    cases hf with
    | clo q1 q2 => exact ⟨_, rfl, F2.map_left (forall₂_mono (fun _ _ c => VV1_of c) (tcs_one q1 q2))⟩
  · simp only [Option.some.injEq, Prod.mk.injEq] at hg2
    obtain ⟨rfl, rfl⟩ := hg2
    have hf := Vc_one_cell (VV_one hv rfl) rfl
    generalize hfe : a.eval g = fx at hf
    cases hf with
    | clo q1 q2 => exact ⟨_, rfl, vcs_one q1 q2⟩
  · cases hg2

theorem rfEnd_spec {id : Nat} {t : List (Nat × V)} {s s3 : List SObj} {pd : Option Code} (h : rfEnd id t s = some (pd, s3)) :
    ∃ ls d f m tt ps as bd, s[id]? = some (.lp ls pd d f m tt ps as bd) ∧ ls ≠ .busy ∧ ((noYT id t = true ∧ noYO id (s.set id .dead) = true ∧ s3 = s.set id .dead) ∨ s3 = s.set id (.lp .exhausted pd d f m [] ps as bd)) := by
  unfold rfEnd at h
  split at h
  · rename_i ls pd1 d f m tt ps as bd hs
    split at h
    · cases h
    · rename_i hb
      split at h
      · rename_i hc
        simp only [Bool.and_eq_true] at hc
        simp only [Option.some.injEq, Prod.mk.injEq] at h
        obtain ⟨rfl, rfl⟩ := h
        exact ⟨ls, d, f, m, tt, ps, as, bd, hs, hb, .inl ⟨hc.1, hc.2, rfl⟩⟩
      · simp only [Option.some.injEq, Prod.mk.injEq] at h
        obtain ⟨rfl, rfl⟩ := h
        exact ⟨ls, d, f, m, tt, ps, as, bd, hs, hb, .inr rfl⟩
  · cases h

/-- A RANGE OVER A FUNCTION. -/
theorem rangeFunc_code {n : Nat} {st : St} {g : Operand} {ps : Array Tmp} {as bd : Code} {f f' : FuncId} {caps rs : List V} {s2 s3 : List SObj} {pd : Option Code} {e : Ex}
    (hg : (evalO P st.t none 0 g).bind cloV = some (f', caps)) (hn : n ≤ st.s.length)
    (hc : GCall P f' (st.s ++ [.lp .ready none 0 f st.n (noWh st.t) ps as bd]) (.yld st.s.length :: caps) s2 rs)
    (he : rfEnd st.s.length st.t s2 = some (pd, s3)) (hpd : (pd = none ∧ e = .normal) ∨ (∃ j, pd = some (.exit j) ∧ e = .exit j) ∨ (pd = some .ret ∧ e = .ret)) :
    CodeG P n (.rangeFunc g ps as bd) st e { st with s := s3 } := by
  intro ro hro U κ a w hr
  have hro' : ro = none := by
    rcases hro with h | h
    · exact h
    · simp [noRF] at h
  subst hro'
  refine wpIn_rangeFunc ?_
  intro fn _
  obtain ⟨cs, hcv, hcaps⟩ := eval_clo hr hg
  obtain ⟨h1, hst1⟩ := hr.pushStill (.deferred (some []))
  generalize hwd : ({ w with heap := w.heap.push (.deferred (some [])) } : World) = wd at h1 hst1
  have hsz : wd.heap.size = w.heap.size + 1 := by rw [← hwd]; simp
  generalize hlo : ({ state := .ready, pending := none, fn, tmps := a.tmps, params := ps, assign := as, body := bd, defers := w.heap.size } : Loop) = lo
  generalize hpl : (⟨w.heap.size + 1, 0, 0, true⟩ : Place) = plp
  have hplb : plp.blk = wd.heap.size := by rw [← hpl, hsz]
  have hst2 := step_push (U := U) (κ := κ) (w := wd) (.loop lo) plp hplb
  have he2 := Ext.append h1.store.len plp (SObj.lp .ready none 0 f st.n (noWh st.t) ps as bd)
  generalize hw1 : ({ wd with heap := wd.heap.push (.loop lo) } : World) = w1 at hst2
  have hheap : w1.heap[plp.blk]? = some (.loop lo) := by rw [← hw1, hplb]; simp
  have hS1 : RelS U (κ ++ [plp]) (st.s ++ [.lp .ready none 0 f st.n (noWh st.t) ps as bd]) w1 := by
    rw [← hw1]
    refine h1.store.push _ plp _ hplb ?_
    rw [hw1]
    refine ⟨by rw [← hpl], by rw [← hpl], by rw [← hpl], by rw [← hw1, hplb]; simp, a.tmps, ⟨fn, w.heap.size, by rw [hlo]; exact hheap⟩, hr.size, fun x v hx => ?_⟩
    exact Slot.act ((h1.noWh.slot x v hx).ext hst2.pres he2) rfl
  have hD1 : w1.heap[w.heap.size]? = some (.deferred (some [])) := by
    rw [← hw1, heap_push_lt wd _ (by omega), ← hwd]; simp
  have hmarks : MarksR U (κ ++ [plp]) w1 (markD w.heap.size :: a.defers) := by
    refine (hr.defers.step (hst1.trans hst2)).cons hD1 (hr.store.up _ _ (Nat.le_refl _)) (fun p hp hl e => ?_) hr.defers.old
    rcases List.mem_append.1 hp with q | q
    · have := hr.store.below p q hl; omega
    · simp only [List.mem_singleton] at q; subst q; omega
  have hidx : (st.s ++ [SObj.lp .ready none 0 f st.n (noWh st.t) ps as bd])[st.s.length]? = some (.lp .ready none 0 f st.n (noWh st.t) ps as bd) := by simp
  have hkdx : (κ ++ [plp])[st.s.length]? = some plp := by rw [← hr.store.len]; simp
  have hy1 : VV1 U (κ ++ [plp]) (st.s ++ [.lp .ready none 0 f st.n (noWh st.t) ps as bd]) w1 (.yld st.s.length) (.func (.yield (w.heap.size + 1)) #[] #[]) := by
    have := VV1_of_cell (Vc.yld (U := U) (w := w1) hidx hkdx) rfl
    rwa [hplb, hsz] at this
  have hargs : F2 (VV1 U (κ ++ [plp]) (st.s ++ [.lp .ready none 0 f st.n (noWh st.t) ps as bd]) w1) (.yld st.s.length :: caps) (.func (.yield (w.heap.size + 1)) #[] #[] :: cs) :=
    .cons hy1 (hcaps.mono' fun _ _ q => q.ext (hst1.trans hst2).pres he2)
  obtain ⟨⟨fnn, p1, p2, p3⟩, p4⟩ := hc
  refine ⟨w.heap.size + 1, [markD w.heap.size], w1, { target := .fn (.func f') cs.toArray, args := #[.func (.yield (w.heap.size + 1)) #[] #[]] }, w1, f', #[.func (.yield (w.heap.size + 1)) #[] #[]] ++ cs.toArray, w1, ?_, ?_, fun _ _ => trivial, ?_, fun e => (by cases e), ?_⟩
  · have := run_enterLoop_outer (P := P) (w := w) fn a.tmps ps as bd
    rw [hlo] at this
    rw [show (FW none).round = none from rfl, this, ← hw1, ← hwd]
    rfl
  · simp only [resolve, hcv]
    simp [go_sem]
  · simp only [invoke, callFunc, run_program, Sem.run_bind, p1, p2, p3, Result.andThen_ok]
    simp
  · have hcall := p4 U (κ ++ [plp]) w1 _ hS1 hargs
    have harr : (Value.func (.yield (w.heap.size + 1)) #[] #[] :: cs).toArray = #[.func (.yield (w.heap.size + 1)) #[] #[]] ++ cs.toArray := by apply Array.ext'; simp
    rw [harr] at hcall
    refine (callsIn_FW hcall).mono ?_
    rintro e2 w2 ⟨v, κ2, rfl, hS2, _, hst3, hx3⟩
    obtain ⟨ls, d2, f2, m2, tt, ps2, as2, bd2, hs2, hnb, hs3⟩ := rfEnd_spec he
    obtain ⟨ls', pd', t', pl2, q1, q2, q3⟩ := hx3.lp _ _ _ _ _ _ _ _ _ _ plp hidx hkdx
    obtain ⟨fn2, D2, tm2, hh2, hset⟩ := hS2.setLp (ls' := .exhausted) (pd' := pd) (t' := []) hs2 q2 (.inr rfl)
    have hl2 : pl2.blk = w.heap.size + 1 := by rw [q3, hplb, hsz]
    rw [hl2] at hh2 hset
    obtain ⟨hS3, hst4, hx4⟩ := hset _ rfl
    have hend := run_endLoop (P := P) hh2 hnb
    have hstep : Step U κ w κ2 _ := ((hst1.trans hst2).trans hst3).trans hst4
    have hext : Ext κ st.s κ2 _ := (he2.trans hx3).trans hx4
    have hm2 := (hmarks.step hst3).step hst4
    have hfin : ∃ κ3, Rel U κ3 { st with s := s3 } { a with defers := markD w.heap.size :: a.defers } (w2.putObj (w.heap.size + 1) (.loop { state := .exhausted, pending := pd, fn := fn2, tmps := tm2, params := ps2, assign := as2, body := bd2, defers := D2 })) ∧
        Step U κ w κ3 (w2.putObj (w.heap.size + 1) (.loop { state := .exhausted, pending := pd, fn := fn2, tmps := tm2, params := ps2, assign := as2, body := bd2, defers := D2 })) ∧ ExtN n κ st.s κ3 s3 := by
      have hsl : ∀ x v, getT st.t x = some v → Slot U κ2 (s2.set st.s.length (.lp .exhausted pd d2 f2 m2 [] ps2 as2 bd2)) (w2.putObj (w.heap.size + 1) (.loop { state := .exhausted, pending := pd, fn := fn2, tmps := tm2, params := ps2, assign := as2, body := bd2, defers := D2 })) a x v :=
        fun x v hx => (hr.slot x v hx).ext hstep.pres hext
      rcases hs3 with ⟨y1, y2, rfl⟩ | rfl
      · have hsi : (s2.set st.s.length (.lp .exhausted pd d2 f2 m2 [] ps2 as2 bd2))[st.s.length]? = some (.lp .exhausted pd d2 f2 m2 [] ps2 as2 bd2) := List.getElem?_set_self (getElem?_lt hs2)
        have hss : (s2.set st.s.length (.lp .exhausted pd d2 f2 m2 [] ps2 as2 bd2)).set st.s.length .dead = s2.set st.s.length .dead := List.set_set ..
        have hk := hS3.killLp hsi q2 (by rw [hss]; exact y2)
        have hks := kill_step (U := U) (w := w2.putObj (w.heap.size + 1) (.loop { state := .exhausted, pending := pd, fn := fn2, tmps := tm2, params := ps2, assign := as2, body := bd2, defers := D2 })) q2
        rw [hss] at hk
        refine ⟨_, ⟨hk, hr.size, hm2.step hks, fun x v hx => ?_⟩, hstep.trans hks, ?_⟩
        · have := (hsl x v hx).kill hsi (kill_pres q2) (noYT_get y1 hx)
          rw [hss] at this
          exact Slot.act this rfl
        · have := (ExtN.of (n := n) hext).trans (kill_extN (pl := pl2) hn)
          rw [hss] at this
          exact this
      · exact ⟨κ2, ⟨hS3, hr.size, hm2, fun x v hx => Slot.act (hsl x v hx) rfl⟩, hstep, .of hext⟩
    obtain ⟨κ3, hR, hS, hE⟩ := hfin
    refine ⟨pd, _, hend, ?_⟩
    rcases hpd with ⟨rfl, rfl⟩ | ⟨j, rfl, rfl⟩ | ⟨rfl, rfl⟩
    · exact ⟨rfl, κ3, hR, hS, hE⟩
    · exact wpIn_exit ⟨rfl, κ3, hR, hS, hE⟩
    · exact wpIn_ret ⟨rfl, κ3, hR, hS, hE⟩

/-- CODE. -/
theorem evC_sound (hpf : PSound C.P pf) (hgf : GSound C.P gf) {f : FuncId} {n : Nat} : ∀ (c : Code) {r r' : GR} {e : Ex}, evC C pf gf f n c r = some (e, r') → allOf r'.obs → allOf r.obs ∧ (NoWh r.st.t → NoWh r'.st.t ∧ CodeG C.P n c r.st e r'.st)
  | .skip, r, r', e, h, ho => by
    simp only [evC, Option.some.injEq, Prod.mk.injEq] at h
    obtain ⟨rfl, rfl⟩ := h
    exact ⟨ho, fun hn => ⟨hn, fun ro hro U κ a w hr => wpIn_skip ⟨rfl, κ, hr, .refl _ _ _, .of (.refl _ _)⟩⟩⟩
  | .label l, r, r', e, h, ho => by
    simp only [evC, Option.some.injEq, Prod.mk.injEq] at h
    obtain ⟨rfl, rfl⟩ := h
    exact ⟨ho, fun hn => ⟨hn, fun ro hro U κ a w hr => wpIn_label ⟨rfl, κ, hr, .refl _ _ _, .of (.refl _ _)⟩⟩⟩
  | .region id ops draw, r, r', e, h, ho => by
    simp only [evC] at h
    split at h
    · rename_i r1 h1
      simp only [Option.some.injEq, Prod.mk.injEq] at h
      obtain ⟨rfl, rfl⟩ := h
      refine ⟨by have := regC_obs hpf hgf h1 ho; rw [frzC_obs] at this; exact this, fun hn => ?_⟩
      have hnf := frzC_noWh (C := C) (f := f) (n := n) (id := id) (ops := ops) (r := cutR C f id r) (cutG_noWh hn)
      refine ⟨(regC_sound (ro := none) (U := fun _ _ => True) hpf hgf h1 ho hnf).1, fun ro hro U κ a w hr => ?_⟩
      obtain ⟨_, κ1, hr1, hs1, hx1⟩ := frzC_rel (C := C) (f := f) (n := n) (id := id) (ops := ops) (r := cutR C f id r) (cutG_rel hr)
      refine wpIn_mono (((regC_sound hpf hgf h1 ho hnf).2 hr1).wpIn) (fun x a' w' hq => ?_)
      obtain ⟨q1, κ2, q2, q3, q4⟩ := hq
      rw [show (cutR C f id r).st.s = r.st.s from cutG_s] at hx1
      exact ⟨q1, κ2, q2, hs1.trans q3, hx1.trans (.of q4)⟩
    · cases h
  | .seq x y, r, r', e, h, ho => by
    simp only [evC] at h
    split at h
    · rename_i r1 h1
      obtain ⟨o1, c2⟩ := evC_sound hpf hgf y h ho
      obtain ⟨o0, c1⟩ := evC_sound hpf hgf x h1 o1
      refine ⟨o0, fun hn => ?_⟩
      obtain ⟨n1, c1⟩ := c1 hn
      obtain ⟨n2, c2⟩ := c2 n1
      refine ⟨n2, fun ro hro U κ a w hr => wpIn_seq (wpIn_mono (c1 ro (noRF_l hro) U κ a w hr) (fun z a' w' hz => ?_))⟩
      obtain ⟨rfl, κ1, hr1, hs1, hx1⟩ := hz
      exact wpIn_mono (c2 ro (noRF_r hro) U κ1 a' w' hr1) (fun z a'' w'' hq => hq.step hs1 hx1)
    · rename_i hne
      obtain ⟨o0, c1⟩ := evC_sound hpf hgf x h ho
      have he : e ≠ .normal := by
        rintro rfl
        exact hne r' h
      refine ⟨o0, fun hn => ?_⟩
      obtain ⟨n1, c1⟩ := c1 hn
      refine ⟨n1, fun ro hro U κ a w hr => wpIn_seq (wpIn_mono (c1 ro (noRF_l hro) U κ a w hr) (fun z a' w' hz => ?_))⟩
      cases e with
      | normal => exact absurd rfl he
      | exit id => have hz1 := hz.1; subst hz1; exact hz
      | ret => have hz1 := hz.1; subst hz1; exact hz
  | .cond c x y, r, r', e, h, ho => by
    simp only [evC] at h
    split at h
    · rename_i hc
      obtain ⟨o0, c1⟩ := evC_sound hpf hgf x h ho
      refine ⟨o0, fun hn => ⟨(c1 hn).1, fun ro hro U κ a w hr => wpIn_cond_true ?_ ((c1 hn).2 ro (noRF_t hro) U κ a w hr)⟩⟩
      exact VV_rb (evalO_spec hr (g := none) (fun _ _ q => by cases q) hc)
    · rename_i hc
      obtain ⟨o0, c1⟩ := evC_sound hpf hgf y h ho
      refine ⟨o0, fun hn => ⟨(c1 hn).1, fun ro hro U κ a w hr => wpIn_cond_false ?_ ((c1 hn).2 ro (noRF_f hro) U κ a w hr)⟩⟩
      exact VV_rb (evalO_spec hr (g := none) (fun _ _ q => by cases q) hc)
    · rename_i b hc
      split at h
      · rename_i D ob hos
        obtain ⟨o0, c1⟩ := evC_sound hpf hgf x h ho
        obtain ⟨o2, hb⟩ := tellB_spec hos o0
        refine ⟨o2, fun hn => ⟨(c1 hn).1, fun ro hro U κ a w hr => wpIn_cond_true ?_ ((c1 hn).2 ro (noRF_t hro) U κ a w hr)⟩⟩
        have := VV_bool (evalO_spec hr (g := none) (fun _ _ q => by cases q) hc)
        rw [this, hb]
      · rename_i D ob hos
        obtain ⟨o0, c1⟩ := evC_sound hpf hgf y h ho
        obtain ⟨o2, hb⟩ := tellB_spec hos o0
        refine ⟨o2, fun hn => ⟨(c1 hn).1, fun ro hro U κ a w hr => wpIn_cond_false ?_ ((c1 hn).2 ro (noRF_f hro) U κ a w hr)⟩⟩
        have := VV_bool (evalO_spec hr (g := none) (fun _ _ q => by cases q) hc)
        rw [this, hb]
    · cases h
  | .block id c, r, r', e, h, ho => by
    simp only [evC] at h
    split at h
    · rename_i j r1 h1
      split at h
      · rename_i hj
        have hj' : j = id := by simpa using hj
        subst hj'
        injection h with h; injection h with h2 h3; subst h2 h3
        obtain ⟨o0, c1⟩ := evC_sound hpf hgf c h1 ho
        refine ⟨o0, fun hn => ⟨(c1 hn).1, fun ro hro U κ a w hr => wpIn_block (wpIn_mono ((c1 hn).2 ro hro U κ a w hr) (fun z a' w' hz => ?_))⟩⟩
        have hz1 := hz.1; subst hz1
        simp only [Ex.to, Exit.inBlock, if_true]
        exact ⟨rfl, hz.2⟩
      · rename_i hj
        have hj' : ¬ j = id := by simpa using hj
        injection h with h; injection h with h2 h3; subst h2 h3
        obtain ⟨o0, c1⟩ := evC_sound hpf hgf c h1 ho
        refine ⟨o0, fun hn => ⟨(c1 hn).1, fun ro hro U κ a w hr => wpIn_block (wpIn_mono ((c1 hn).2 ro hro U κ a w hr) (fun z a' w' hz => ?_))⟩⟩
        have hz1 := hz.1; subst hz1
        simp only [Ex.to, Exit.inBlock, hj', if_false]
        exact ⟨rfl, hz.2⟩
    · rename_i hne
      obtain ⟨o0, c1⟩ := evC_sound hpf hgf c h ho
      refine ⟨o0, fun hn => ⟨(c1 hn).1, fun ro hro U κ a w hr => wpIn_block (wpIn_mono ((c1 hn).2 ro hro U κ a w hr) (fun z a' w' hz => ?_))⟩⟩
      cases e with
      | normal => have hz1 := hz.1; subst hz1; simp only [Ex.to, Exit.inBlock]; exact ⟨rfl, hz.2⟩
      | exit j => exact absurd h (hne j r')
      | ret => have hz1 := hz.1; subst hz1; simp only [Ex.to, Exit.inBlock]; exact ⟨rfl, hz.2⟩
  | .loop c, r, r', e, h, ho => by
    simp only [evC] at h
    split at h
    · rename_i k e' st' ls hL
      split at h
      · rename_i hc
        simp only [Bool.and_eq_true] at hc
        simp only [Option.some.injEq, Prod.mk.injEq] at h
        obtain ⟨rfl, rfl⟩ := h
        refine ⟨ho.2, fun hn => ⟨noWhB_spec hc.2, fun ro hro U κ a w hr => ?_⟩⟩
        obtain ⟨k, hl⟩ := ho.1
        exact wpIn_loop_rounds _ (hl ro hro U κ a w hr.cut)
      · cases h
    · obtain ⟨o0, hl⟩ := iterC_sound (C := C) (n := n) (c := c) (fun r r' e h ho => evC_sound hpf hgf c h ho) C.fuel h ho
      exact ⟨o0, fun hn => ⟨(hl hn).1, fun ro hro U κ a w hr => wpIn_loop_rounds _ ((hl hn).2 ro hro U κ a w hr)⟩⟩
    · obtain ⟨o0, hl⟩ := iterC_sound (C := C) (n := n) (c := c) (fun r r' e h ho => evC_sound hpf hgf c h ho) C.fuel h ho
      exact ⟨o0, fun hn => ⟨(hl hn).1, fun ro hro U κ a w hr => wpIn_loop_rounds _ ((hl hn).2 ro hro U κ a w hr)⟩⟩
  | .scope c, r, r', e, h, ho => by
    simp only [evC] at h
    obtain ⟨o0, c1⟩ := evC_sound hpf hgf c h ho
    refine ⟨o0, fun hn => ⟨(c1 hn).1, fun ro hro U κ a w hr => wpIn_scope_straight (wpIn_mono ((c1 hn).2 ro hro U κ a w hr) (fun z a' w' hz => ?_))⟩⟩
    have hz1 := hz.1
    subst hz1
    cases e <;> exact hz
  | .exit id, r, r', e, h, ho => by
    simp only [evC, Option.some.injEq, Prod.mk.injEq] at h
    obtain ⟨rfl, rfl⟩ := h
    exact ⟨ho, fun hn => ⟨hn, fun ro hro U κ a w hr => wpIn_exit ⟨rfl, κ, hr, .refl _ _ _, .of (.refl _ _)⟩⟩⟩
  | .ret, r, r', e, h, ho => by
    simp only [evC, Option.some.injEq, Prod.mk.injEq] at h
    obtain ⟨rfl, rfl⟩ := h
    exact ⟨ho, fun hn => ⟨hn, fun ro hro U κ a w hr => wpIn_ret ⟨rfl, κ, hr, .refl _ _ _, .of (.refl _ _)⟩⟩⟩
  | .rangeFunc g ps as bd, r, r', e, h, ho => by
    simp only [evC] at h
    split at h
    · rename_i f' caps hg
      split at h
      · rename_i rs s2 D ob hy hcall
        simp only [Bool.and_eq_true, Bool.not_eq_true', Nat.ble_eq] at hy
        have key : ∀ (pd : Option Code) (s3 : List SObj) (e1 : Ex), rfEnd r.st.s.length r.st.t s2 = some (pd, s3) → ((pd = none ∧ e1 = .normal) ∨ (∃ j, pd = some (.exit j) ∧ e1 = .exit j) ∨ (pd = some .ret ∧ e1 = .ret)) →
            some (e1, ({ r with st := { r.st with s := s3 }, D, obs := ob } : GR)) = some (e, r') → allOf r.obs ∧ (NoWh r.st.t → NoWh r'.st.t ∧ CodeG C.P n (.rangeFunc g ps as bd) r.st e r'.st) := by
          intro pd s3 e1 hend hpd heq
          simp only [Option.some.injEq, Prod.mk.injEq] at heq
          obtain ⟨rfl, rfl⟩ := heq
          obtain ⟨o0, hgc⟩ := hgf _ _ _ _ _ _ _ _ _ hcall ho
          exact ⟨o0, fun hn => ⟨hn, rangeFunc_code hg hy.2 (hgc.call hy.1) hend hpd⟩⟩
        split at h
        · rename_i s3 hend; exact key _ _ _ hend (.inl ⟨rfl, rfl⟩) h
        · rename_i j s3 hend; exact key _ _ _ hend (.inr (.inl ⟨j, rfl, rfl⟩)) h
        · rename_i s3 hend; exact key _ _ _ hend (.inr (.inr ⟨rfl, rfl⟩)) h
        · cases h
      · cases h
    · cases h

end Go.HM
