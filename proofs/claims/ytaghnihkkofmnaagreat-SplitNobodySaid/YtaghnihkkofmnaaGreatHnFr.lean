/- HN, part Fr: a call that was proved for a small store holds in every store that has it. -/
import Derived.Test.YtaghnihkkofmnaaGreatHnBa
namespace Go.HM
variable {P : Program}

mutual
/-- The ids of objects, renamed. -/
def V.ren (σ : Nat → Nat) : V → V
  | .p t => .p t
  | .rb b => .rb b
  | .ptr id off => .ptr (σ id) off
  | .row id ver t => .row (σ id) ver t
  | .map id => .map (σ id)
  | .view id off n => .view (σ id) off n
  | .cv id ver off n e => .cv (σ id) ver off n e
  | .ep id ver off => .ep (σ id) ver off
  | .yld id => .yld (σ id)
  | .agg vs => .agg (V.rens σ vs)
  | .clo f vs => .clo f (V.rens σ vs)
  | .tup vs => .tup (V.rens σ vs)
  | .wh d b v => .wh d b (v.ren σ)
  | .bad => .bad
def V.rens (σ : Nat → Nat) : List V → List V
  | [] => []
  | v :: vs => v.ren σ :: V.rens σ vs
end
mutual
/-- All ids are below n. -/
def V.blw (n : Nat) : V → Bool
  | .p _ => true
  | .rb _ => true
  | .ptr id _ => Nat.blt id n
  | .row id _ _ => Nat.blt id n
  | .map id => Nat.blt id n
  | .view id _ _ => Nat.blt id n
  | .cv id _ _ _ _ => Nat.blt id n
  | .ep id _ _ => Nat.blt id n
  | .yld id => Nat.blt id n
  | .agg vs => V.blws n vs
  | .clo _ vs => V.blws n vs
  | .tup vs => V.blws n vs
  | .wh _ _ v => v.blw n
  | .bad => true
def V.blws (n : Nat) : List V → Bool
  | [] => true
  | v :: vs => v.blw n && V.blws n vs
end
def renT (σ : Nat → Nat) (t : List (Nat × V)) : List (Nat × V) := t.map fun p => (p.1, p.2.ren σ)
theorem getT_renT {σ : Nat → Nat} : ∀ {t : List (Nat × V)} {x : Nat} {v : V}, getT (renT σ t) x = some v → ∃ v0, getT t x = some v0 ∧ v = v0.ren σ
  | [], x, v, h => by simp [renT, getT_nil] at h
  | (y, z) :: r, x, v, h => by
    simp only [renT, List.map_cons, getT_cons] at h ⊢
    split at h
    · rename_i hy
      rw [if_pos hy]
      injection h with h
      exact ⟨z, rfl, h.symm⟩
    · rename_i hy
      rw [if_neg hy]
      exact getT_renT h
def SObj.ren (σ : Nat → Nat) : SObj → SObj
  | .box v => .box (v.ren σ)
  | .vec c v => .vec c (v.ren σ)
  | .row c e => .row c e
  | .map es => .map es
  | .dead => .dead
  | .lp ls pd d f n t ps as bd => .lp ls pd (σ d) f n (renT σ t) ps as bd
  | .dfr => .dfr
def SObj.blw (n : Nat) : SObj → Bool
  | .box v => v.blw n
  | .vec _ v => v.blw n
  | .lp .. => false
  | .dfr => false
  | _ => true

mutual
theorem V.ren_sz (σ : Nat → Nat) : ∀ v : V, (v.ren σ).sz = v.sz
  | .p _ => rfl
  | .rb _ => rfl
  | .ptr _ _ => rfl
  | .row _ _ _ => rfl
  | .map _ => rfl
  | .view _ _ _ => rfl
  | .cv _ _ _ _ _ => rfl
  | .ep _ _ _ => rfl
  | .yld _ => rfl
  | .agg vs => by simp only [V.ren, V.sz, V.rens_szs σ vs]
  | .clo _ _ => rfl
  | .tup _ => rfl
  | .wh _ _ _ => rfl
  | .bad => rfl
theorem V.rens_szs (σ : Nat → Nat) : ∀ vs : List V, V.szs (V.rens σ vs) = V.szs vs
  | [] => rfl
  | v :: vs => by simp only [V.rens, V.szs, V.ren_sz σ v, V.rens_szs σ vs]
end
theorem V.ren_isAgg (σ : Nat → Nat) (v : V) : (v.ren σ).isAgg = v.isAgg := by cases v <;> rfl
theorem V.rens_mem (σ : Nat → Nat) : ∀ (vs : List V), ∀ u ∈ V.rens σ vs, ∃ v ∈ vs, u = v.ren σ
  | [], u, h => by simp [V.rens] at h
  | v :: vs, u, h => by
    simp only [V.rens, List.mem_cons] at h
    rcases h with rfl | h
    · exact ⟨v, by simp, rfl⟩
    · obtain ⟨x, a, b⟩ := V.rens_mem σ vs u h
      exact ⟨x, by simp [a], b⟩
theorem V.mem_rens (σ : Nat → Nat) : ∀ (vs : List V), ∀ v ∈ vs, v.ren σ ∈ V.rens σ vs
  | [], v, h => by simp at h
  | x :: vs, v, h => by
    simp only [V.rens, List.mem_cons] at h ⊢
    rcases h with rfl | h
    · exact .inl rfl
    · exact .inr (V.mem_rens σ vs v h)

section
variable {U U1 : Nat → Nat → Prop} {K κ : List Place} {S s : List SObj} {w : World} {σ : Nat → Nat}

mutual
theorem Vc.ren (hs : ∀ i o, s[i]? = some o → S[σ i]? = some (o.ren σ)) (hk : ∀ i pl, κ[i]? = some pl → K[σ i]? = some pl) (hp : Pres w (okOf U1 κ) w (okOf U K)) :
    ∀ {v : V} {cs : List Value}, Vc U1 κ s w v cs → Vc U K S w (v.ren σ) cs
  | _, _, .p h => .p (h.pres hp)
  | _, _, .rb b => .rb b
  | _, _, .ptr h k => .ptr (hs _ _ h) (hk _ _ k)
  | _, _, .row h k l m => .row (h.pres hp) (hs _ _ k) l (fun e => by
      rcases m e with q | ⟨pl, o, q⟩
      · exact .inl q
      · exact .inr ⟨pl, o, hk _ _ q.1, q.2⟩)
  | _, _, .map h k => .map (hs _ _ h) (hk _ _ k)
  | _, _, .view h k => .view (hs _ _ h) (hk _ _ k)
  | _, _, .cv k l n m => .cv (hs _ _ k) l n (fun e => by obtain ⟨pl, q⟩ := m e; exact ⟨pl, hk _ _ q.1, q.2⟩)
  | _, _, .ep k l m => .ep (hs _ _ k) l (fun e => by obtain ⟨pl, q⟩ := m e; exact ⟨pl, hk _ _ q.1, q.2⟩)
  | _, _, .yld h k => .yld (hs _ _ h) (hk _ _ k)
  | _, _, .agg h => .agg (Vcs.ren hs hk hp h)
  | _, _, .clo h k => .clo (Vcs.ren hs hk hp h) (fun u hu => by obtain ⟨v, a, rfl⟩ := V.rens_mem σ _ u hu; rw [V.ren_isAgg]; exact k v a)
  | _, _, .bad h => .bad h
theorem Vcs.ren (hs : ∀ i o, s[i]? = some o → S[σ i]? = some (o.ren σ)) (hk : ∀ i pl, κ[i]? = some pl → K[σ i]? = some pl) (hp : Pres w (okOf U1 κ) w (okOf U K)) :
    ∀ {vs : List V} {cs : List Value}, Vcs U1 κ s w vs cs → Vcs U K S w (V.rens σ vs) cs
  | _, _, .nil => .nil
  | _, _, .cons h k => .cons (Vc.ren hs hk hp h) (Vcs.ren hs hk hp k)
end

theorem Slot.ren (hs : ∀ i o, s[i]? = some o → S[σ i]? = some (o.ren σ)) (hk : ∀ i pl, κ[i]? = some pl → K[σ i]? = some pl) (hp : Pres w (okOf U1 κ) w (okOf U K)) {a : Act} {x : Nat} {v : V} (h : Slot U1 κ s w a x v) : Slot U K S w a x (v.ren σ) := by
  have two : ∀ {u : V} {y : Value}, VV1 U1 κ s w u y → VV1 U K S w (u.ren σ) y := fun q => ⟨Vc.ren hs hk hp q.1, by rw [q.2, V.ren_isAgg]⟩
  have all : ∀ {us : List V} {ys : List Value}, F2 (VV1 U1 κ s w) us ys → F2 (VV1 U K S w) (V.rens σ us) ys := by
    intro us ys q
    induction q with
    | nil => exact .nil
    | cons a b ih => exact .cons (two a) ih
  have one : ∀ {u : V} {y : Value}, VV U1 κ s w u y → VV U K S w (u.ren σ) y := by
    intro u y q
    cases u with
    | tup us => obtain ⟨xs, e, f⟩ := q; exact ⟨xs, e, all f⟩
    | wh d b v => exact absurd q.1 (by intro z; cases z)
    | _ => exact two q
  cases v with
  | wh d want u => exact fun k => let ⟨y, b, c⟩ := h k; ⟨y, b, one c⟩
  | bad => trivial
  | _ => exact let ⟨y, b, c⟩ := h; ⟨y, b, one c⟩

theorem blt_of {i n : Nat} (h : Nat.blt i n = true) : i < n := by simpa [Nat.blt_eq] using h

variable {n : Nat}
mutual
theorem Vc.unren (hs : ∀ i, i < n → ∃ o, s[i]? = some o ∧ S[σ i]? = some (o.ren σ)) (hk : ∀ i, i < n → κ[i]? = K[σ i]?) (hp : Pres w (okOf U K) w (okOf U1 κ)) :
    ∀ (v : V) {cs : List Value}, v.blw n = true → Vc U K S w (v.ren σ) cs → Vc U1 κ s w v cs
  | .p t, _, _, h => by cases h with | p h => exact .p (h.pres hp)
  | .rb b, _, _, h => by cases h; exact .rb b
  | .ptr id off, _, hb, h => by
    obtain ⟨o, a, b⟩ := hs id (blt_of hb)
    cases h with
    | ptr h k => rw [b] at h; cases o <;> simp [SObj.ren] at h; exact .ptr a (by rw [hk id (blt_of hb)]; exact k)
  | .row id ver t, _, hb, h => by
    obtain ⟨o, a, b⟩ := hs id (blt_of hb)
    cases h with
    | row h k l m =>
      rw [b] at k
      cases o <;> simp [SObj.ren] at k
      obtain ⟨rfl, rfl⟩ := k
      exact .row (h.pres hp) a l (fun e => by
        rcases m e with q | ⟨pl, o, q⟩
        · exact .inl q
        · exact .inr ⟨pl, o, by rw [hk id (blt_of hb)]; exact q.1, q.2⟩)
  | .map id, _, hb, h => by
    obtain ⟨o, a, b⟩ := hs id (blt_of hb)
    cases h with
    | map h k => rw [b] at h; cases o <;> simp [SObj.ren] at h; exact .map a (by rw [hk id (blt_of hb)]; exact k)
  | .view id off m, _, hb, h => by
    obtain ⟨o, a, b⟩ := hs id (blt_of hb)
    cases h with
    | view h k => rw [b] at h; cases o <;> simp [SObj.ren] at h; exact .view a (by rw [hk id (blt_of hb)]; exact k)
  | .cv id ver off m e, _, hb, h => by
    obtain ⟨o, a, b⟩ := hs id (blt_of hb)
    cases h with
    | cv k l n m =>
      rw [b] at k
      cases o <;> simp [SObj.ren] at k
      obtain ⟨rfl, _⟩ := k
      exact .cv a l n (fun e => by obtain ⟨pl, q⟩ := m e; exact ⟨pl, by rw [hk id (blt_of hb)]; exact q.1, q.2⟩)
  | .ep id ver off, _, hb, h => by
    obtain ⟨o, a, b⟩ := hs id (blt_of hb)
    cases h with
    | ep k l m =>
      rw [b] at k
      cases o <;> simp [SObj.ren] at k
      obtain ⟨rfl, _⟩ := k
      exact .ep a l (fun e => by obtain ⟨pl, q⟩ := m e; exact ⟨pl, by rw [hk id (blt_of hb)]; exact q.1, q.2⟩)
  | .yld id, _, hb, h => by
    obtain ⟨o, a, b⟩ := hs id (blt_of hb)
    cases h with
    | yld h k => rw [b] at h; cases o <;> simp [SObj.ren] at h; exact .yld a (by rw [hk id (blt_of hb)]; exact k)
  | .agg vs, _, hb, h => by cases h with | agg h => exact .agg (Vcs.unren hs hk hp vs hb h)
  | .clo f vs, _, hb, h => by
    cases h with
    | clo h k => exact .clo (Vcs.unren hs hk hp vs hb h) (fun v hv => by have := k _ (V.mem_rens σ vs v hv); rwa [V.ren_isAgg] at this)
  | .tup vs, _, _, h => by cases h
  | .wh _ _ _, _, _, h => by cases h
  | .bad, _, _, h => by cases h with | bad h => exact .bad h
theorem Vcs.unren (hs : ∀ i, i < n → ∃ o, s[i]? = some o ∧ S[σ i]? = some (o.ren σ)) (hk : ∀ i, i < n → κ[i]? = K[σ i]?) (hp : Pres w (okOf U K) w (okOf U1 κ)) :
    ∀ (vs : List V) {cs : List Value}, V.blws n vs = true → Vcs U K S w (V.rens σ vs) cs → Vcs U1 κ s w vs cs
  | [], _, _, h => by cases h; exact .nil
  | v :: vs, _, hb, h => by
    simp only [V.blws, Bool.and_eq_true] at hb
    cases h with | cons h k => exact .cons (Vc.unren hs hk hp v hb.1 h) (Vcs.unren hs hk hp vs hb.2 k)
end
end

/-- Which object of the small store lies where: what checks a renaming (N objects of the great store, n of the small one, m behind the call). -/
structure FrOk (σ : Nat → Nat) (τ : Nat → Option Nat) (N n m : Nat) : Prop where
  nm : n ≤ m
  inv : ∀ i, i < m → σ i < N + (m - n) ∧ τ (σ i) = some i
  back : ∀ j i, j < N + (m - n) → τ j = some i → i < m ∧ σ i = j
  low : ∀ i, i < n → σ i < N
  low' : ∀ j i, j < N → τ j = some i → i < n
  high : ∀ j, N ≤ j → τ j ≠ none

def pick (τ : Nat → Option Nat) {α : Type} (d : α) (l l1 : List α) (f : α → α) (j : Nat) : α := match τ j with
  | some i => f ((l1[i]?).getD d)
  | none => (l[j]?).getD d
/-- The great store behind the call. -/
def mrg (τ : Nat → Option Nat) {α : Type} (d : α) (M : Nat) (l l1 : List α) (f : α → α) : List α := (List.range M).map (pick τ d l l1 f)
theorem mrg_get {τ : Nat → Option Nat} {α : Type} {d : α} {M : Nat} {l l1 : List α} {f : α → α} {j : Nat} (h : j < M) : (mrg τ d M l l1 f)[j]? = some (pick τ d l l1 f j) := by
  unfold mrg
  rw [List.getElem?_map, List.getElem?_range h]
  rfl
theorem mrg_len {τ : Nat → Option Nat} {α : Type} {d : α} {M : Nat} {l l1 : List α} {f : α → α} : (mrg τ d M l l1 f).length = M := by simp [mrg]
theorem mrg_lt {τ : Nat → Option Nat} {α : Type} {d : α} {M : Nat} {l l1 : List α} {f : α → α} {j : Nat} {x : α} (h : (mrg τ d M l l1 f)[j]? = some x) : j < M := by
  have := (List.getElem?_eq_some_iff.1 h).1
  rwa [mrg_len] at this

theorem get_lt {α : Type} {l : List α} {i : Nat} {x : α} (h : l[i]? = some x) : i < l.length := (List.getElem?_eq_some_iff.1 h).1
theorem get_of {α : Type} {l : List α} {i : Nat} (h : i < l.length) (d : α) : l[i]? = some ((l[i]?).getD d) := by rw [List.getElem?_eq_getElem h]; rfl

section
variable {U : Nat → Nat → Prop} {K : List Place} {S s1 : List SObj} {w : World} {σ : Nat → Nat} {τ : Nat → Option Nat} {m : Nat}

/-- The places of the small store. -/
def lowK (σ : Nat → Nat) (n : Nat) (K : List Place) : List Place := (List.range n).map fun i => (K[σ i]?).getD default
def restU (U : Nat → Nat → Prop) (τ : Nat → Option Nat) (K : List Place) (b o : Nat) : Prop := U b o ∧ ∀ (j : Nat) pl, K[j]? = some pl → τ j = none → ¬ pl.holds b o

theorem lowK_get {n i : Nat} (h : i < n) (hK : σ i < K.length) : (lowK σ n K)[i]? = K[σ i]? := by
  unfold lowK
  rw [List.getElem?_map, List.getElem?_range h, Option.map_some, ← get_of hK]

theorem TV.mono {w : World} {ok ok' : Nat → Nat → Prop} (h : ∀ b o, ok b o → ok' b o) {t : T} {v : Value} (q : TV w ok t v) : TV w ok' t v := q.pres (fun b o _ hv ho => ⟨hv, h b o ho⟩)

theorem low_ok (hF : FrOk σ τ S.length s1.length m) (hl : K.length = S.length) (b o : Nat) : okOf (restU U τ K) (lowK σ s1.length K) b o ↔ okOf U K b o := by
  constructor
  · rintro ⟨⟨hu, hr⟩, hk⟩
    refine ⟨hu, fun pl hp hh => ?_⟩
    obtain ⟨j, hj⟩ := List.getElem?_of_mem hp
    cases ht : τ j with
    | none => exact hr j pl hj ht hh
    | some i =>
      have hjl := get_lt hj
      obtain ⟨a, b⟩ := hF.back j i (by omega) ht
      have hi := hF.low' j i (by omega) ht
      have : (lowK σ s1.length K)[i]? = some pl := by rw [lowK_get hi (by rw [b]; exact hjl), b]; exact hj
      exact hk pl (List.mem_of_getElem? this) hh
  · rintro ⟨hu, hk⟩
    refine ⟨⟨hu, fun j pl hj _ => hk pl (List.mem_of_getElem? hj)⟩, fun pl hp => ?_⟩
    obtain ⟨i, hi⟩ := List.getElem?_of_mem hp
    have hil : i < s1.length := by have := get_lt hi; simpa [lowK] using this
    rw [lowK_get hil (by rw [hl]; exact hF.low i hil)] at hi
    exact hk pl (List.mem_of_getElem? hi)

theorem low_rel (h : RelS U K S w) (hF : FrOk σ τ S.length s1.length m) (hS : ∀ i, i < s1.length → ∃ o, s1[i]? = some o ∧ S[σ i]? = some (o.ren σ)) (hb : ∀ o ∈ s1, o.blw s1.length = true) : RelS (restU U τ K) (lowK σ s1.length K) s1 w := by
  have hlen := h.len
  have hk : ∀ i, i < s1.length → (lowK σ s1.length K)[i]? = K[σ i]? := fun i hi => lowK_get hi (by rw [hlen]; exact hF.low i hi)
  have hp : Pres w (okOf U K) w (okOf (restU U τ K) (lowK σ s1.length K)) := fun b o v hv ho => ⟨hv, (low_ok hF hlen b o).2 ho⟩
  have hll : (lowK σ s1.length K).length = s1.length := by simp [lowK]
  have rest : ∀ i, i < s1.length → ∀ pl, K[σ i]? = some pl → pl.live → ∀ o, U pl.blk o → restU U τ K pl.blk o := by
    intro i hi pl hpl hlv o hu
    refine ⟨hu, fun j pl' hj ht hh => ?_⟩
    have hne : σ i ≠ j := by intro e; rw [← e, (hF.inv i (by have := hF.nm; omega)).2] at ht; cases ht
    exact h.apart _ _ _ _ hpl hj hne hlv hh.2.2.2 hh.1
  refine ⟨fun b o hbo => ⟨h.up b o hbo, fun j pl hj _ hh => ?_⟩, hll, fun id o pl ho hpl => ?_, fun i j pl pl' hi hj hne hv hv' => ?_, fun pl hp' hv => ?_, fun pl hp' hv o => ?_, h.glob.pres hp⟩
  · have := h.below pl (List.mem_of_getElem? hj) hh.2.2.2
    have := hh.1
    omega
  · have hid := get_lt ho
    obtain ⟨o', a, b⟩ := hS id hid
    rw [ho] at a
    injection a with a
    subst a
    rw [hk id hid] at hpl
    have hob := h.obj _ _ _ b hpl
    have hblw := hb o (List.mem_of_getElem? ho)
    cases o with
    | box v =>
      obtain ⟨q1, q2, q3, q4, cells, elem, q5, q6⟩ := hob
      exact ⟨q1, q2, by rw [q3, V.ren_sz], q4, cells, elem, q5, Vc.unren hS hk hp v hblw q6⟩
    | row c e =>
      intro hon
      obtain ⟨q1, q2⟩ := hob hon
      exact ⟨q1, fun o h1 h2 => ⟨(q2 o h1 h2).1, (q2 o h1 h2).2.1, rest id hid pl hpl hon o (q2 o h1 h2).2.2⟩⟩
    | map es =>
      obtain ⟨q1, q2, ents, clock, q3, q4, q5⟩ := hob
      exact ⟨q1, q2, ents, clock, q3, forall₂_mono (fun a b q => ⟨q.1.mono (fun b o ho => (low_ok hF hlen b o).2 ho), q.2.mono (fun b o ho => (low_ok hF hlen b o).2 ho)⟩) q4, q5⟩
    | vec c v =>
      obtain ⟨q1, q2, q3, cells, elem, ⟨cs, more, q4, q5⟩, q6⟩ := hob
      exact ⟨q1, q2, q3, cells, elem, ⟨cs, more, q4, Vc.unren hS hk hp v hblw q5⟩, q6⟩
    | dead => exact hob
    | lp ls pd d f n t ps as bd => simp [SObj.blw] at hblw
    | dfr => simp [SObj.blw] at hblw
  · have hi' : i < s1.length := by have := get_lt hi; omega
    have hj' : j < s1.length := by have := get_lt hj; omega
    rw [hk i hi'] at hi
    rw [hk j hj'] at hj
    refine h.apart _ _ _ _ hi hj (fun e => hne ?_) hv hv'
    have a := (hF.inv i (by have := hF.nm; omega)).2
    have b := (hF.inv j (by have := hF.nm; omega)).2
    rw [e, b] at a
    injection a with a
    exact a.symm
  · obtain ⟨i, hi⟩ := List.getElem?_of_mem hp'
    have hi' : i < s1.length := by have := get_lt hi; omega
    rw [hk i hi'] at hi
    exact h.below pl (List.mem_of_getElem? hi) hv
  · obtain ⟨i, hi⟩ := List.getElem?_of_mem hp'
    have hi' : i < s1.length := by have := get_lt hi; omega
    rw [hk i hi'] at hi
    exact rest i hi' pl hi hv o (h.mine pl (List.mem_of_getElem? hi) hv o)

theorem blws_mem {n : Nat} : ∀ {vs : List V}, V.blws n vs = true → ∀ v ∈ vs, v.blw n = true
  | [], _, v, h => by simp at h
  | x :: vs, hb, v, h => by
    simp only [V.blws, Bool.and_eq_true] at hb
    rcases List.mem_cons.1 h with rfl | h
    · exact hb.1
    · exact blws_mem hb.2 v h
theorem F2.unren {U1 : Nat → Nat → Prop} {κ : List Place} {n : Nat} (hs : ∀ i, i < n → ∃ o, s1[i]? = some o ∧ S[σ i]? = some (o.ren σ)) (hk : ∀ i, i < n → κ[i]? = K[σ i]?) (hp : Pres w (okOf U K) w (okOf U1 κ)) :
    ∀ (vs : List V) {vals : List Value}, V.blws n vs = true → F2 (VV1 U K S w) (V.rens σ vs) vals → F2 (VV1 U1 κ s1 w) vs vals
  | [], _, _, h => by cases h; exact .nil
  | v :: vs, _, hb, h => by
    simp only [V.blws, Bool.and_eq_true] at hb
    cases h with | cons h k => exact .cons ⟨Vc.unren hs hk hp v hb.1 h.1, by rw [h.2, V.ren_isAgg]⟩ (F2.unren hs hk hp vs hb.2 k)
theorem F2.ren {U1 : Nat → Nat → Prop} {κ : List Place} (hs : ∀ i o, s1[i]? = some o → S[σ i]? = some (o.ren σ)) (hk : ∀ i pl, κ[i]? = some pl → K[σ i]? = some pl) (hp : Pres w (okOf U1 κ) w (okOf U K)) :
    ∀ {vs : List V} {vals : List Value}, F2 (VV1 U1 κ s1 w) vs vals → F2 (VV1 U K S w) (V.rens σ vs) vals
  | _, _, .nil => .nil
  | _, _, .cons h k => .cons ⟨Vc.ren hs hk hp h.1, by rw [h.2, V.ren_isAgg]⟩ (F2.ren hs hk hp k)
theorem RVsV.ren {U1 : Nat → Nat → Prop} {κ : List Place} (hs : ∀ i o, s1[i]? = some o → S[σ i]? = some (o.ren σ)) (hk : ∀ i pl, κ[i]? = some pl → K[σ i]? = some pl) (hp : Pres w (okOf U1 κ) w (okOf U K)) {rs : List V} {x : Value} (h : RVsV U1 κ s1 w rs x) : RVsV U K S w (V.rens σ rs) x := by
  match rs, h with
  | [], h => obtain ⟨xs, e, h⟩ := h; exact ⟨xs, e, F2.ren hs hk hp h⟩
  | [v], h => exact ⟨Vc.ren hs hk hp h.1, by rw [h.2, V.ren_isAgg]⟩
  | v :: u :: r, h => obtain ⟨xs, e, h⟩ := h; exact ⟨xs, e, F2.ren hs hk hp h⟩

/-- A CALL THAT WAS PROVED FOR A SMALL STORE HOLDS IN EVERY STORE THAT HAS IT. -/
theorem GCall.frame {f : FuncId} {vs rs : List V} {s1' : List SObj} (h : GCall P f s1 vs s1' rs) (hF : FrOk σ τ S.length s1.length s1'.length) (hS : ∀ i, i < s1.length → ∃ o, s1[i]? = some o ∧ S[σ i]? = some (o.ren σ)) (hb : ∀ o ∈ s1, o.blw s1.length = true) (hv : V.blws s1.length vs = true) :
    GCall P f S (V.rens σ vs) (mrg τ .dead (S.length + (s1'.length - s1.length)) S s1' (SObj.ren σ)) (V.rens σ rs) := by
  refine ⟨h.1, fun U K w vals hR hA => ?_⟩
  have hlen := hR.len
  have hnm := hF.nm
  have hR1 := low_rel hR hF hS hb
  have hk : ∀ i, i < s1.length → (lowK σ s1.length K)[i]? = K[σ i]? := fun i hi => lowK_get hi (by rw [hlen]; exact hF.low i hi)
  have hA1 := F2.unren (U1 := restU U τ K) (κ := lowK σ s1.length K) (n := s1.length) hS hk (fun b o v hv ho => ⟨hv, (low_ok hF hlen b o).2 ho⟩) vs hv hA
  refine (h.2 _ _ w vals hR1 hA1).mono ?_
  rintro e w' ⟨v, κ', rfl, g1, g2, g3, g4⟩
  have hκ := g1.len
  generalize hM : S.length + (s1'.length - s1.length) = M
  have hNM : S.length ≤ M := by omega
  have kI : ∀ i, i < s1'.length → (mrg τ default M K κ' id)[σ i]? = κ'[i]? := by
    intro i hi
    obtain ⟨a, b⟩ := hF.inv i hi
    rw [mrg_get (by omega)]
    unfold pick
    rw [b]
    exact (get_of (by omega) _).symm
  have sI : ∀ i o, s1'[i]? = some o → (mrg τ SObj.dead M S s1' (SObj.ren σ))[σ i]? = some (o.ren σ) := by
    intro i o ho
    obtain ⟨a, b⟩ := hF.inv i (get_lt ho)
    rw [mrg_get (by omega)]
    unfold pick
    rw [b]
    show some (SObj.ren σ ((s1'[i]?).getD SObj.dead)) = _
    rw [ho]
    rfl
  have kR : ∀ j, j < S.length → τ j = none → (mrg τ default M K κ' id)[j]? = K[j]? := by
    intro j hj ht
    rw [mrg_get (by omega)]
    unfold pick
    rw [ht]
    exact (get_of (by omega) _).symm
  have sR : ∀ j, j < S.length → τ j = none → (mrg τ SObj.dead M S s1' (SObj.ren σ))[j]? = S[j]? := by
    intro j hj ht
    rw [mrg_get (by omega)]
    unfold pick
    rw [ht]
    exact (get_of hj _).symm
  have cls : ∀ j, j < M → (∃ i, τ j = some i ∧ i < s1'.length ∧ σ i = j) ∨ (τ j = none ∧ j < S.length) := by
    intro j hj
    cases ht : τ j with
    | some i => exact .inl ⟨i, rfl, hF.back j i (by omega) ht⟩
    | none =>
      refine .inr ⟨rfl, ?_⟩
      rcases Nat.lt_or_ge j S.length with q | q
      · exact q
      · exact absurd ht (hF.high j q)
  have kI' : ∀ i pl, κ'[i]? = some pl → (mrg τ default M K κ' id)[σ i]? = some pl := by
    intro i pl hi
    rw [kI i (by have := get_lt hi; omega), hi]
  have okE : ∀ b o, okOf (restU U τ K) κ' b o ↔ okOf U (mrg τ default M K κ' id) b o := by
    intro b o
    constructor
    · rintro ⟨⟨hu, hr⟩, hq⟩
      refine ⟨hu, fun pl hp => ?_⟩
      obtain ⟨j, hj⟩ := List.getElem?_of_mem hp
      rcases cls j (mrg_lt hj) with ⟨i, ht, hi, rfl⟩ | ⟨ht, hjN⟩
      · rw [kI i hi] at hj
        exact hq pl (List.mem_of_getElem? hj)
      · rw [kR j hjN ht] at hj
        exact hr j pl hj ht
    · rintro ⟨hu, hq⟩
      refine ⟨⟨hu, fun j pl hj ht => ?_⟩, fun pl hp => ?_⟩
      · have hjN : j < S.length := by have := get_lt hj; omega
        rw [← kR j hjN ht] at hj
        exact hq pl (List.mem_of_getElem? hj)
      · obtain ⟨i, hi⟩ := List.getElem?_of_mem hp
        exact hq pl (List.mem_of_getElem? (kI' i pl hi))
  have pres : Pres w (okOf U K) w' (okOf U (mrg τ default M K κ' id)) := by
    intro b o v hv ho
    obtain ⟨a, c⟩ := g3.pres b o v hv ((low_ok hF hlen b o).2 ho)
    exact ⟨a, (okE b o).1 c⟩
  have pren : Pres w' (okOf (restU U τ K) κ') w' (okOf U (mrg τ default M K κ' id)) := fun b o v hv ho => ⟨hv, (okE b o).1 ho⟩
  have sLow : ∀ i, i < s1.length → ∀ {o pl}, S[σ i]? = some o → K[σ i]? = some pl → ∃ o1, s1[i]? = some o1 ∧ o = o1.ren σ ∧ (lowK σ s1.length K)[i]? = some pl := by
    intro i hi o pl ho hpl
    obtain ⟨o1, a, b⟩ := hS i hi
    rw [ho] at b
    injection b with b
    exact ⟨o1, a, b, by rw [hk i hi]; exact hpl⟩
  have ext : Ext K S (mrg τ default M K κ' id) (mrg τ SObj.dead M S s1' (SObj.ren σ)) := by
    refine ⟨fun id v pl a b => ?_, fun id es pl a b => ?_, fun id cur e a => ?_, fun id cur v a => ?_, fun id ls pd d f n t ps as bd pl a b => ?_, fun id pl a b => ?_⟩
    · have hid := get_lt a
      rcases cls id (by omega) with ⟨i, ht, hi, rfl⟩ | ⟨ht, hjN⟩
      · have hin := hF.low' _ i hid ht
        obtain ⟨o1, c1, c2, c3⟩ := sLow i hin a b
        cases o1 <;> simp [SObj.ren] at c2
        obtain ⟨v', pl', d1, d2, d3⟩ := g4.box _ _ _ c1 c3
        exact ⟨_, pl', sI i _ d1, kI' i _ d2, d3⟩
      · exact ⟨v, pl, by rw [sR id hjN ht]; exact a, by rw [kR id hjN ht]; exact b, rfl⟩
    · have hid := get_lt a
      rcases cls id (by omega) with ⟨i, ht, hi, rfl⟩ | ⟨ht, hjN⟩
      · have hin := hF.low' _ i hid ht
        obtain ⟨o1, c1, c2, c3⟩ := sLow i hin a b
        cases o1 <;> simp [SObj.ren] at c2
        obtain ⟨v', pl', d1, d2, d3⟩ := g4.map _ _ _ c1 c3
        exact ⟨_, pl', sI i _ d1, kI' i _ d2, d3⟩
      · exact ⟨es, pl, by rw [sR id hjN ht]; exact a, by rw [kR id hjN ht]; exact b, rfl⟩
    · have hid := get_lt a
      rcases cls id (by omega) with ⟨i, ht, hi, rfl⟩ | ⟨ht, hjN⟩
      · have hin := hF.low' _ i hid ht
        obtain ⟨pl, b⟩ : ∃ pl, K[σ i]? = some pl := ⟨_, get_of (by omega) default⟩
        obtain ⟨o1, c1, c2, c3⟩ := sLow i hin a b
        cases o1 <;> simp [SObj.ren] at c2
        obtain ⟨rfl, rfl⟩ := c2
        obtain ⟨cur', d1, d2, d3⟩ := g4.row _ _ _ c1
        exact ⟨cur', sI i _ d1, d2, fun q => by rw [kI i hi, d3 q, hk i hin]⟩
      · exact ⟨cur, by rw [sR id hjN ht]; exact a, Nat.le_refl _, fun _ => kR id hjN ht⟩
    · have hid := get_lt a
      rcases cls id (by omega) with ⟨i, ht, hi, rfl⟩ | ⟨ht, hjN⟩
      · have hin := hF.low' _ i hid ht
        obtain ⟨pl, b⟩ : ∃ pl, K[σ i]? = some pl := ⟨_, get_of (by omega) default⟩
        obtain ⟨o1, c1, c2, c3⟩ := sLow i hin a b
        cases o1 <;> simp [SObj.ren] at c2
        obtain ⟨rfl, _⟩ := c2
        obtain ⟨cur', v', d1, d2, d3⟩ := g4.vec _ _ _ c1
        exact ⟨cur', _, sI i _ d1, d2, fun q => by rw [kI i hi, d3 q, hk i hin]⟩
      · exact ⟨cur, v, by rw [sR id hjN ht]; exact a, Nat.le_refl _, fun _ => kR id hjN ht⟩
    · have hid := get_lt a
      rcases cls id (by omega) with ⟨i, ht, hi, rfl⟩ | ⟨ht, hjN⟩
      · have hin := hF.low' _ i hid ht
        obtain ⟨o1, c1, c2, c3⟩ := sLow i hin a b
        have hbl := hb _ (List.mem_of_getElem? c1)
        cases o1 <;> simp [SObj.ren, SObj.blw] at c2 hbl
      · exact ⟨ls, pd, t, pl, by rw [sR id hjN ht]; exact a, by rw [kR id hjN ht]; exact b, rfl⟩
    · have hid := get_lt a
      rcases cls id (by omega) with ⟨i, ht, hi, rfl⟩ | ⟨ht, hjN⟩
      · have hin := hF.low' _ i hid ht
        obtain ⟨o1, c1, c2, c3⟩ := sLow i hin a b
        have hbl := hb _ (List.mem_of_getElem? c1)
        cases o1 <;> simp [SObj.ren, SObj.blw] at c2 hbl
      · exact ⟨pl, by rw [sR id hjN ht]; exact a, by rw [kR id hjN ht]; exact b, rfl⟩
  -- a place of the rest is none of the small store's
  have restApart : ∀ j pl, K[j]? = some pl → τ j = none → pl.live → ∀ pl' ∈ lowK σ s1.length K, pl'.live → pl.blk ≠ pl'.blk := by
    intro j pl hj ht hv pl' hp' hv'
    obtain ⟨i, hi⟩ := List.getElem?_of_mem hp'
    have hin : i < s1.length := by have := get_lt hi; simpa [lowK] using this
    rw [hk i hin] at hi
    refine hR.apart _ _ _ _ hj hi (fun e => ?_) hv hv'
    rw [e, (hF.inv i (by omega)).2] at ht
    cases ht
  have same : ∀ j pl, K[j]? = some pl → τ j = none → pl.live → w'.heap[pl.blk]? = w.heap[pl.blk]? := by
    intro j pl hj ht hv
    exact g3.kept.block pl.blk (hR.below pl (List.mem_of_getElem? hj) hv) (fun pl' hp' hv' e => restApart j pl hj ht hv pl' hp' hv' e)
  have hsz := g3.kept.size
  refine ⟨v, mrg τ default M K κ' id, rfl, ⟨fun b o hbo => (g1.up b o hbo).1, by rw [mrg_len, mrg_len], fun id o pl ho hpl => ?_, fun i j pl pl' hi hj hne hv hv' => ?_, fun pl hp hv => ?_, fun pl hp hv o => ?_, hR.glob.pres pres⟩, RVsV.ren sI kI' pren g2, ⟨⟨g3.kept.os, g3.kept.tape, g3.kept.output, hsz, fun k hk' hn => g3.kept.block k hk' (fun pl hp hv => ?_)⟩, fun pl hp hv => ?_, pres⟩, ext⟩
  · rcases cls id (mrg_lt hpl) with ⟨i, ht, hi, rfl⟩ | ⟨ht, hjN⟩
    · rw [kI i hi] at hpl
      have e1 := get_of hi SObj.dead
      have e2 := sI i _ e1
      rw [ho] at e2
      injection e2 with e2
      have hob := g1.obj i _ pl e1 hpl
      rw [e2]
      generalize (s1'[i]?).getD SObj.dead = o1 at hob
      cases o1 with
      | box v =>
        obtain ⟨q1, q2, q3, q4, cells, elem, q5, q6⟩ := hob
        exact ⟨q1, q2, by rw [q3, V.ren_sz], q4, cells, elem, q5, Vc.ren sI kI' pren q6⟩
      | row c e =>
        intro hon
        obtain ⟨q1, q2⟩ := hob hon
        exact ⟨q1, fun o h1 h2 => ⟨(q2 o h1 h2).1, (q2 o h1 h2).2.1, (q2 o h1 h2).2.2.1⟩⟩
      | map es =>
        obtain ⟨q1, q2, ents, clock, q3, q4, q5⟩ := hob
        exact ⟨q1, q2, ents, clock, q3, forall₂_mono (fun a b q => ⟨q.1.mono (fun b o ho => (okE b o).1 ho), q.2.mono (fun b o ho => (okE b o).1 ho)⟩) q4, q5⟩
      | vec c v =>
        obtain ⟨q1, q2, q3, cells, elem, ⟨cs, more, q4, q5⟩, q6⟩ := hob
        exact ⟨q1, q2, q3, cells, elem, ⟨cs, more, q4, Vc.ren sI kI' pren q5⟩, q6⟩
      | dead => exact hob
      | lp ls pd d f n t ps as bd =>
        obtain ⟨q1, q2, q3, q4, tmps, a3, a4, a5⟩ := hob
        refine ⟨q1, q2, q3, q4, tmps, a3, a4, fun x v hx => ?_⟩
        obtain ⟨v0, e, rfl⟩ := getT_renT hx
        exact Slot.ren sI kI' pren (a5 x v0 e)
      | dfr => exact hob
    · rw [kR id hjN ht] at hpl
      rw [sR id hjN ht] at ho
      have hob := hR.obj id o pl ho hpl
      cases o with
      | box v =>
        obtain ⟨q1, q2, q3, q4, cells, elem, q5, q6⟩ := hob
        exact ⟨q1, q2, q3, by omega, cells, elem, q5.of_eq (same id pl hpl ht q1), q6.ext pres ext⟩
      | row c e =>
        intro hon
        obtain ⟨q1, q2⟩ := hob hon
        have hh := same id pl hpl ht hon
        refine ⟨by omega, fun o h1 h2 => ?_⟩
        obtain ⟨a, b, c⟩ := q2 o h1 h2
        refine ⟨?_, ?_, c⟩
        · have : w'.cell? ⟨pl.blk, o, none⟩ = w.cell? ⟨pl.blk, o, none⟩ := by unfold World.cell?; simp only [hh]
          rw [this]; exact a
        · have : w'.frozen? ⟨pl.blk, o, none⟩ = w.frozen? ⟨pl.blk, o, none⟩ := by unfold World.frozen?; simp only [hh]
          rw [this]; exact b
      | map es =>
        obtain ⟨q1, q2, ents, clock, q3, q4, q5⟩ := hob
        exact ⟨q1, by omega, ents, clock, by rw [same id pl hpl ht q1]; exact q3, forall₂_mono (fun a b q => ⟨q.1.pres pres, q.2.pres pres⟩) q4, q5⟩
      | vec c v =>
        obtain ⟨q1, q2, q3, cells, elem, ⟨cs, more, q4, q5⟩, q6, q7⟩ := hob
        exact ⟨q1, q2, by omega, cells, elem, ⟨cs, more, q4, q5.ext pres ext⟩, q6.of_eq (same id pl hpl ht q1), q7⟩
      | dead => exact hob
      | lp ls pd d f n t ps as bd => exact ObjR.lpMove pres ext hsz (fun q => same id pl hpl ht q) hob
      | dfr => exact ObjR.dfrMove hsz (fun q => same id pl hpl ht q) hob
  · have mix : ∀ (i j : Nat) pl pl', κ'[i]? = some pl → K[j]? = some pl' → τ j = none → pl.live → pl'.live → pl.blk ≠ pl'.blk := by
      intro i j pl pl' hi hj ht hv hv' e
      rcases g3.fresh pl (List.mem_of_getElem? hi) hv with ⟨p0, a, b, c⟩ | c
      · exact restApart j pl' hj ht hv' p0 a b (by omega)
      · have := hR.below pl' (List.mem_of_getElem? hj) hv'
        omega
    rcases cls i (mrg_lt hi) with ⟨a, ht, ha, rfl⟩ | ⟨ht, hN⟩
    · rw [kI a ha] at hi
      rcases cls j (mrg_lt hj) with ⟨b, ht', hb', rfl⟩ | ⟨ht', hN'⟩
      · rw [kI b hb'] at hj
        exact g1.apart a b pl pl' hi hj (fun e => hne (by rw [e])) hv hv'
      · rw [kR j hN' ht'] at hj
        exact mix a j pl pl' hi hj ht' hv hv'
    · rw [kR i hN ht] at hi
      rcases cls j (mrg_lt hj) with ⟨b, ht', hb', rfl⟩ | ⟨ht', hN'⟩
      · rw [kI b hb'] at hj
        exact fun e => mix b i pl' pl hj hi ht hv' hv e.symm
      · rw [kR j hN' ht'] at hj
        exact hR.apart i j pl pl' hi hj hne hv hv'
  · obtain ⟨j, hj⟩ := List.getElem?_of_mem hp
    rcases cls j (mrg_lt hj) with ⟨i, ht, hi, rfl⟩ | ⟨ht, hN⟩
    · rw [kI i hi] at hj
      exact g1.below pl (List.mem_of_getElem? hj) hv
    · rw [kR j hN ht] at hj
      have := hR.below pl (List.mem_of_getElem? hj) hv
      omega
  · obtain ⟨j, hj⟩ := List.getElem?_of_mem hp
    rcases cls j (mrg_lt hj) with ⟨i, ht, hi, rfl⟩ | ⟨ht, hN⟩
    · rw [kI i hi] at hj
      exact (g1.mine pl (List.mem_of_getElem? hj) hv o).1
    · rw [kR j hN ht] at hj
      exact hR.mine pl (List.mem_of_getElem? hj) hv o
  · obtain ⟨i, hi⟩ := List.getElem?_of_mem hp
    have hin : i < s1.length := by have := get_lt hi; simpa [lowK] using this
    rw [hk i hin] at hi
    exact hn pl (List.mem_of_getElem? hi) hv
  · obtain ⟨j, hj⟩ := List.getElem?_of_mem hp
    rcases cls j (mrg_lt hj) with ⟨i, ht, hi, rfl⟩ | ⟨ht, hN⟩
    · rw [kI i hi] at hj
      rcases g3.fresh pl (List.mem_of_getElem? hj) hv with ⟨p0, a, b, c⟩ | c
      · obtain ⟨i0, hi0⟩ := List.getElem?_of_mem a
        have hin : i0 < s1.length := by have := get_lt hi0; simpa [lowK] using this
        rw [hk i0 hin] at hi0
        exact .inl ⟨p0, List.mem_of_getElem? hi0, b, c⟩
      · exact .inr c
    · rw [kR j hN ht] at hj
      exact .inl ⟨pl, List.mem_of_getElem? hj, hv, rfl⟩
end

def posOf (j : Nat) : List Nat → Nat → Option Nat
  | [], _ => none
  | x :: r, k => match Nat.beq x j with
    | true => some k
    | false => posOf j r (k + 1)
theorem posOf_some {j : Nat} : ∀ {l : List Nat} {k i : Nat}, posOf j l k = some i → k ≤ i ∧ l[i - k]? = some j
  | [], k, i, h => by cases h
  | x :: r, k, i, h => by
    simp only [posOf] at h
    cases e : Nat.beq x j with
    | true =>
      rw [e] at h
      injection h with h
      subst h
      have : x = j := Nat.eq_of_beq_eq_true e
      simp [this]
    | false =>
      rw [e] at h
      obtain ⟨a, b⟩ := posOf_some h
      refine ⟨by omega, ?_⟩
      rw [show i - k = (i - (k + 1)) + 1 by omega]
      simpa using b
theorem posOf_at {j : Nat} : ∀ {l : List Nat} {k a : Nat}, l.Nodup → l[a]? = some j → posOf j l k = some (k + a)
  | [], k, a, _, h => by simp at h
  | x :: r, k, 0, _, h => by
    simp at h
    subst h
    simp [posOf]
  | x :: r, k, a + 1, hn, h => by
    simp at h
    have hx : Nat.beq x j = false := by
      cases e : Nat.beq x j with
      | false => rfl
      | true =>
        have : x = j := Nat.eq_of_beq_eq_true e
        subst this
        exact absurd (List.mem_of_getElem? h) (List.nodup_cons.1 hn).1
    simp only [posOf, hx]
    rw [posOf_at (List.nodup_cons.1 hn).2 h]
    congr 1
    omega

def sigF (N : Nat) (σs : List Nat) (i : Nat) : Nat := match σs[i]? with
  | some j => j
  | none => N + (i - σs.length)
def tauF (N : Nat) (σs : List Nat) (j : Nat) : Option Nat := match Nat.blt j N with
  | true => posOf j σs 0
  | false => some (σs.length + (j - N))

theorem sigF_lt {N : Nat} {σs : List Nat} {i j : Nat} (h : σs[i]? = some j) : sigF N σs i = j := by unfold sigF; rw [h]
theorem sigF_ge {N : Nat} {σs : List Nat} {i : Nat} (h : σs.length ≤ i) : sigF N σs i = N + (i - σs.length) := by unfold sigF; rw [List.getElem?_eq_none h]
theorem tauF_lt {N : Nat} {σs : List Nat} {j : Nat} (h : j < N) : tauF N σs j = posOf j σs 0 := by
  unfold tauF
  rw [show Nat.blt j N = true by simpa [Nat.blt_eq] using h]
theorem tauF_ge {N : Nat} {σs : List Nat} {j : Nat} (h : N ≤ j) : tauF N σs j = some (σs.length + (j - N)) := by
  unfold tauF
  rw [show Nat.blt j N = false by rw [Bool.eq_false_iff]; simp only [ne_eq, Nat.blt_eq]; omega]

theorem frOk_of {N m : Nat} {σs : List Nat} (h1 : σs.Nodup) (h2 : ∀ x ∈ σs, x < N) (h3 : σs.length ≤ m) : FrOk (sigF N σs) (tauF N σs) N σs.length m := by
  have at_ : ∀ i, i < σs.length → ∃ j, σs[i]? = some j ∧ j < N := fun i hi => ⟨σs[i], List.getElem?_eq_getElem hi, h2 _ (List.getElem_mem hi)⟩
  have tau_lt : ∀ j i, j < N → tauF N σs j = some i → σs[i]? = some j := by
    intro j i hj h
    rw [tauF_lt hj] at h
    simpa using (posOf_some h).2
  refine ⟨h3, fun i hi => ?_, fun j i hj h => ?_, fun i hi => ?_, fun j i hj h => ?_, fun j hj h => ?_⟩
  · rcases Nat.lt_or_ge i σs.length with q | q
    · obtain ⟨j, a, b⟩ := at_ i q
      rw [sigF_lt a, tauF_lt b, posOf_at h1 a]
      exact ⟨by omega, by simp⟩
    · rw [sigF_ge q, tauF_ge (by omega)]
      exact ⟨by omega, by congr 1; omega⟩
  · rcases Nat.lt_or_ge j N with q | q
    · have a := tau_lt j i q h
      exact ⟨by have := get_lt a; omega, sigF_lt a⟩
    · rw [tauF_ge q] at h
      injection h with h
      subst h
      exact ⟨by omega, by rw [sigF_ge (by omega)]; omega⟩
  · obtain ⟨j, a, b⟩ := at_ i hi
    rw [sigF_lt a]; exact b
  · exact get_lt (tau_lt j i hj h)
  · rw [tauF_ge hj] at h; cases h

def nodupN : List Nat → Bool
  | [] => true
  | x :: r => !memN x r && nodupN r
theorem memN_mem {x : Nat} : ∀ {l : List Nat}, memN x l = false → x ∉ l
  | [], _ => by simp
  | y :: ys, h => by
    simp only [memN, Bool.or_eq_false_iff, beq_eq_false_iff_ne] at h
    simp only [List.mem_cons, not_or]
    exact ⟨h.1, memN_mem h.2⟩
theorem nodupN_ok : ∀ {l : List Nat}, nodupN l = true → l.Nodup
  | [], _ => List.nodup_nil
  | x :: r, h => by
    simp only [nodupN, Bool.and_eq_true, Bool.not_eq_true'] at h
    exact List.nodup_cons.2 ⟨memN_mem h.1, nodupN_ok h.2⟩

/-- The frame, where all is given: the objects of the small store lie at σs. -/
theorem GCall.at {f : FuncId} {s1 s1' S S' : List SObj} {vs rs vs' rs' : List V} (h : GCall P f s1 vs s1' rs) (σs : List Nat)
    (hc : (nodupN σs && σs.all (fun x => Nat.blt x S.length) && Nat.beq σs.length s1.length && Nat.ble s1.length s1'.length && s1.all (fun o => o.blw s1.length) && V.blws s1.length vs) = true)
    (hS : s1.map (fun o => some (o.ren (sigF S.length σs))) = σs.map (fun j => S[j]?))
    (e1 : V.rens (sigF S.length σs) vs = vs') (e2 : mrg (tauF S.length σs) SObj.dead (S.length + (s1'.length - s1.length)) S s1' (SObj.ren (sigF S.length σs)) = S') (e3 : V.rens (sigF S.length σs) rs = rs') : GCall P f S vs' S' rs' := by
  simp only [Bool.and_eq_true] at hc
  obtain ⟨⟨⟨⟨⟨c1, c2⟩, c3⟩, c4⟩, c5⟩, c6⟩ := hc
  have hlen : σs.length = s1.length := Nat.eq_of_beq_eq_true c3
  have hF : FrOk (sigF S.length σs) (tauF S.length σs) S.length s1.length s1'.length := by
    rw [← hlen]
    exact frOk_of (nodupN_ok c1) (fun x hx => by have := List.all_eq_true.1 c2 x hx; simpa [Nat.blt_eq] using this) (by rw [hlen]; simpa [Nat.ble_eq] using c4)
  rw [← e1, ← e2, ← e3]
  refine GCall.frame h hF (fun i hi => ?_) (fun o ho => List.all_eq_true.1 c5 o ho) c6
  refine ⟨s1[i], List.getElem?_eq_getElem hi, ?_⟩
  have hi' : i < σs.length := by omega
  have := congrArg (fun l => l[i]?) hS
  simp only [List.getElem?_map, List.getElem?_eq_getElem hi, List.getElem?_eq_getElem hi', Option.map_some, Option.some.injEq] at this
  rw [sigF_lt (List.getElem?_eq_getElem hi')]
  exact this.symm

section
variable {σ τ : Nat → Nat} {n : Nat}
mutual
theorem V.ren_back (h : ∀ j, Nat.blt (τ j) n = true → σ (τ j) = j) : ∀ v : V, (v.ren τ).blw n = true → (v.ren τ).ren σ = v
  | .p _, _ => rfl
  | .rb _, _ => rfl
  | .ptr id off, q => by simp only [V.ren, V.blw] at q ⊢; rw [h id q]
  | .row id ver t, q => by simp only [V.ren, V.blw] at q ⊢; rw [h id q]
  | .map id, q => by simp only [V.ren, V.blw] at q ⊢; rw [h id q]
  | .view id _ _, q => by simp only [V.ren, V.blw] at q ⊢; rw [h id q]
  | .cv id _ _ _ _, q => by simp only [V.ren, V.blw] at q ⊢; rw [h id q]
  | .ep id _ _, q => by simp only [V.ren, V.blw] at q ⊢; rw [h id q]
  | .yld id, q => by simp only [V.ren, V.blw] at q ⊢; rw [h id q]
  | .agg vs, q => by simp only [V.ren, V.blw] at q ⊢; rw [V.rens_back h vs q]
  | .clo _ vs, q => by simp only [V.ren, V.blw] at q ⊢; rw [V.rens_back h vs q]
  | .tup vs, q => by simp only [V.ren, V.blw] at q ⊢; rw [V.rens_back h vs q]
  | .wh _ _ v, q => by simp only [V.ren, V.blw] at q ⊢; rw [V.ren_back h v q]
  | .bad, _ => rfl
theorem V.rens_back (h : ∀ j, Nat.blt (τ j) n = true → σ (τ j) = j) : ∀ vs : List V, V.blws n (V.rens τ vs) = true → V.rens σ (V.rens τ vs) = vs
  | [], _ => rfl
  | v :: vs, q => by
    simp only [V.rens, V.blws, Bool.and_eq_true] at q ⊢
    rw [V.ren_back h v q.1, V.rens_back h vs q.2]
end
theorem SObj.ren_back (h : ∀ j, Nat.blt (τ j) n = true → σ (τ j) = j) : ∀ o : SObj, (o.ren τ).blw n = true → (o.ren τ).ren σ = o
  | .box v, q => by simp only [SObj.ren, SObj.blw] at q ⊢; rw [V.ren_back h v q]
  | .vec _ v, q => by simp only [SObj.ren, SObj.blw] at q ⊢; rw [V.ren_back h v q]
  | .row _ _, _ => rfl
  | .map _, _ => rfl
  | .dead, _ => rfl
  | .lp .., q => by simp [SObj.ren, SObj.blw] at q
  | .dfr, _ => rfl
end

/-- Where an object lies in the small store. -/
def rnk (N : Nat) (σs : List Nat) (j : Nat) : Nat := match posOf j σs 0 with
  | some i => i
  | none => N

def keepIds (L : List Nat) (N : Nat) : List Nat := (List.range N).filter fun i => !memN i L

def smallS (σs : List Nat) (S : List SObj) : List SObj := σs.map fun j => ((S[j]?).getD .dead).ren (rnk S.length σs)

theorem rnk_back {N : Nat} {σs : List Nat} (hn : σs.length ≤ N) (j : Nat) (h : Nat.blt (rnk N σs j) σs.length = true) : sigF N σs (rnk N σs j) = j := by
  unfold rnk at h ⊢
  cases hp : posOf j σs 0 with
  | some i =>
    obtain ⟨_, h2⟩ := posOf_some hp
    exact sigF_lt (by simpa using h2)
  | none =>
    rw [hp] at h
    simp only [Nat.blt_eq] at h
    omega

/-- A CALL THAT WAS RUN WITHOUT SOME OBJECTS. -/
theorem GCall.without {f : FuncId} {L : List Nat} {s : List SObj} {vs1 : List V} {s1' : List SObj} {rs : List V} (vs : List V)
    (h : GCall P f (smallS (keepIds L s.length) s) vs1 s1' rs) (hv1 : vs1 = V.rens (rnk s.length (keepIds L s.length)) vs)
    (hL : (L.all fun x => Nat.blt x s.length) = true) (hle : (keepIds L s.length).length ≤ s1'.length) (hb : ((smallS (keepIds L s.length) s).all fun o => o.blw (keepIds L s.length).length) = true) (hv : V.blws (keepIds L s.length).length vs1 = true) :
    FrCall P f L s vs (mrg (tauF s.length (keepIds L s.length)) SObj.dead (s.length + (s1'.length - (keepIds L s.length).length)) s s1' (SObj.ren (sigF s.length (keepIds L s.length)))) (V.rens (sigF s.length (keepIds L s.length)) rs) := by
  generalize hσ : keepIds L s.length = σs at *
  have hmem : ∀ x, x ∈ σs ↔ x < s.length ∧ x ∉ L := fun x => by
    rw [← hσ]; unfold keepIds
    simp only [List.mem_filter, List.mem_range, Bool.not_eq_true']
    refine ⟨fun q => ⟨q.1, memN_mem q.2⟩, fun q => ⟨q.1, ?_⟩⟩
    rw [Bool.eq_false_iff]
    exact fun e => q.2 (memN_iff.1 e)
  have hnd : σs.Nodup := by rw [← hσ]; unfold keepIds; exact List.Pairwise.filter _ List.nodup_range
  have hlen : σs.length ≤ s.length := by
    rw [← hσ]; unfold keepIds
    exact Nat.le_trans (List.length_filter_le _ _) (by simp)
  have hback := fun j => rnk_back (N := s.length) hlen j
  have hsl : (smallS σs s).length = σs.length := by simp [smallS]
  subst hv1
  have hF : FrOk (sigF s.length σs) (tauF s.length σs) s.length σs.length s1'.length := frOk_of hnd (fun x hx => ((hmem x).1 hx).1) hle
  have htau : ∀ id, id < s.length → ((∃ i, tauF s.length σs id = some i) ↔ id ∉ L) := fun id hid => by
    rw [tauF_lt hid]
    constructor
    · rintro ⟨i, hi⟩
      have := (posOf_some hi).2
      exact ((hmem id).1 (List.mem_of_getElem? this)).2
    · intro hno
      obtain ⟨a, ha⟩ := List.getElem?_of_mem ((hmem id).2 ⟨hid, hno⟩)
      exact ⟨_, posOf_at hnd ha⟩
  have hLlt : ∀ id, id ∈ L → id < s.length := fun id hid => by simpa [Nat.blt_eq] using List.all_eq_true.1 hL id hid
  have hpickL : ∀ (S : List SObj), S.length = s.length → ∀ id, id ∈ L → (mrg (tauF s.length σs) SObj.dead (s.length + (s1'.length - σs.length)) S s1' (SObj.ren (sigF s.length σs)))[id]? = S[id]? := fun S hS id hid => by
    have hlt := hLlt id hid
    rw [mrg_get (by omega)]
    unfold pick
    cases ht : tauF s.length σs id with
    | some i => exact absurd hid ((htau id hlt).1 ⟨i, ht⟩)
    | none => rw [List.getElem?_eq_getElem (by omega)]; rfl
  refine ⟨fun S hl hS => ⟨mrg (tauF s.length σs) SObj.dead (s.length + (s1'.length - σs.length)) S s1' (SObj.ren (sigF s.length σs)), ?_, by simp [mrg_len], hpickL S hl, fun id hid => ?_⟩, hpickL s rfl⟩
  · have hg := GCall.frame (S := S) (σ := sigF s.length σs) (τ := tauF s.length σs) h (by rw [hl, hsl]; exact hF) (fun i hi => ?_) (fun o ho => by rw [hsl]; exact List.all_eq_true.1 hb o ho) (by rw [hsl]; exact hv)
    · rw [V.rens_back (n := σs.length) hback vs hv, hl, hsl] at hg
      exact hg
    · have hi' : i < σs.length := by rw [← hsl]; exact hi
      obtain ⟨q1, q2⟩ := (hmem σs[i]).1 (List.getElem_mem hi')
      refine ⟨(smallS σs s)[i], List.getElem?_eq_getElem hi, ?_⟩
      have e1 : (smallS σs s)[i] = (s[σs[i]]).ren (rnk s.length σs) := by
        simp only [smallS, List.getElem_map, List.getElem?_eq_getElem q1, Option.getD_some]
      have hbo := List.all_eq_true.1 hb _ (List.getElem_mem hi)
      rw [sigF_lt (List.getElem?_eq_getElem hi')]
      rcases hS σs[i] with q | q
      · rw [q, List.getElem?_eq_getElem q1, e1, SObj.ren_back (n := σs.length) hback]
        rw [← e1]; exact hbo
      · exact absurd q.2 q2
  · rcases Nat.lt_or_ge id (s.length + (s1'.length - σs.length)) with q | q
    · rw [mrg_get q, mrg_get q]
      unfold pick
      cases ht : tauF s.length σs id with
      | some i => rfl
      | none =>
        rcases Nat.lt_or_ge id s.length with q2 | q2
        · obtain ⟨i, hi⟩ := (htau id q2).2 hid
          rw [ht] at hi; cases hi
        · rw [tauF_ge q2] at ht; cases ht
    · rw [List.getElem?_eq_none (by rw [mrg_len]; exact q), List.getElem?_eq_none (by rw [mrg_len]; exact q)]
end Go.HM
