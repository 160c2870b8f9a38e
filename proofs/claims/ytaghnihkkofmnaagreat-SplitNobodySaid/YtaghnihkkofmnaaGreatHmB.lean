/- HM, part B: values with places in a small store, the state, and what it says of a world. -/
import Derived.Test.YtaghnihkkofmnaaGreatHmA
namespace Go.HM

/-- A value: 'p': a tree · 'rb': a bool that is decided · 'ptr': a pointer into the box 'id' · 'row': a growing slice that owns what lies behind it (at its version) · 'map' · 'view': a slice over cells of a box · 'cv': a slice of a growing array that may be written (at its version), 'ep': a pointer into one · 'agg': a struct or an array with places in it · 'clo' · 'tup' · 'bad': one cell of which nothing is known · 'wh': what a slot holds where slot 'd' holds 'want'. -/
inductive V where
  | p (t : T)
  | rb (b : Bool)
  | ptr (id off : Nat)
  | row (id ver : Nat) (t : T)
  | map (id : Nat)
  | view (id off n : Nat)
  | cv (id ver off n e : Nat)
  | ep (id ver off : Nat)
  | yld (id : Nat)
  | agg (vs : List V)
  | clo (f : FuncId) (caps : List V)
  | tup (vs : List V)
  | wh (d : Nat) (want : Bool) (v : V)
  | bad
  deriving Inhabited

mutual
def V.sz : V → Nat
  | .p t => t.sz
  | .agg vs => V.szs vs
  | _ => 1
def V.szs : List V → Nat
  | [] => 0
  | v :: vs => v.sz + V.szs vs
end

def V.isAgg : V → Bool
  | .p t => t.isAgg
  | .agg _ => true
  | _ => false

inductive SObj where
  | box (v : V)
  | row (ver : Nat) (e : Nat)
  | map (es : List (T × T))
  | vec (ver : Nat) (v : V)
  | dead
  | lp (ls : LoopState) (pend : Option Code) (d : Nat) (f : FuncId) (n : Nat) (t : List (Nat × V)) (ps : Array Tmp) (as bd : Code)
  | dfr
  deriving Inhabited

structure Place where
  blk : Nat
  lo : Nat
  hi : Nat
  on : Bool := true
  deriving Inhabited

def Place.live (pl : Place) : Prop := pl.on = true
def Place.holds (pl : Place) (b o : Nat) : Prop := b = pl.blk ∧ pl.lo ≤ o ∧ o < pl.hi ∧ pl.on = true

/-- The cells that may be leant on: those that the context grants, less what the store's objects may write. -/
def okOf (U : Nat → Nat → Prop) (κ : List Place) (b o : Nat) : Prop := U b o ∧ ∀ pl ∈ κ, ¬ pl.holds b o

mutual
inductive Vc (U : Nat → Nat → Prop) (κ : List Place) (s : List SObj) (w : World) : V → List Value → Prop
  | p {t : T} {cs : List Value} : Tc w (okOf U κ) t cs → Vc U κ s w (.p t) cs
  | rb (b : Bool) : Vc U κ s w (.rb b) [.bool b]
  | ptr {id off : Nat} {pl : Place} {v : V} : s[id]? = some (.box v) → κ[id]? = some pl → Vc U κ s w (.ptr id off) [.pointer (some ⟨pl.blk, off, none⟩)]
  | row {id ver : Nat} {t : T} {base : Option Addr} {n cap cur e : Nat} : Tc w (okOf U κ) t [.slice base n cap] → s[id]? = some (.row cur e) → ver ≤ cur →
      (ver = cur → cap = n ∨ ∃ pl o, κ[id]? = some pl ∧ pl.on = true ∧ base = some ⟨pl.blk, o, none⟩ ∧ pl.lo = o + n * e ∧ pl.hi = o + cap * e) → Vc U κ s w (.row id ver t) [.slice base n cap]
  | map {id : Nat} {pl : Place} {es : List (T × T)} : s[id]? = some (.map es) → κ[id]? = some pl → Vc U κ s w (.map id) [.map (some pl.blk)]
  | view {id off n : Nat} {pl : Place} {v : V} : s[id]? = some (.box v) → κ[id]? = some pl → Vc U κ s w (.view id off n) [.slice (some ⟨pl.blk, off, none⟩) n n]
  | cv {id ver off n e cur cap b : Nat} {v : V} : s[id]? = some (.vec cur v) → ver ≤ cur → n ≤ cap → (ver = cur → ∃ pl, κ[id]? = some pl ∧ b = pl.blk ∧ off + cap * e = pl.hi) → Vc U κ s w (.cv id ver off n e) [.slice (some ⟨b, off, none⟩) n cap]
  | ep {id ver off cur b : Nat} {v : V} : s[id]? = some (.vec cur v) → ver ≤ cur → (ver = cur → ∃ pl, κ[id]? = some pl ∧ b = pl.blk) → Vc U κ s w (.ep id ver off) [.pointer (some ⟨b, off, none⟩)]
  | yld {id : Nat} {pl : Place} {ls : LoopState} {pend : Option Code} {d : Nat} {f : FuncId} {n : Nat} {t : List (Nat × V)} {ps : Array Tmp} {as bd : Code} : s[id]? = some (.lp ls pend d f n t ps as bd) → κ[id]? = some pl → Vc U κ s w (.yld id) [.func (.yield pl.blk) #[] #[]]
  | agg {vs : List V} {cs : List Value} : Vcs U κ s w vs cs → Vc U κ s w (.agg vs) cs
  | clo {f : FuncId} {caps : List V} {cs : List Value} : Vcs U κ s w caps cs → (∀ v ∈ caps, v.isAgg = false) → Vc U κ s w (.clo f caps) [.func (.func f) #[] cs.toArray]
  | bad {v : Value} : v.oneCell' = true → Vc U κ s w .bad [v]
inductive Vcs (U : Nat → Nat → Prop) (κ : List Place) (s : List SObj) (w : World) : List V → List Value → Prop
  | nil : Vcs U κ s w [] []
  | cons {v : V} {vs : List V} {cs ds : List Value} : Vc U κ s w v cs → Vcs U κ s w vs ds → Vcs U κ s w (v :: vs) (cs ++ ds)
end

/-- How the store's objects may have turned: what a value with places leans on is as it was. -/
structure Ext (κ : List Place) (s : List SObj) (κ' : List Place) (s' : List SObj) : Prop where
  box : ∀ (id : Nat) (v : V) (pl : Place), s[id]? = some (SObj.box v) → κ[id]? = some pl → ∃ (v' : V) (pl' : Place), s'[id]? = some (SObj.box v') ∧ κ'[id]? = some pl' ∧ pl'.blk = pl.blk
  map : ∀ (id : Nat) (es : List (T × T)) (pl : Place), s[id]? = some (SObj.map es) → κ[id]? = some pl → ∃ (es' : List (T × T)) (pl' : Place), s'[id]? = some (SObj.map es') ∧ κ'[id]? = some pl' ∧ pl'.blk = pl.blk
  row : ∀ (id cur e : Nat), s[id]? = some (SObj.row cur e) → ∃ cur', s'[id]? = some (SObj.row cur' e) ∧ cur ≤ cur' ∧ (cur' = cur → κ'[id]? = κ[id]?)
  vec : ∀ (id cur : Nat) (v : V), s[id]? = some (SObj.vec cur v) → ∃ (cur' : Nat) (v' : V), s'[id]? = some (SObj.vec cur' v') ∧ cur ≤ cur' ∧ (cur' = cur → κ'[id]? = κ[id]?)
  lp : ∀ (id : Nat) (ls : LoopState) (pend : Option Code) (d : Nat) (f : FuncId) (n : Nat) (t : List (Nat × V)) (ps : Array Tmp) (as bd : Code) (pl : Place), s[id]? = some (SObj.lp ls pend d f n t ps as bd) → κ[id]? = some pl → ∃ (ls' : LoopState) (pend' : Option Code) (t' : List (Nat × V)) (pl' : Place), s'[id]? = some (SObj.lp ls' pend' d f n t' ps as bd) ∧ κ'[id]? = some pl' ∧ pl'.blk = pl.blk
  dfr : ∀ (id : Nat) (pl : Place), s[id]? = some SObj.dfr → κ[id]? = some pl → ∃ pl' : Place, s'[id]? = some SObj.dfr ∧ κ'[id]? = some pl' ∧ pl'.blk = pl.blk

theorem Ext.refl (κ : List Place) (s : List SObj) : Ext κ s κ s :=
  ⟨fun _ v pl h k => ⟨v, pl, h, k, rfl⟩, fun _ es pl h k => ⟨es, pl, h, k, rfl⟩, fun _ cur _ h => ⟨cur, h, Nat.le_refl _, fun _ => rfl⟩, fun _ cur v h => ⟨cur, v, h, Nat.le_refl _, fun _ => rfl⟩, fun _ ls pd _ _ _ t _ _ _ pl h k => ⟨ls, pd, t, pl, h, k, rfl⟩, fun _ pl h k => ⟨pl, h, k, rfl⟩⟩

mutual
theorem Vc.ext {U : Nat → Nat → Prop} {κ κ' : List Place} {s s' : List SObj} {w w' : World} (hp : Pres w (okOf U κ) w' (okOf U κ')) (he : Ext κ s κ' s') :
    ∀ {v : V} {cs : List Value}, Vc U κ s w v cs → Vc U κ' s' w' v cs
  | _, _, .p h => .p (h.pres hp)
  | _, _, .rb b => .rb b
  | _, _, .ptr h k => by obtain ⟨v', pl', a, b, c⟩ := he.box _ _ _ h k; rw [← c]; exact .ptr a b
  | _, _, .row h k l m => by
    obtain ⟨cur', a, b, c⟩ := he.row _ _ _ k
    refine .row (h.pres hp) a (Nat.le_trans l b) (fun e => ?_)
    have e2 : cur' = _ := Nat.le_antisymm (e ▸ l) b
    rcases m (e.trans e2) with q | ⟨pl, o, q⟩
    · exact .inl q
    · exact .inr ⟨pl, o, (c e2).trans q.1, q.2⟩
  | _, _, .map h k => by obtain ⟨v', pl', a, b, c⟩ := he.map _ _ _ h k; rw [← c]; exact .map a b
  | _, _, .view h k => by obtain ⟨v', pl', a, b, c⟩ := he.box _ _ _ h k; rw [← c]; exact .view a b
  | _, _, .cv k l n m => by
    obtain ⟨cur', v', a, b, c⟩ := he.vec _ _ _ k
    refine .cv a (Nat.le_trans l b) n (fun e => ?_)
    have e2 : cur' = _ := Nat.le_antisymm (e ▸ l) b
    obtain ⟨pl, q⟩ := m (e.trans e2)
    exact ⟨pl, (c e2).trans q.1, q.2⟩
  | _, _, .ep k l m => by
    obtain ⟨cur', v', a, b, c⟩ := he.vec _ _ _ k
    refine .ep a (Nat.le_trans l b) (fun e => ?_)
    have e2 : cur' = _ := Nat.le_antisymm (e ▸ l) b
    obtain ⟨pl, q⟩ := m (e.trans e2)
    exact ⟨pl, (c e2).trans q.1, q.2⟩
  | _, _, .yld h k => by obtain ⟨ls', pd', t', pl', a, b, c⟩ := he.lp _ _ _ _ _ _ _ _ _ _ _ h k; rw [← c]; exact .yld a b
  | _, _, .agg h => .agg (Vcs.ext hp he h)
  | _, _, .clo h k => .clo (Vcs.ext hp he h) k
  | _, _, .bad h => .bad h
theorem Vcs.ext {U : Nat → Nat → Prop} {κ κ' : List Place} {s s' : List SObj} {w w' : World} (hp : Pres w (okOf U κ) w' (okOf U κ')) (he : Ext κ s κ' s') :
    ∀ {vs : List V} {cs : List Value}, Vcs U κ s w vs cs → Vcs U κ' s' w' vs cs
  | _, _, .nil => .nil
  | _, _, .cons h k => .cons (Vc.ext hp he h) (Vcs.ext hp he k)
end

mutual
theorem Vc.len {U : Nat → Nat → Prop} {κ : List Place} {s : List SObj} {w : World} : ∀ {v : V} {cs : List Value}, Vc U κ s w v cs → cs.length = v.sz
  | _, _, .p h => by rw [h.len, V.sz]
  | _, _, .rb b => rfl
  | _, _, .ptr .. => rfl
  | _, _, .row .. => rfl
  | _, _, .map .. => rfl
  | _, _, .view .. => rfl
  | _, _, .cv .. => rfl
  | _, _, .ep .. => rfl
  | _, _, .yld .. => rfl
  | _, _, .agg h => by rw [Vcs.len h, V.sz]
  | _, _, .clo .. => rfl
  | _, _, .bad _ => rfl
theorem Vcs.len {U : Nat → Nat → Prop} {κ : List Place} {s : List SObj} {w : World} : ∀ {vs : List V} {cs : List Value}, Vcs U κ s w vs cs → cs.length = V.szs vs
  | _, _, .nil => rfl
  | _, _, .cons h k => by rw [List.length_append, Vc.len h, Vcs.len k, V.szs]
end

mutual
theorem Vc.one {U : Nat → Nat → Prop} {κ : List Place} {s : List SObj} {w : World} : ∀ {v : V} {cs : List Value}, Vc U κ s w v cs → ∀ x ∈ cs, x.oneCell' = true
  | _, _, .p h => h.one
  | _, _, .rb b => by simp [Value.oneCell']
  | _, _, .ptr .. => by simp [Value.oneCell']
  | _, _, .row .. => by simp [Value.oneCell']
  | _, _, .map .. => by simp [Value.oneCell']
  | _, _, .view .. => by simp [Value.oneCell']
  | _, _, .cv .. => by simp [Value.oneCell']
  | _, _, .ep .. => by simp [Value.oneCell']
  | _, _, .yld .. => by simp [Value.oneCell']
  | _, _, .agg h => Vcs.one h
  | _, _, .clo .. => by simp [Value.oneCell']
  | _, _, .bad h => by simpa using h
theorem Vcs.one {U : Nat → Nat → Prop} {κ : List Place} {s : List SObj} {w : World} : ∀ {vs : List V} {cs : List Value}, Vcs U κ s w vs cs → ∀ x ∈ cs, x.oneCell' = true
  | _, _, .nil => by simp
  | _, _, .cons h k => by
    intro x hx
    rcases List.mem_append.1 hx with hx | hx
    · exact Vc.one h x hx
    · exact Vcs.one k x hx
end

inductive F2 {α β : Type} (R : α → β → Prop) : List α → List β → Prop
  | nil : F2 R [] []
  | cons {a : α} {b : β} {l : List α} {m : List β} : R a b → F2 R l m → F2 R (a :: l) (b :: m)

theorem F2.mono' {α β : Type} {R R' : α → β → Prop} (h : ∀ a b, R a b → R' a b) : ∀ {l : List α} {m : List β}, F2 R l m → F2 R' l m
  | _, _, .nil => .nil
  | _, _, .cons a k => .cons (h _ _ a) (F2.mono' h k)

/-- One value (no tuple). -/
def VV1 (U : Nat → Nat → Prop) (κ : List Place) (s : List SObj) (w : World) (v : V) (x : Value) : Prop := Vc U κ s w v x.cells.toList ∧ isAggV x = v.isAgg

/-- A value, or a tuple of values. -/
def VV (U : Nat → Nat → Prop) (κ : List Place) (s : List SObj) (w : World) (v : V) (x : Value) : Prop :=
  match v with
  | .tup vs => ∃ xs : List Value, x = .tuple xs.toArray ∧ F2 (VV1 U κ s w) vs xs
  | v => VV1 U κ s w v x

theorem VV1.ext {U : Nat → Nat → Prop} {κ κ' : List Place} {s s' : List SObj} {w w' : World} (hp : Pres w (okOf U κ) w' (okOf U κ')) (he : Ext κ s κ' s') {v : V} {x : Value}
    (h : VV1 U κ s w v x) : VV1 U κ' s' w' v x := ⟨h.1.ext hp he, h.2⟩

theorem forall₂_mono {α β : Type} {R R' : α → β → Prop} (h : ∀ a b, R a b → R' a b) : ∀ {l : List α} {m : List β}, F2 R l m → F2 R' l m
  | _, _, .nil => .nil
  | _, _, .cons a b => .cons (h _ _ a) (forall₂_mono h b)

theorem VV.ext {U : Nat → Nat → Prop} {κ κ' : List Place} {s s' : List SObj} {w w' : World} (hp : Pres w (okOf U κ) w' (okOf U κ')) (he : Ext κ s κ' s') {v : V} {x : Value}
    (h : VV U κ s w v x) : VV U κ' s' w' v x := by
  cases v with
  | tup vs => obtain ⟨xs, e, f⟩ := h; exact ⟨xs, e, forall₂_mono (fun _ _ a => a.ext hp he) f⟩
  | p t => exact VV1.ext hp he h
  | rb b => exact VV1.ext hp he h
  | ptr a b => exact VV1.ext hp he h
  | row a b c => exact VV1.ext hp he h
  | map a => exact VV1.ext hp he h
  | view a b c => exact VV1.ext hp he h
  | cv a b c d e => exact VV1.ext hp he h
  | ep a b c => exact VV1.ext hp he h
  | yld a => exact VV1.ext hp he h
  | agg a => exact VV1.ext hp he h
  | clo a b => exact VV1.ext hp he h
  | wh a b c => exact VV1.ext hp he h
  | bad => exact VV1.ext hp he h

/-- Map entries: key and value by their cells; the stamps differ and are below the clock. -/
def MapR (w : World) (ok : Nat → Nat → Prop) (es : List (T × T)) (ents : Array Go.MapEntry) (clock : Nat) : Prop :=
  F2 (fun (x : T × T) (e : MapEntry) => TV w ok x.1 e.key ∧ TV w ok x.2 e.val) es ents.toList ∧ (∀ e ∈ ents, e.born < clock)

/-- A block of cells, none of which is frozen. -/
def BoxAt (w : World) (b : Nat) (cells : Array Value) (elem : TypeId) : Prop := ∃ fr : Nat × Nat, w.heap[b]? = some (.cells cells elem fr) ∧ (fr.1 = fr.2 ∨ cells.size ≤ fr.1)

theorem BoxAt.of_eq {w w' : World} {b : Nat} {cells : Array Value} {elem : TypeId} (e : w'.heap[b]? = w.heap[b]?) (h : BoxAt w b cells elem) : BoxAt w' b cells elem := by
  obtain ⟨fr, a, c⟩ := h
  exact ⟨fr, by rw [e]; exact a, c⟩

theorem BoxAt.plain {w : World} {b : Nat} {cells : Array Value} {elem : TypeId} (h : w.heap[b]? = some (.cells cells elem (0, 0))) : BoxAt w b cells elem := ⟨(0, 0), h, .inl rfl⟩

theorem BoxAt.cell {w : World} {b : Nat} {cells : Array Value} {elem : TypeId} (h : BoxAt w b cells elem) (o : Nat) : w.cell? ⟨b, o, none⟩ = cells[o]? := by
  obtain ⟨fr, a, _⟩ := h
  simp [World.cell?, a]

theorem BoxAt.thaw {w : World} {b : Nat} {cells : Array Value} {elem : TypeId} (h : BoxAt w b cells elem) {o : Nat} (ho : o < cells.size) : w.frozen? ⟨b, o, none⟩ = false := by
  obtain ⟨fr, a, c⟩ := h
  simp [World.frozen?, a]
  omega

/-- The value of a slot; written so that the kernel is quick at it. -/
def getT : List (Nat × V) → Nat → Option V
  | [], _ => none
  | p :: r, y => match Nat.beq p.1 y with | true => some p.2 | false => getT r y

def Slot (U : Nat → Nat → Prop) (κ : List Place) (s : List SObj) (w : World) (a : Act) (x : Nat) : V → Prop
  | .wh d want u => a.tmps[d]? = some (.bool want) → ∃ y, a.tmps[x]? = some y ∧ VV U κ s w u y
  | .bad => True
  | v => ∃ y, a.tmps[x]? = some y ∧ VV U κ s w v y

def ObjR (U : Nat → Nat → Prop) (κ : List Place) (s : List SObj) (w : World) (pl : Place) : SObj → Prop
  | .box v => pl.on = true ∧ pl.lo = 0 ∧ pl.hi = v.sz ∧ pl.blk < w.heap.size ∧ ∃ cells elem, BoxAt w pl.blk cells elem ∧ Vc U κ s w v cells.toList
  | .row _ _ => pl.on = true → pl.blk < w.heap.size ∧ ∀ o, pl.lo ≤ o → o < pl.hi → (w.cell? ⟨pl.blk, o, none⟩).isSome = true ∧ w.frozen? ⟨pl.blk, o, none⟩ = false ∧ U pl.blk o
  | .map es => pl.on = true ∧ pl.blk < w.heap.size ∧ ∃ ents clock, w.heap[pl.blk]? = some (.map ents clock) ∧ MapR w (okOf U κ) es ents clock
  | .vec _ v => pl.on = true ∧ pl.lo = 0 ∧ pl.blk < w.heap.size ∧ ∃ cells elem, (∃ cs more, cells.toList = cs ++ more ∧ Vc U κ s w v cs) ∧ BoxAt w pl.blk cells elem ∧ pl.hi = cells.size
  | .dead => pl.on = false
  | .lp ls pend d f n t ps as bd => pl.on = true ∧ pl.lo = 0 ∧ pl.hi = 0 ∧ pl.blk < w.heap.size ∧ ∃ (tmps : Array Value), (∃ (fn : FuncId) (D : Nat), w.heap[pl.blk]? = some (.loop { state := ls, pending := pend, fn, tmps, params := ps, assign := as, body := bd, defers := D })) ∧ tmps.size = n ∧ ∀ x v, getT t x = some v → Slot U κ s w { tmps, defers := [] } x v
  | .dfr => pl.on = true ∧ pl.lo = 0 ∧ pl.hi = 0 ∧ pl.blk < w.heap.size ∧ w.heap[pl.blk]? = some (.deferred (some []))

/-- The tables that package variables hold, which nobody writes (a seat's own: lay.py puts them here). -/
def gtab : List (Nat × T) := []
def lookG : List (Nat × T) → Nat → Option T
  | [], _ => none
  | x :: r, g => match Nat.beq x.1 g with | true => some x.2 | false => lookG r g
theorem lookG_mem : ∀ {l : List (Nat × T)} {g : Nat} {t : T}, lookG l g = some t → (g, t) ∈ l
  | x :: r, g, t, h => by
    simp only [lookG] at h
    split at h
    · rename_i e
      injection h with h
      subst h
      rw [← Nat.eq_of_beq_eq_true e]
      exact List.mem_cons_self
    · exact List.mem_cons_of_mem _ (lookG_mem h)
def GlobU (w : World) (ok : Nat → Nat → Prop) : Prop := ∀ g t, (g, t) ∈ gtab → Tc w ok (.rp t 0) [.pointer (some ⟨g, 0, none⟩)]
theorem GlobU.pres {w w' : World} {ok ok' : Nat → Nat → Prop} (h : GlobU w ok) (hp : Pres w ok w' ok') : GlobU w' ok' := fun g t m => (h g t m).pres hp

/-- The store lies in the world. -/
structure RelS (U : Nat → Nat → Prop) (κ : List Place) (s : List SObj) (w : World) : Prop where
  up : ∀ b o, w.heap.size ≤ b → U b o
  len : κ.length = s.length
  obj : ∀ (id : Nat) o pl, s[id]? = some o → κ[id]? = some pl → ObjR U κ s w pl o
  apart : ∀ (i j : Nat) pl pl', κ[i]? = some pl → κ[j]? = some pl' → i ≠ j → pl.live → pl'.live → pl.blk ≠ pl'.blk
  below : ∀ pl ∈ κ, pl.live → pl.blk < w.heap.size
  mine : ∀ pl ∈ κ, pl.live → ∀ o, U pl.blk o
  glob : GlobU w (okOf U κ)

structure St where
  n : Nat
  t : List (Nat × V)
  s : List SObj
  deriving Inhabited

theorem getT_nil (y : Nat) : getT [] y = none := rfl
theorem getT_cons (x : Nat) (v : V) (r : List (Nat × V)) (y : Nat) : getT ((x, v) :: r) y = if x == y then some v else getT r y := by
  have : (x == y) = Nat.beq x y := by rw [Bool.eq_iff_iff]; simp
  rw [this]
  show (match Nat.beq x y with | true => some v | false => getT r y) = _
  cases Nat.beq x y <;> rfl

def setT : List (Nat × V) → Nat → V → List (Nat × V)
  | [], y, u => [(y, u)]
  | (x, v) :: r, y, u => if x == y then (y, u) :: r else (x, v) :: setT r y u

/-- What hangs on a slot that is written is let go. -/
def dropW : List (Nat × V) → Nat → List (Nat × V)
  | [], _ => []
  | (x, v) :: r, y => match v with
    | .wh d want u => if d == y then (x, .bad) :: dropW r y else (x, .wh d want u) :: dropW r y
    | v => (x, v) :: dropW r y

/-- The mark of a range over a function. -/
def markD (D : Nat) : Deferred := { target := .collected D, args := #[] }

/-- The deferred calls of an activation: marks of ranges over functions, and nothing else. -/
def MarksR (U : Nat → Nat → Prop) (κ : List Place) (w : World) (ds : List Deferred) : Prop :=
  ∃ Ds : List Nat, Ds.Nodup ∧ ds = Ds.map markD ∧ ∀ D ∈ Ds, w.heap[D]? = some (.deferred (some [])) ∧ U D 0 ∧ ∀ pl ∈ κ, pl.live → pl.blk ≠ D

theorem MarksR.nil {U : Nat → Nat → Prop} {κ : List Place} {w : World} : MarksR U κ w [] := ⟨[], .nil, rfl, fun _ h => by cases h⟩

theorem MarksR.turn {U : Nat → Nat → Prop} {κ κ' : List Place} {w w' : World} {ds : List Deferred} (h : MarksR U κ w ds)
    (hw : ∀ D, D < w.heap.size → (∀ pl ∈ κ, pl.live → pl.blk ≠ D) → w'.heap[D]? = w.heap[D]?)
    (hk : ∀ pl ∈ κ', pl.live → (∃ pl₀ ∈ κ, pl₀.live ∧ pl₀.blk = pl.blk) ∨ w.heap.size ≤ pl.blk) : MarksR U κ' w' ds := by
  obtain ⟨Ds, a, b, c⟩ := h
  refine ⟨Ds, a, b, fun D hD => ?_⟩
  obtain ⟨x, y, z⟩ := c D hD
  have hlt : D < w.heap.size := by
    rcases Nat.lt_or_ge D w.heap.size with q | q
    · exact q
    · rw [Array.getElem?_eq_none q] at x; cases x
  refine ⟨by rw [hw D hlt z]; exact x, y, fun pl hp hl e => ?_⟩
  rcases hk pl hp hl with ⟨p₀, q1, q2, q3⟩ | q
  · exact z p₀ q1 q2 (q3.trans e)
  · omega

/-- Fewer places. -/
theorem MarksR.sub {U : Nat → Nat → Prop} {κ κ' : List Place} {w : World} {ds : List Deferred} (h : MarksR U κ w ds) (hk : ∀ pl ∈ κ', pl.live → ∃ pl₀ ∈ κ, pl₀.live ∧ pl₀.blk = pl.blk) : MarksR U κ' w ds :=
  h.turn (fun _ _ _ => rfl) (fun pl a b => .inl (hk pl a b))

structure Rel (U : Nat → Nat → Prop) (κ : List Place) (st : St) (a : Act) (w : World) : Prop where
  store : RelS U κ st.s w
  size : a.tmps.size = st.n
  defers : MarksR U κ w a.defers
  slot : ∀ x v, getT st.t x = some v → Slot U κ st.s w a x v

/-- What a run of the store's may change of the world, and what it may not. -/
structure Kept (κ : List Place) (w w' : World) : Prop where
  os : w'.os = w.os
  tape : w'.tape = w.tape
  output : w'.output = w.output
  size : w.heap.size ≤ w'.heap.size
  block : ∀ k, k < w.heap.size → (∀ pl ∈ κ, pl.live → k ≠ pl.blk) → w'.heap[k]? = w.heap[k]?

structure Step (U : Nat → Nat → Prop) (κ : List Place) (w : World) (κ' : List Place) (w' : World) : Prop where
  kept : Kept κ w w'
  fresh : ∀ pl ∈ κ', pl.live → (∃ pl₀ ∈ κ, pl₀.live ∧ pl₀.blk = pl.blk) ∨ w.heap.size ≤ pl.blk
  pres : Pres w (okOf U κ) w' (okOf U κ')

theorem MarksR.step {U : Nat → Nat → Prop} {κ κ' : List Place} {w w' : World} {ds : List Deferred} (h : MarksR U κ w ds) (hs : Step U κ w κ' w') : MarksR U κ' w' ds :=
  h.turn (fun D a b => hs.kept.block D a (fun pl p q e => b pl p q e.symm)) hs.fresh

theorem Kept.refl (κ : List Place) (w : World) : Kept κ w w := ⟨rfl, rfl, rfl, Nat.le_refl _, fun _ _ _ => rfl⟩

theorem Step.refl (U : Nat → Nat → Prop) (κ : List Place) (w : World) : Step U κ w κ w :=
  ⟨.refl _ _, fun pl h k => .inl ⟨pl, h, k, rfl⟩, .refl _ _⟩

theorem Step.trans {U : Nat → Nat → Prop} {κ κ' κ'' : List Place} {w w' w'' : World} (h : Step U κ w κ' w') (k : Step U κ' w' κ'' w'') : Step U κ w κ'' w'' where
  kept := {
    os := k.kept.os.trans h.kept.os
    tape := k.kept.tape.trans h.kept.tape
    output := k.kept.output.trans h.kept.output
    size := Nat.le_trans h.kept.size k.kept.size
    block := fun i hi hn => by
      rw [k.kept.block i (Nat.lt_of_lt_of_le hi h.kept.size), h.kept.block i hi hn]
      intro pl hp hl e
      rcases h.fresh pl hp hl with ⟨p₀, a, b, c⟩ | c
      · exact hn p₀ a b (by omega)
      · omega }
  fresh := fun pl hp hl => by
    rcases k.fresh pl hp hl with ⟨p₁, a, b, c⟩ | c
    · rcases h.fresh p₁ a b with ⟨p₀, a', b', c'⟩ | c'
      · exact .inl ⟨p₀, a', b', c'.trans c⟩
      · exact .inr (by omega)
    · exact .inr (Nat.le_trans h.kept.size c)
  pres := h.pres.trans k.pres

theorem Rel.getSlot {U : Nat → Nat → Prop} {κ : List Place} {st : St} {a : Act} {w : World} (h : Rel U κ st a w) {x : Nat} {v : V} (hg : getT st.t x = some v)
    (hv : ∀ d want u, v ≠ .wh d want u) (hb : v ≠ .bad) : ∃ y, a.tmps[x]? = some y ∧ VV U κ st.s w v y := by
  have := h.slot x v hg
  cases v with
  | wh d want u => exact absurd rfl (hv d want u)
  | bad => exact absurd rfl hb
  | _ => exact this

theorem getT_setT_same : ∀ (t : List (Nat × V)) (y : Nat) (u : V), getT (setT t y u) y = some u
  | [], y, u => by simp [setT, getT_nil, getT_cons]
  | (x, v) :: r, y, u => by
    unfold setT
    split
    · simp [getT_nil, getT_cons]
    · rename_i h; simp only [getT_nil, getT_cons, h]; simpa using getT_setT_same r y u

theorem getT_setT_other : ∀ (t : List (Nat × V)) (y z : Nat) (u : V), z ≠ y → getT (setT t y u) z = getT t z
  | [], y, z, u, h => by simp [setT, getT_nil, getT_cons]; omega
  | (x, v) :: r, y, z, u, h => by
    unfold setT
    split
    · rename_i hx
      have hx' : x = y := by simpa using hx
      have : (y == z) = false := by simp; omega
      have h2 : (x == z) = false := by simp; omega
      simp [getT_nil, getT_cons, this, h2]
    · simp only [getT_nil, getT_cons]
      split
      · rfl
      · exact getT_setT_other r y z u h

theorem getT_dropW : ∀ (t : List (Nat × V)) (y z : Nat) (v : V), getT (dropW t y) z = some v → v = .bad ∨ (getT t z = some v ∧ ∀ want u, v ≠ .wh y want u)
  | [], y, z, v, h => by simp [dropW, getT_nil, getT_cons] at h
  | (x, u) :: r, y, z, v, h => by
    cases u with
    | wh d want u' =>
      simp only [dropW] at h
      split at h
      · rename_i hd
        have hd' : d = y := by simpa using hd
        simp only [getT_nil, getT_cons] at h ⊢
        split at h
        · rename_i hx
          left; simp at h; exact h.symm
        · rename_i hx; simp only [hx]; simpa using getT_dropW r y z v h
      · rename_i hd
        simp only [getT_nil, getT_cons] at h ⊢
        split at h
        · rename_i hx
          right; simp at h; refine ⟨by simp [hx, h], fun want' u'' e => ?_⟩
          rw [← h] at e; injection e with e1 _ _; exact hd (by simp [e1])
        · rename_i hx; simp only [hx]; simpa using getT_dropW r y z v h
    | _ =>
      simp only [dropW, getT_nil, getT_cons] at h ⊢
      split at h
      · rename_i hx
        right; simp at h; exact ⟨by simp [hx, h], fun want' u'' e => by rw [← h] at e; cases e⟩
      · rename_i hx; simp only [hx]; simpa using getT_dropW r y z v h

end Go.HM
