/- HM, part A: trees, values with places, and how they lie in a world's memory. -/
import Derived.Calls
import Derived.Orders
import Derived.Scope
import Derived.LoopN
import Derived.Laws.Cells
import Derived.Laws.IdiomCopy
import Derived.KernelRfl
namespace Go.HM

/-- A tree: a value that bears no place of the run's own. 'bl', 'lst': a slice, by what it holds; 'x': its capacity is its length. 'rp': a pointer into memory that stays as it is · 'sl': a slice of which it is known whether it is nil. -/
inductive T where
  | int (k : IntKind) (n : Int)
  | bool (b : Bool)
  | str (s : ByteArray)
  | flt (k : FloatKind) (n : Nat)
  | ba (n : Nat) (bs : List Int)
  | agg (ts : List T)
  | bl (x : Bool) (bs : List Int)
  | lst (x : Bool) (e : Nat) (ts : List T)
  | rp (t : T) (off : Nat)
  | nilP
  | nilM
  | nilF
  | nilI
  | clo (f : FuncId) (caps : List T)
  | sl (nil : Bool) (t : T)
  deriving Inhabited

mutual
def T.sz : T → Nat
  | .ba n _ => n
  | .agg ts => T.szs ts
  | _ => 1
def T.szs : List T → Nat
  | [] => 0
  | t :: ts => t.sz + T.szs ts
end

def T.isAgg : T → Bool
  | .ba .. | .agg _ => true
  | _ => false

def isAggV : Value → Bool
  | .agg _ => true
  | _ => false

def byteV (b : Int) : Value := .int .u8 b

mutual
/-- The cells of a tree in a world; 'ok': the cells that may be leant on. -/
inductive Tc (w : World) (ok : Nat → Nat → Prop) : T → List Value → Prop
  | int (k : IntKind) (n : Int) : Tc w ok (.int k n) [.int k n]
  | bool (b : Bool) : Tc w ok (.bool b) [.bool b]
  | str (s : ByteArray) : Tc w ok (.str s) [.string s]
  | flt (k : FloatKind) (n : Nat) : Tc w ok (.flt k n) [.float k n]
  | ba {n : Nat} {bs : List Int} : bs.length = n → Tc w ok (.ba n bs) (bs.map byteV)
  | agg {ts : List T} {cs : List Value} : Tcs w ok ts cs → Tc w ok (.agg ts) cs
  | blnil {x : Bool} : Tc w ok (.bl x []) [.slice none 0 0]
  | bl {x : Bool} {bs : List Int} {b o n cap : Nat} : bs.length = n → n ≤ cap → (x = true → cap = n) →
      (∀ (j : Nat) (v : Int), bs[j]? = some v → w.cell? ⟨b, o + j, none⟩ = some (byteV v) ∧ ok b (o + j)) → Tc w ok (.bl x bs) [.slice (some ⟨b, o, none⟩) n cap]
  | lstnil {x : Bool} {e : Nat} : Tc w ok (.lst x e []) [.slice none 0 0]
  | bl0 {x : Bool} {a : Addr} {cap : Nat} : (x = true → cap = 0) → Tc w ok (.bl x []) [.slice (some a) 0 cap]
  | lst0 {x : Bool} {e : Nat} {a : Addr} {cap : Nat} : (x = true → cap = 0) → Tc w ok (.lst x e []) [.slice (some a) 0 cap]
  | lst {x : Bool} {e : Nat} {ts : List T} {cs : List Value} {b o n cap : Nat} : ts.length = n → n ≤ cap → (x = true → cap = n) → (∀ t ∈ ts, t.sz = e) → Tcs w ok ts cs →
      (∀ (j : Nat) (v : Value), cs[j]? = some v → w.cell? ⟨b, o + j, none⟩ = some v ∧ ok b (o + j)) → Tc w ok (.lst x e ts) [.slice (some ⟨b, o, none⟩) n cap]
  | rp {t : T} {off : Nat} {cs : List Value} {b o : Nat} : Tc w ok t cs →
      (∀ (j : Nat) (v : Value), cs[j]? = some v → w.cell? ⟨b, o + j, none⟩ = some v ∧ ok b (o + j)) → Tc w ok (.rp t off) [.pointer (some ⟨b, o + off, none⟩)]
  | nilP : Tc w ok .nilP [.pointer none]
  | nilM : Tc w ok .nilM [.map none]
  | nilF : Tc w ok .nilF [.nilFunc]
  | nilI : Tc w ok .nilI [.nilIface]
  | clo {f : FuncId} {caps : List T} {cs : List Value} : Tcs w ok caps cs → (∀ t ∈ caps, t.isAgg = false) → Tc w ok (.clo f caps) [.func (.func f) #[] cs.toArray]
  | sl {b : Bool} {t : T} {base : Option Addr} {n c : Nat} : Tc w ok t [.slice base n c] → base.isNone = b → t.isAgg = false → Tc w ok (.sl b t) [.slice base n c]
inductive Tcs (w : World) (ok : Nat → Nat → Prop) : List T → List Value → Prop
  | nil : Tcs w ok [] []
  | cons {t : T} {ts : List T} {cs ds : List Value} : Tc w ok t cs → Tcs w ok ts ds → Tcs w ok (t :: ts) (cs ++ ds)
end

/-- What is leant on in 'w' is there in 'w'' too. -/
def Pres (w : World) (ok : Nat → Nat → Prop) (w' : World) (ok' : Nat → Nat → Prop) : Prop :=
  ∀ b o v, w.cell? ⟨b, o, none⟩ = some v → ok b o → w'.cell? ⟨b, o, none⟩ = some v ∧ ok' b o

theorem Pres.refl (w : World) (ok : Nat → Nat → Prop) : Pres w ok w ok := fun _ _ _ h k => ⟨h, k⟩
theorem Pres.trans {w w' w'' : World} {o o' o'' : Nat → Nat → Prop} (h : Pres w o w' o') (k : Pres w' o' w'' o'') : Pres w o w'' o'' :=
  fun b x v hv hk => let ⟨a, c⟩ := h b x v hv hk; k b x v a c

mutual
theorem Tc.pres {w w' : World} {ok ok' : Nat → Nat → Prop} (hp : Pres w ok w' ok') : ∀ {t : T} {cs : List Value}, Tc w ok t cs → Tc w' ok' t cs
  | _, _, .int k n => .int k n
  | _, _, .bool b => .bool b
  | _, _, .str s => .str s
  | _, _, .flt k n => .flt k n
  | _, _, .ba h => .ba h
  | _, _, .agg h => .agg (Tcs.pres hp h)
  | _, _, .blnil => .blnil
  | _, _, .bl h1 h2 h3 h4 => .bl h1 h2 h3 (fun j v hj => hp _ _ _ (h4 j v hj).1 (h4 j v hj).2)
  | _, _, .lstnil => .lstnil
  | _, _, .bl0 h => .bl0 h
  | _, _, .lst0 h => .lst0 h
  | _, _, .lst h1 h2 h3 h4 h5 h6 => .lst h1 h2 h3 h4 (Tcs.pres hp h5) (fun j v hj => hp _ _ _ (h6 j v hj).1 (h6 j v hj).2)
  | _, _, .rp h1 h2 => .rp (Tc.pres hp h1) (fun j v hj => hp _ _ _ (h2 j v hj).1 (h2 j v hj).2)
  | _, _, .nilP => .nilP
  | _, _, .nilM => .nilM
  | _, _, .nilF => .nilF
  | _, _, .nilI => .nilI
  | _, _, .clo h1 h2 => .clo (Tcs.pres hp h1) h2
  | _, _, .sl h1 h2 h3 => .sl (Tc.pres hp h1) h2 h3
theorem Tcs.pres {w w' : World} {ok ok' : Nat → Nat → Prop} (hp : Pres w ok w' ok') : ∀ {ts : List T} {cs : List Value}, Tcs w ok ts cs → Tcs w' ok' ts cs
  | _, _, .nil => .nil
  | _, _, .cons h1 h2 => .cons (Tc.pres hp h1) (Tcs.pres hp h2)
end

mutual
theorem Tc.len {w : World} {ok : Nat → Nat → Prop} : ∀ {t : T} {cs : List Value}, Tc w ok t cs → cs.length = t.sz
  | _, _, .int k n => rfl
  | _, _, .bool b => rfl
  | _, _, .str s => rfl
  | _, _, .flt k n => rfl
  | _, _, .ba h => by simp [T.sz, h]
  | _, _, .agg h => by rw [T.sz]; exact Tcs.len h
  | _, _, .blnil => rfl
  | _, _, .bl .. => rfl
  | _, _, .lstnil => rfl
  | _, _, .bl0 _ => rfl
  | _, _, .lst0 _ => rfl
  | _, _, .lst .. => rfl
  | _, _, .rp .. => rfl
  | _, _, .nilP => rfl
  | _, _, .nilM => rfl
  | _, _, .nilF => rfl
  | _, _, .nilI => rfl
  | _, _, .clo .. => rfl
  | _, _, .sl .. => rfl
theorem Tcs.len {w : World} {ok : Nat → Nat → Prop} : ∀ {ts : List T} {cs : List Value}, Tcs w ok ts cs → cs.length = T.szs ts
  | _, _, .nil => rfl
  | _, _, .cons h1 h2 => by rw [List.length_append, Tc.len h1, Tcs.len h2, T.szs]
end

def oneCellB : Value → Bool
  | .agg _ | .tuple _ => false
  | _ => true

mutual
theorem Tc.one {w : World} {ok : Nat → Nat → Prop} : ∀ {t : T} {cs : List Value}, Tc w ok t cs → ∀ v ∈ cs, v.oneCell' = true
  | _, _, .int k n => by simp [Value.oneCell']
  | _, _, .bool b => by simp [Value.oneCell']
  | _, _, .str s => by simp [Value.oneCell']
  | _, _, .flt k n => by simp [Value.oneCell']
  | _, _, .ba h => by intro v hv; obtain ⟨b, _, rfl⟩ := List.mem_map.1 hv; rfl
  | _, _, .agg h => Tcs.one h
  | _, _, .blnil => by simp [Value.oneCell']
  | _, _, .bl .. => by simp [Value.oneCell']
  | _, _, .lstnil => by simp [Value.oneCell']
  | _, _, .bl0 _ => by simp [Value.oneCell']
  | _, _, .lst0 _ => by simp [Value.oneCell']
  | _, _, .lst .. => by simp [Value.oneCell']
  | _, _, .rp .. => by simp [Value.oneCell']
  | _, _, .nilP => by simp [Value.oneCell']
  | _, _, .nilM => by simp [Value.oneCell']
  | _, _, .nilF => by simp [Value.oneCell']
  | _, _, .nilI => by simp [Value.oneCell']
  | _, _, .clo .. => by simp [Value.oneCell']
  | _, _, .sl .. => by simp [Value.oneCell']
theorem Tcs.one {w : World} {ok : Nat → Nat → Prop} : ∀ {ts : List T} {cs : List Value}, Tcs w ok ts cs → ∀ v ∈ cs, v.oneCell' = true
  | _, _, .nil => by simp
  | _, _, .cons h1 h2 => by
    intro v hv
    rcases List.mem_append.1 hv with h | h
    · exact Tc.one h1 v h
    · exact Tcs.one h2 v h
end

/-- A value that reads as a tree. -/
def TV (w : World) (ok : Nat → Nat → Prop) (t : T) (v : Value) : Prop := Tc w ok t v.cells.toList ∧ isAggV v = t.isAgg

theorem TV.pres {w w' : World} {ok ok' : Nat → Nat → Prop} (hp : Pres w ok w' ok') {t : T} {v : Value} (h : TV w ok t v) : TV w' ok' t v := ⟨h.1.pres hp, h.2⟩

theorem cells_one {v : Value} (h : isAggV v = false) : v.cells = #[v] := by cases v <;> first | rfl | simp [isAggV] at h

theorem TV.of_cells {w : World} {ok : Nat → Nat → Prop} {t : T} {v : Value} (h : Tc w ok t [v]) (ht : t.isAgg = false) : TV w ok t v := by
  have hv : isAggV v = false := by have := h.one v (by simp); cases v <;> simp_all [isAggV, Value.oneCell']
  exact ⟨by rw [cells_one hv]; exact h, by rw [hv, ht]⟩

theorem TV.cell {w : World} {ok : Nat → Nat → Prop} {t : T} {v : Value} (h : TV w ok t v) (ht : t.isAgg = false) : Tc w ok t [v] := by
  have := h.1; rwa [cells_one (by rw [h.2, ht])] at this

end Go.HM
