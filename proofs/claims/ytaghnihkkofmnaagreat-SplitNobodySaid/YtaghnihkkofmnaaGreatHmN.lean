/- HM, part N: append. -/
import Derived.Test.YtaghnihkkofmnaaGreatHmM
import Derived.ArgAppend
namespace Go.HM

variable {P : Program} {U : Nat → Nat → Prop} {κ : List Place} {s : List SObj} {w : World} {ok : Nat → Nat → Prop}

/-- A slice by its cells: n elements of e cells each. -/
def SliceC (w : World) (ok : Nat → Nat → Prop) (e : Nat) (cs : List Value) (base : Option Addr) (n cap : Nat) : Prop :=
  cs.length = n * e ∧ n ≤ cap ∧ ((n = 0 ∧ (base = none → cap = 0)) ∨ ∃ b o, base = some ⟨b, o, none⟩ ∧ ∀ (j : Nat) (v : Value), cs[j]? = some v → w.cell? ⟨b, o + j, none⟩ = some v ∧ ok b (o + j))

theorem szs_all {e : Nat} : ∀ {ts : List T}, (∀ t ∈ ts, t.sz = e) → T.szs ts = ts.length * e
  | [], _ => by simp [T.szs]
  | t :: ts, h => by rw [T.szs, h t (by simp), szs_all (fun t ht => h t (by simp [ht])), List.length_cons, Nat.succ_mul]; omega

def kindE (e : Nat) : T → Prop
  | .lst _ e' _ => e' = e
  | .bl _ _ => e = 1
  | _ => False

def noX : T → Prop
  | .lst x _ _ => x = false
  | .bl x _ => x = false
  | _ => True

def isX : T → Bool
  | .lst x _ _ => x
  | .bl x _ => x
  | _ => false

/-- What a slice's tree says of its cells. 'e': the cells of an element. -/
theorem slice_cells {t : T} {x : Value} {n : Nat} (h : TV w ok t x) (hl : t.len = some n) (e : Nat) (he : kindE e t) :
    ∃ base cap cs, x = .slice base n cap ∧ SliceC w ok e cs base n cap ∧ (∀ v ∈ cs, v.oneCell' = true) ∧
      (match t with | .lst xf _ ts => Tcs w ok ts cs ∧ (∀ t ∈ ts, t.sz = e) ∧ (xf = true → cap = n) | .bl xf bs => cs = bs.map byteV ∧ (xf = true → cap = n) | _ => False) := by
  cases t with
  | bl xf bs =>
    simp only [T.len, Option.some.injEq] at hl
    subst hl
    simp only [kindE] at he
    subst he
    have h1 := h.cell rfl
    cases h1 with
    | blnil => exact ⟨none, 0, [], rfl, ⟨by simp, Nat.le_refl _, .inl ⟨rfl, fun _ => rfl⟩⟩, by simp, rfl, fun _ => rfl⟩
    | bl0 q => exact ⟨some _, _, [], rfl, ⟨by simp, Nat.zero_le _, .inl ⟨rfl, fun h => by cases h⟩⟩, by simp, rfl, fun hx => q hx⟩
    | bl a b c d =>
      refine ⟨_, _, bs.map byteV, by rw [a], ⟨by simp, by omega, .inr ⟨_, _, rfl, fun j v hj => ?_⟩⟩, fun v hv => ?_, rfl, fun hx => by rw [a]; exact c hx⟩
      · simp only [List.getElem?_map, Option.map_eq_some_iff] at hj
        obtain ⟨v', hv', rfl⟩ := hj
        exact d j v' hv'
      · obtain ⟨b, _, rfl⟩ := List.mem_map.1 hv; rfl
  | lst xf e' ts =>
    simp only [T.len, Option.some.injEq] at hl
    subst hl
    simp only [kindE] at he
    subst he
    have h1 := h.cell rfl
    cases h1 with
    | lstnil => exact ⟨none, 0, [], rfl, ⟨by simp, Nat.le_refl _, .inl ⟨rfl, fun _ => rfl⟩⟩, by simp, .nil, by simp, fun _ => rfl⟩
    | lst0 q => exact ⟨some _, _, [], rfl, ⟨by simp, Nat.zero_le _, .inl ⟨rfl, fun h => by cases h⟩⟩, by simp, .nil, by simp, fun hx => q hx⟩
    | lst a b c d f g =>
      exact ⟨_, _, _, by rw [a], ⟨by rw [f.len, szs_all d], by omega, .inr ⟨_, _, rfl, g⟩⟩, f.one, f, d, fun hx => by rw [a]; exact c hx⟩
  | _ => simp [T.len] at hl

theorem firstCells_run {e n : Nat} {cs : List Value} {base : Option Addr} {cap : Nat} (h : SliceC w ok e cs base n cap) : (Builtin.firstCells e n (.slice base n cap)).run P w = .ok cs.toArray w := by
  obtain ⟨h1, h2, h3⟩ := h
  rcases h3 with ⟨rfl, h3⟩ | ⟨b, o, rfl, h3⟩
  · have : cs = [] := by simpa using h1
    subst this
    cases base with
    | none => rw [h3 rfl]; rfl
    | some a =>
      simp only [Builtin.firstCells]
      have := run_loadCells_list (P := P) w a [] (fun j v hj => by simp at hj)
      simpa using this
  · simp only [Builtin.firstCells]
    have := run_loadCells_list (P := P) w ⟨b, o, none⟩ cs (fun j v hj => by rw [addr_add]; exact (h3 j v hj).1)
    rwa [h1] at this

/-- The world behind an append that had room. -/
def inPlace (w : World) (base : Option Addr) (off : Nat) (ds : List Value) : World := match base with
  | some ad => w.setCells ad.block (ad.off + off) ds
  | none => w

/-- What is appended: a slice or a string, by its cells. -/
structure SrcC (P : Program) (w : World) (t2 : TypeId) (e : Nat) (y : Value) (b : Nat) (ds : List Value) : Prop where
  ty : ∃ d, P.underlying t2 = some d ∧ ∀ k, d ≠ .int k
  lenOf : ∀ w', (Builtin.lenOf y).run P w' = .ok b w'
  cells : ∀ w', (w' = w ∨ w' = w.drew) → (Builtin.firstCells e b y).run P w' = .ok ds.toArray w'
  len : ds.length = b * e
  one : ∀ v ∈ ds, v.oneCell' = true

theorem SrcC.slice {t et : TypeId} {e b cap : Nat} {ds : List Value} {base : Option Addr} (ht : P.underlying t = some (.slice et)) (h : SliceC w ok e ds base b cap) (hone : ∀ v ∈ ds, v.oneCell' = true) : SrcC P w t e (.slice base b cap) b ds where
  ty := ⟨_, ht, fun k e => by cases e⟩
  lenOf := fun w' => rfl
  cells := fun w' hw => by
    rcases hw with rfl | rfl
    · exact firstCells_run h
    · exact firstCells_run (w := w.drew) (ok := ok) h
  len := h.1
  one := hone

theorem run_appendB {t t2 e oty : TypeId} {i : TypeInfo} {z : Value} {cs ds : List Value} {base : Option Addr} {y : Value} {a b cap : Nat} (ht : P.underlying t = some (.slice e))
    (hi : P.info? e = some i) (hz : i.zero = some z) (hsum : a + b ≤ 9223372036854775807) (hby : (a + b) * i.bytes ≤ 140737488355328)
    (h1 : SliceC w ok i.size cs base a cap) (h2 : SrcC P w t2 i.size y b ds)
    (hbad : a + b ≤ cap → (∃ bk o, base = some ⟨bk, o, none⟩) ∨ b = 0)
    (htail : a + b ≤ cap → ∀ bk o, base = some ⟨bk, o, none⟩ → ∀ j, j < ds.length → (w.cell? ⟨bk, o + a * i.size + j, none⟩).isSome = true ∧ w.frozen? ⟨bk, o + a * i.size + j, none⟩ = false) :
    (a + b ≤ cap ∧ (Builtin.append_ #[t, t2] oty #[.slice base a cap, y]).run P w = .ok (.slice base (a + b) cap) (inPlace w base (a * i.size) ds)) ∨
    (∃ newCap, a + b ≤ newCap ∧ (Builtin.append_ #[t, t2] oty #[.slice base a cap, y]).run P w =
      .ok (.slice (some ⟨w.heap.size, 0, none⟩) (a + b) newCap) (w.drew.alloc (.cells (cs.toArray ++ ds.toArray ++ Builtin.zeroCells z.cells (newCap - (a + b))) e))) := by
  obtain ⟨d, hd, hnd⟩ := h2.ty
  have hno : (match d with | .int _ => true | _ => false) = false := by cases d <;> first | rfl | exact absurd rfl (hnd _)
  by_cases hroom : a + b ≤ cap
  · refine .inl ⟨hroom, ?_⟩
    have hf := h2.cells w (.inl rfl)
    have hl := h2.lenOf w
    by_cases hg : ∃ bk o, base = some ⟨bk, o, none⟩
    · obtain ⟨bk, o, rfl⟩ := hg
      have hst := run_storeCells_cells (P := P) bk (o + a * i.size) ds 0 w (fun j hj => by simpa using (htail hroom bk o rfl j hj).1) (fun j hj => by simpa using (htail hroom bk o rfl j hj).2) h2.one
      simp only [Nat.add_zero] at hst
      simp [Builtin.append_, run_underlying ht, run_underlying hd, hno, sizeOf, typeInfo, hi, hl, hroom, hf, addr_add, hst, inPlace, Result.andThen]
    · have hb : b = 0 := (hbad hroom).resolve_left hg
      subst hb
      have hds : ds = [] := by have := h2.len; simpa using this
      subst hds
      rcases h1.2.2 with ⟨ha0, hb0⟩ | ⟨bk, o, e, _⟩
      · subst ha0
        cases base with
        | none =>
          have := hb0 rfl
          subst this
          simp [Builtin.append_, run_underlying ht, run_underlying hd, hno, sizeOf, typeInfo, hi, hl, hf, inPlace, Result.andThen]
        | some ad =>
          simp [Builtin.append_, run_underlying ht, run_underlying hd, hno, sizeOf, typeInfo, hi, hl, hroom, hf, inPlace, Result.andThen, storeCells, World.setCells]
      · exact absurd ⟨bk, o, e⟩ hg
  · refine .inr ⟨grownCap w (a + b) cap e, grownCap_ge w (a + b) cap e, ?_⟩
    have h63' : ¬ (9223372036854775807 < ((a : Int) + (b : Int))) := by omega
    have hle := nextslicecap_le (need := a + b) (old := cap) (by omega)
    have h48' : ¬ (281474976710656 < Builtin.nextslicecap (a + b) cap * i.bytes) := by
      have := Nat.mul_le_mul_right i.bytes hle
      rw [Nat.mul_assoc] at this
      omega
    have sl : ∀ {cs base n cap}, SliceC w ok i.size cs base n cap → SliceC w.drew ok i.size cs base n cap := fun h => h
    have hf := h2.cells w.drew (.inr rfl)
    have hl := h2.lenOf w
    have hfo := firstCells_run (P := P) (sl h1)
    simp [Builtin.append_, run_underlying ht, run_underlying hd, hno, sizeOf, typeInfo, zeroValue, hi, hz, hl, hroom, h63', h48', Question.forced, hf, hfo, newRow, grownCap, Result.andThen]
    have key : ∀ z : Array Value, cs.toArray ++ (ds.toArray ++ z) = (cs ++ ds).toArray ++ z := fun z => by apply Array.ext'; simp
    rw [key]
    rfl

theorem run_append {t t2 e oty : TypeId} {i : TypeInfo} {z : Value} {cs ds : List Value} {base : Option Addr} {y : Value} {a b cap : Nat} (ht : P.underlying t = some (.slice e))
    (hi : P.info? e = some i) (hz : i.zero = some z) (hby : i.bytes ≤ 4096) (hsum : a + b ≤ 4294967296)
    (h1 : SliceC w ok i.size cs base a cap) (h2 : SrcC P w t2 i.size y b ds)
    (hbad : a + b ≤ cap → (∃ bk o, base = some ⟨bk, o, none⟩) ∨ b = 0)
    (htail : a + b ≤ cap → ∀ bk o, base = some ⟨bk, o, none⟩ → ∀ j, j < ds.length → (w.cell? ⟨bk, o + a * i.size + j, none⟩).isSome = true ∧ w.frozen? ⟨bk, o + a * i.size + j, none⟩ = false) :
    (a + b ≤ cap ∧ (Builtin.append_ #[t, t2] oty #[.slice base a cap, y]).run P w = .ok (.slice base (a + b) cap) (inPlace w base (a * i.size) ds)) ∨
    (∃ newCap, a + b ≤ newCap ∧ (Builtin.append_ #[t, t2] oty #[.slice base a cap, y]).run P w =
      .ok (.slice (some ⟨w.heap.size, 0, none⟩) (a + b) newCap) (w.drew.alloc (.cells (cs.toArray ++ ds.toArray ++ Builtin.zeroCells z.cells (newCap - (a + b))) e))) := run_appendB ht hi hz (by omega) (by have := Nat.mul_le_mul hsum hby; omega) h1 h2 hbad htail

end Go.HM
