/- HM, the end: what is read of an argument is a tree; the row's step. -/
import Derived.Test.YtaghnihkkofmnaaGreatHmZ
import Derived.WalkKit
import Derived.ProofKit
import Derived.OpenShut
namespace Go.HM
open Go.ChangeShapes Go.WideShapes Go.ChangeAt Go.RowKit

/-- Shapes. -/
inductive Sh where
  | int (k : IntKind)
  | bool
  | str
  | bytes (n : Nat)
  | struct (l : List Sh)
  | slice (n : Nat) (e : Sh)
  | sliceB

mutual
def HasSh : Sh → T → Prop
  | .int k, x => ∃ n, x = .int k n ∧ (Lit.int k n).wf = true
  | .bool, x => ∃ b, x = .bool b
  | .str, x => ∃ s : ByteArray, x = .str s ∧ s.size ≤ maxLen
  | .bytes n, x => ∃ bs, x = .ba n bs ∧ bs.length = n ∧ ∀ b ∈ bs, 0 ≤ b ∧ b ≤ 255
  | .struct l, x => ∃ xs, x = .agg xs ∧ HasShs l xs
  | .slice n e, x => ∃ f xs, x = .lst f n xs ∧ xs.length ≤ maxLen ∧ ∀ y ∈ xs, HasSh e y
  | .sliceB, x => ∃ f bs, x = .bl f bs ∧ bs.length ≤ maxLen ∧ ∀ b ∈ bs, 0 ≤ b ∧ b ≤ 255
def HasShs : List Sh → List T → Prop
  | [], xs => xs = []
  | s :: l, xs => ∃ x r, xs = x :: r ∧ HasSh s x ∧ HasShs l r
end

def shFs (f : TypeId → Option Sh) (sz : TypeId → Nat) : Nat → List Field → Option (List Sh × Nat)
  | off, [] => some ([], off)
  | off, x :: r => if x.offset == off then match f x.type, shFs f sz (off + sz x.type) r with | some s, some (ss, n) => some (s :: ss, n) | _, _ => none else none

def shOf (P : Program) : Nat → TypeId → Option Sh
  | 0, _ => none
  | d + 1, t => match P.underlying t with
    | some .bool => some .bool
    | some (.int k) => some (.int k)
    | some .string => some .str
    | some (.struct fs) => match shFs (shOf P d) P.cellsOf 0 fs.toList with
      | some (ss, n) => if n == P.cellsOf t then some (.struct ss) else none
      | none => none
    | some (.array n e) => if isByte P e && (P.cellsOf e == 1) && (P.cellsOf t == n) then some (.bytes n) else none
    | some (.slice e) => if P.cellsOf e == 0 then none else if isByte P e then (if P.cellsOf e == 1 then some .sliceB else none) else match shOf P d e with
      | some s => some (.slice (P.cellsOf e) s)
      | none => none
    | _ => none

def spotless (v : Value) : Prop := ∀ a n c, v = .slice (some a) n c → a.spot = none
def okAll (_ _ : Nat) : Prop := True

variable {H : Type} {enc : TypeId × Value → H} {P : Program} {W : World} {base : Nat} {spare : Nat → Bool} {held : Bool}

theorem mapM_all {α β : Type} {f : α → Option β} : ∀ {l : List α} {ys : List β}, l.mapM f = some ys → ∀ x ∈ l, ∃ y, f x = some y
  | [], _, _ => by simp
  | a :: l, ys, h => by
    rw [List.mapM_cons] at h
    simp only [Option.bind_eq_bind, Option.bind_eq_some_iff, Option.pure_def] at h
    obtain ⟨b, hb, bs, hbs, _⟩ := h
    intro x hx
    rcases List.mem_cons.1 hx with rfl | hx
    · exact ⟨b, hb⟩
    · exact mapM_all hbs x hx

theorem mapM_get {α β : Type} {f : α → Option β} : ∀ {l : List α} {ys : List β}, l.mapM f = some ys → ys.length = l.length ∧ ∀ (j : Nat) (x : α), l[j]? = some x → f x = ys[j]?
  | [], ys, h => by
    simp at h; subst h; exact ⟨rfl, by simp⟩
  | a :: l, ys, h => by
    rw [List.mapM_cons] at h
    simp only [Option.bind_eq_bind, Option.bind_eq_some_iff, Option.pure_def, Option.some.injEq] at h
    obtain ⟨b, hb, bs, hbs, rfl⟩ := h
    obtain ⟨p, q⟩ := mapM_get hbs
    refine ⟨by simp [p], fun j x hj => ?_⟩
    cases j with
    | zero => simp at hj; subst hj; simpa using hb
    | succ j => simpa using q j x (by simpa using hj)

theorem isByte_under {t : TypeId} (h : isByte P t = true) : P.underlying t = some (.int .u8) := by
  unfold isByte at h
  split at h
  · assumption
  · cases h

theorem trod_byte {fuel : Nat} {t : TypeId} {cs : List Value} {x : DataW H × List MemPlace} (hb : isByte P t = true) (h : DataW.trod enc P W base spare held fuel t cs = some x) : ∃ n : Int, cs = [byteV n] ∧ 0 ≤ n ∧ n ≤ 255 := by
  obtain ⟨n, h1, _, h2⟩ := DataW.trod_int (isByte_under hb) h
  refine ⟨n, h1, ?_⟩
  simpa [Lit.wf, IntKind.min, IntKind.max, IntKind.signed, IntKind.bits] using h2

theorem trod_array {n : Nat} {e t : TypeId} {fuel : Nat} {cs : List Value} {x : DataW H × List MemPlace} (ht : P.underlying t = some (.array n e)) (h : DataW.trod enc P W base spare held fuel t cs = some x) :
    ∃ m, cs.length = P.cellsOf t ∧ ∀ i, i < n → ∃ y, DataW.trod enc P W base spare held m e ((cs.drop (i * P.cellsOf e)).take (P.cellsOf e)) = some y := by
  cases fuel with
  | zero => simp [DataW.trod] at h
  | succ m =>
    unfold DataW.trod at h
    rw [ht] at h
    split at h <;> simp_all
    obtain ⟨hl, xs, hp⟩ := h
    exact ⟨m, fun i hi => by
      obtain ⟨y, hy⟩ := mapM_all hp.1 i (by simp [hi])
      exact ⟨y.1, y.2, hy⟩⟩

theorem bytes_of : ∀ {cs : List Value}, (∀ v ∈ cs, ∃ n : Int, v = byteV n ∧ 0 ≤ n ∧ n ≤ 255) → ∃ bs : List Int, cs = bs.map byteV ∧ ∀ b ∈ bs, 0 ≤ b ∧ b ≤ 255
  | [], _ => ⟨[], rfl, by simp⟩
  | v :: cs, h => by
    obtain ⟨n, rfl, hn⟩ := h v (by simp)
    obtain ⟨bs, rfl, hb⟩ := bytes_of (cs := cs) (fun u hu => h u (by simp [hu]))
    exact ⟨n :: bs, rfl, by
      intro b hb'
      rcases List.mem_cons.1 hb' with rfl | hb'
      · exact hn
      · exact hb b hb'⟩

theorem cells_get {w : World} {a : Addr} {n : Nat} {cs : List Value} (h : w.cells? base a n = some cs) : base ≤ a.block ∧ cs.length = n ∧ ∀ j, j < n → w.cell? (a.add j) = cs[j]? := by
  unfold World.cells? at h
  split at h
  · rename_i hb
    obtain ⟨p, q⟩ := mapM_get h
    refine ⟨hb, by simpa using p, fun j hj => q j j (by simp [hj])⟩
  · cases h

theorem add_none {w : World} {a : Addr} {v : Value} (h : w.cell? a = some v) : a.spot = none := by
  unfold World.cell? at h
  split at h
  · split at h
    · cases h
    · rename_i hs; simpa using hs
  · cases h

/-- Elements, one after another. -/
theorem elems_of {w : World} {k : Nat} (hk : 0 < k) {Q : T → Prop} {a : Addr} : ∀ (len : Nat) (s : Nat), (∀ i, i < len → ∃ ecs, w.cells? base (a.add ((s + i) * k)) k = some ecs ∧ ∃ y, Q y ∧ Tc w okAll y ecs) →
    ∃ (ts : List T) (cs : List Value), ts.length = len ∧ cs.length = len * k ∧ (∀ t ∈ ts, Q t ∧ t.sz = k) ∧ Tcs w okAll ts cs ∧ ∀ (j : Nat) (v : Value), cs[j]? = some v → w.cell? (a.add (s * k + j)) = some v
  | 0, s, _ => ⟨[], [], rfl, by simp, by simp, .nil, by simp⟩
  | len + 1, s, h => by
    obtain ⟨ecs, h1, y, hy, hc⟩ := h 0 (by omega)
    obtain ⟨_, g2, g3⟩ := cells_get h1
    obtain ⟨ts, cs, e1, e2, e3, e4, e5⟩ := elems_of hk len (s + 1) (fun i hi => by
      obtain ⟨q, r⟩ := h (i + 1) (by omega)
      exact ⟨q, by rw [show s + 1 + i = s + (i + 1) by omega]; exact r⟩)
    refine ⟨y :: ts, ecs ++ cs, by simp [e1], by rw [List.length_append, g2, e2, Nat.add_mul]; omega, ?_, .cons hc e4, fun j v hj => ?_⟩
    · intro t ht
      rcases List.mem_cons.1 ht with rfl | ht
      · exact ⟨hy, by rw [← hc.len, g2]⟩
      · exact e3 t ht
    · by_cases hjk : j < k
      · rw [List.getElem?_append_left (by omega)] at hj
        have := g3 j hjk
        rw [hj] at this
        simp only [Nat.add_zero] at this
        rw [← this]
        congr 1
        unfold Addr.add
        by_cases q1 : s * k = 0
        · simp [q1]
        · by_cases q2 : j = 0
          · subst q2; simp [q1]
          · simp [q1, q2]; omega
      · rw [List.getElem?_append_right (by omega)] at hj
        have := e5 _ _ hj
        rw [← this]
        rw [show (s + 1) * k + (j - ecs.length) = s * k + j by rw [Nat.add_mul, g2]; omega]

theorem take1 {cs : List Value} {i : Nat} {v : Value} (h : (cs.drop i).take 1 = [v]) : cs[i]? = some v := by
  have := congrArg (·[0]?) h
  simpa using this

theorem spot_add {a : Addr} (h : a.spot = none) (j : Nat) : a.add j = ⟨a.block, a.off + j, none⟩ := by
  obtain ⟨b, o, sp⟩ := a
  simp only at h
  subst h
  unfold Addr.add
  by_cases q : j = 0
  · simp [q]
  · simp [q]

theorem shFs_tcs {f : TypeId → Option Sh} {sz : TypeId → Nat} {cs : List Value} : ∀ (fs : List Field) (off : Nat) (ss : List Sh) (n : Nat), shFs f sz off fs = some (ss, n) → n = cs.length →
    (∀ x ∈ fs, ∀ s, s ∈ ss → f x.type = some s → ∃ y, HasSh s y ∧ Tc W okAll y ((cs.drop x.offset).take (sz x.type))) → ∃ ys, HasShs ss ys ∧ Tcs W okAll ys (cs.drop off)
  | [], off, ss, n, h, hn, _ => by
    simp only [shFs, Option.some.injEq, Prod.mk.injEq] at h
    obtain ⟨rfl, rfl⟩ := h
    exact ⟨[], rfl, by rw [hn, List.drop_length]; exact .nil⟩
  | x :: fs, off, ss, n, h, hn, hf => by
    simp only [shFs] at h
    split at h
    · rename_i ho
      have ho' : x.offset = off := by simpa using ho
      split at h
      · rename_i s ss' n' h1 h2
        simp only [Option.some.injEq, Prod.mk.injEq] at h
        obtain ⟨rfl, rfl⟩ := h
        obtain ⟨y, hy, hc⟩ := hf x (by simp) s (by simp) h1
        obtain ⟨ys, hys, hcs⟩ := shFs_tcs fs (off + sz x.type) ss' n' h2 hn (fun x' hx' s' hs' => hf x' (by simp [hx']) s' (by simp [hs']))
        refine ⟨y :: ys, ⟨y, ys, rfl, hy, hys⟩, ?_⟩
        have e : cs.drop off = (cs.drop off).take (sz x.type) ++ cs.drop (off + sz x.type) := by
          rw [← List.drop_drop]; exact (List.take_append_drop _ _).symm
        rw [e]
        rw [ho'] at hc
        exact .cons hc hcs
      · cases h
    · cases h

/-- WHAT IS READ IS A TREE. -/
theorem trod_sh : ∀ (d : Nat) (t : TypeId) (s : Sh), shOf P d t = some s → ∀ (fuel : Nat) (cs : List Value) (x : DataW H × List MemPlace), DataW.trod enc P W base spare held fuel t cs = some x →
    ∃ y, HasSh s y ∧ Tc W okAll y cs
  | 0, t, s, hs => by simp [shOf] at hs
  | d + 1, t, s, hs => by
    intro fuel cs x h
    simp only [shOf] at hs
    split at hs
    · rename_i hu
      injection hs with hs; subst hs
      obtain ⟨b, rfl, _⟩ := DataW.trod_bool hu h
      exact ⟨.bool b, ⟨b, rfl⟩, .bool b⟩
    · rename_i k hu
      injection hs with hs; subst hs
      obtain ⟨n, rfl, _, hw⟩ := DataW.trod_int hu h
      exact ⟨.int k n, ⟨n, rfl, hw⟩, .int k n⟩
    · rename_i hu
      injection hs with hs; subst hs
      obtain ⟨b, rfl, _, hw⟩ := DataW.trod_string hu h
      exact ⟨.str b, ⟨b, rfl, hw⟩, .str b⟩
    · rename_i fs hu
      split at hs
      · rename_i ss n hss
        split at hs
        · rename_i hn
          injection hs with hs; subst hs
          obtain ⟨xs, m, rfl, _, hl, hxl, hf⟩ := DataW.trod_struct hu h
          obtain ⟨ys, hys, hcs⟩ := shFs_tcs (W := W) (cs := cs) fs.toList 0 ss n hss (by rw [hl]; simpa using hn) (fun f hf' s' hs' hsf => by
            obtain ⟨i, hi⟩ := List.getElem?_of_mem hf'
            have hi' : fs[i]? = some f := by simpa using hi
            have hilt : i < xs.length := by
              rw [hxl]
              rcases Nat.lt_or_ge i fs.size with q | q
              · exact q
              · simp [Array.getElem?_eq_none q] at hi'
            have hg := hf i f hi'
            rw [List.getElem?_eq_getElem hilt] at hg
            exact trod_sh d f.type s' hsf m _ _ hg)
          exact ⟨.agg ys, ⟨ys, rfl, hys⟩, .agg (by simpa using hcs)⟩
        · cases hs
      · cases hs
    · rename_i n e hu
      split at hs
      · rename_i hc
        injection hs with hs; subst hs
        simp only [Bool.and_eq_true, beq_iff_eq] at hc
        obtain ⟨m, hl, hel⟩ := trod_array hu h
        have hb := bytes_of (cs := cs) (fun v hv => by
          obtain ⟨i, hi⟩ := List.getElem?_of_mem hv
          have hilt : i < n := by have := getElem?_lt hi; omega
          obtain ⟨y, hy⟩ := hel i hilt
          obtain ⟨z, hz, hz2⟩ := trod_byte hc.1.1 hy
          rw [hc.1.2, Nat.mul_one] at hz
          have := take1 hz
          rw [hi] at this
          injection this with this
          exact ⟨z, this, hz2⟩)
        obtain ⟨bs, rfl, hbs⟩ := hb
        have hbl : bs.length = n := by simpa [hc.2] using hl
        exact ⟨.ba n bs, ⟨bs, rfl, hbl, hbs⟩, .ba hbl⟩
      · cases hs
    · rename_i e hu
      split at hs
      · cases hs
      rename_i he0
      have he0' : 0 < P.cellsOf e := by
        have : ¬ P.cellsOf e = 0 := by simpa using he0
        omega
      split at hs
      · rename_i hbyte
        split at hs
        · rename_i h1
          have h1' : P.cellsOf e = 1 := by simpa using h1
          injection hs with hs; subst hs
          rcases DataW.trod_slice hu h with ⟨rfl, _⟩ | ⟨a, len, cap, elems, rest, m, _, rfl, _, _, hlc, hcm, hel, hget, _⟩
          · exact ⟨.bl true [], ⟨true, [], rfl, by simp, by simp⟩, .blnil⟩
          · rcases Nat.eq_zero_or_pos len with hl0 | hlp
            · subst hl0
              exact ⟨.bl (decide (cap = 0)) [], ⟨_, [], rfl, by simp, by simp⟩, .bl0 (fun q => by simpa using q)⟩
            have hspot : a.spot = none := by
              have hg := hget 0 hlp
              rw [List.getElem?_eq_getElem (by omega)] at hg
              simp only [Option.bind_eq_some_iff] at hg
              obtain ⟨ecs, g1, _⟩ := hg
              obtain ⟨_, c2, c3⟩ := cells_get g1
              have := c3 0 (by omega)
              rw [List.getElem?_eq_getElem (by omega)] at this
              exact add_none (a := a) (by simpa [Addr.add] using this)
            obtain ⟨ts, cs', e1, e2, e3, e4, e5⟩ := elems_of (w := W) (base := base) (k := 1) (by omega) (Q := fun y => ∃ b : Int, y = .int .u8 b ∧ 0 ≤ b ∧ b ≤ 255) (a := a) len 0 (fun i hi => by
              have hg := hget i hi
              rw [List.getElem?_eq_getElem (by omega)] at hg
              simp only [Option.bind_eq_some_iff] at hg
              obtain ⟨ecs, g1, g2⟩ := hg
              rw [h1'] at g1
              obtain ⟨z, rfl, hz⟩ := trod_byte hbyte g2
              exact ⟨_, by rw [Nat.zero_add]; exact g1, .int .u8 z, ⟨z, rfl, hz⟩, .int .u8 z⟩)
            have hbs : ∃ bs : List Int, ts = bs.map (T.int .u8) ∧ cs' = bs.map byteV ∧ ∀ b ∈ bs, 0 ≤ b ∧ b ≤ 255 := by
              clear e5 e1 e2
              induction ts generalizing cs' with
              | nil => cases e4; exact ⟨[], rfl, rfl, by simp⟩
              | cons t ts ih =>
                cases e4 with
                | cons q1 q2 =>
                  obtain ⟨⟨b, rfl, hb⟩, _⟩ := e3 t (by simp)
                  cases q1
                  obtain ⟨bs, rfl, rfl, hbs⟩ := ih _ (fun t ht => e3 t (by simp [ht])) q2
                  exact ⟨b :: bs, rfl, rfl, by
                    intro c hc
                    rcases List.mem_cons.1 hc with rfl | hc
                    · exact hb
                    · exact hbs c hc⟩
            obtain ⟨bs, rfl, rfl, hbs⟩ := hbs
            have hlen : bs.length = len := by simpa using e1
            refine ⟨.bl (decide (cap = len)) bs, ⟨_, bs, rfl, by omega, hbs⟩, ?_⟩
            obtain ⟨ab, ao, asp⟩ := a
            simp only at hspot; subst hspot
            refine .bl hlen hlc (fun q => by simpa using q) (fun j v hj => ⟨?_, trivial⟩)
            have := e5 j (byteV v) (by simp [hj])
            rw [spot_add rfl] at this
            simpa using this
        · cases hs
      · split at hs
        · rename_i s' hs'
          · injection hs with hs; subst hs
            rcases DataW.trod_slice hu h with ⟨rfl, _⟩ | ⟨a, len, cap, elems, rest, m, _, rfl, _, _, hlc, hcm, hel, hget, _⟩
            · exact ⟨.lst true _ [], ⟨true, [], rfl, by simp, by simp⟩, .lstnil⟩
            · rcases Nat.eq_zero_or_pos len with hl0 | hlp
              · subst hl0
                exact ⟨.lst (decide (cap = 0)) _ [], ⟨_, [], rfl, by simp, by simp⟩, .lst0 (fun q => by simpa using q)⟩
              have hspot : a.spot = none := by
                have hg := hget 0 hlp
                rw [List.getElem?_eq_getElem (by omega)] at hg
                simp only [Option.bind_eq_some_iff] at hg
                obtain ⟨ecs, g1, _⟩ := hg
                obtain ⟨_, c2, c3⟩ := cells_get g1
                have := c3 0 he0'
                rw [List.getElem?_eq_getElem (by omega)] at this
                exact add_none (a := a) (by simpa [Addr.add] using this)
              obtain ⟨ts, cs', e1, e2, e3, e4, e5⟩ := elems_of (w := W) (base := base) he0' (Q := HasSh s') (a := a) len 0 (fun i hi => by
                have hg := hget i hi
                rw [List.getElem?_eq_getElem (by omega)] at hg
                simp only [Option.bind_eq_some_iff] at hg
                obtain ⟨ecs, g1, g2⟩ := hg
                obtain ⟨y, y1, y2⟩ := trod_sh d e s' hs' m ecs _ g2
                exact ⟨ecs, by rw [Nat.zero_add]; exact g1, y, y1, y2⟩)
              refine ⟨.lst (decide (cap = len)) (P.cellsOf e) ts, ⟨_, ts, rfl, by omega, fun y hy => (e3 y hy).1⟩, ?_⟩
              obtain ⟨ab, ao, asp⟩ := a
              simp only at hspot; subst hspot
              refine .lst e1 hlc (fun q => by simpa using q) (fun t ht => (e3 t ht).2) e4 (fun j v hj => ⟨?_, trivial⟩)
              have := e5 j v hj
              rw [spot_add rfl] at this
              simpa using this
        · cases hs
    · cases hs

end Go.HM
