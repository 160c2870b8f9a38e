/- HM, part D: parts of a value by their place; loads, stores. -/
import Derived.Test.YtaghnihkkofmnaaGreatHmC
namespace Go.HM

mutual
def T.at' : T → Nat → Nat → Bool → Option T
  | .agg ts, off, n, ag => if off == 0 && ag && (T.szs ts == n) then some (.agg ts) else T.ats ts off n ag
  | .ba k bs, off, n, ag => if off == 0 && ag && (k == n) then some (.ba k bs) else if Nat.blt off k && (n == 1) && !ag then some (.int .u8 (bs.getD off 0)) else none
  | t, off, n, ag => if off == 0 && (n == 1) && !ag then some t else none
def T.ats : List T → Nat → Nat → Bool → Option T
  | [], _, _, _ => none
  | t :: ts, off, n, ag => if Nat.blt off t.sz then T.at' t off n ag else T.ats ts (off - t.sz) n ag
end

mutual
def V.at' : V → Nat → Nat → Bool → Option V
  | .p t, off, n, ag => (T.at' t off n ag).map .p
  | .agg vs, off, n, ag => if off == 0 && ag && (V.szs vs == n) then some (.agg vs) else V.ats vs off n ag
  | .tup _, _, _, _ => none
  | .wh _ _ _, _, _, _ => none
  | v, off, n, ag => if off == 0 && (n == 1) && !ag then some v else none
def V.ats : List V → Nat → Nat → Bool → Option V
  | [], _, _, _ => none
  | v :: vs, off, n, ag => if Nat.blt off v.sz then V.at' v off n ag else V.ats vs (off - v.sz) n ag
end

theorem drop_take_append_left {α : Type} {l m : List α} {o n : Nat} (h : o + n ≤ l.length) : ((l ++ m).drop o).take n = (l.drop o).take n := by
  rw [List.drop_append_of_le_length (by omega), List.take_append_of_le_length (by simp; omega)]

theorem drop_append_right {α : Type} {l m : List α} {o : Nat} (h : l.length ≤ o) : (l ++ m).drop o = m.drop (o - l.length) := by
  rw [List.drop_append]; simp [List.drop_eq_nil_of_le h]

theorem T.isAgg_false_sz {t : T} (h : t.isAgg = false) : t.sz = 1 := by cases t <;> first | rfl | simp [T.isAgg] at h
theorem V.isAgg_false_sz {v : V} (h : v.isAgg = false) : v.sz = 1 := by
  cases v with
  | p t => exact T.isAgg_false_sz h
  | agg vs => simp [V.isAgg] at h
  | _ => rfl

mutual
theorem T.at_spec {w : World} {ok : Nat → Nat → Prop} {n : Nat} {ag : Bool} {u : T} : ∀ {t : T} {cs : List Value} {off : Nat}, Tc w ok t cs → T.at' t off n ag = some u →
    Tc w ok u ((cs.drop off).take n) ∧ u.sz = n ∧ u.isAgg = ag ∧ off + n ≤ cs.length
  | .agg ts, cs, off, h, hu => by
    unfold T.at' at hu
    split at hu
    · rename_i hc
      simp only [Bool.and_eq_true, beq_iff_eq] at hc
      obtain ⟨⟨h0, h1⟩, h2⟩ := hc
      injection hu with hu; subst hu; subst h0
      have hl : cs.length = n := by rw [h.len]; simpa [T.sz] using h2
      refine ⟨by rw [List.drop_zero, List.take_of_length_le (by omega)]; exact h, by simpa [T.sz] using h2, h1.symm, by omega⟩
    · cases h with | agg h => exact T.ats_spec h hu
  | .ba k bs, cs, off, h, hu => by
    unfold T.at' at hu
    split at hu
    · rename_i hc
      simp only [Bool.and_eq_true, beq_iff_eq] at hc
      obtain ⟨⟨h0, h1⟩, h2⟩ := hc
      injection hu with hu; subst hu; subst h0
      have hl : cs.length = n := by rw [h.len]; simpa [T.sz] using h2
      refine ⟨by rw [List.drop_zero, List.take_of_length_le (by omega)]; exact h, by simpa [T.sz] using h2, h1.symm, by omega⟩
    · split at hu
      · rename_i hc
        simp only [Bool.and_eq_true, beq_iff_eq, Bool.not_eq_true'] at hc
        obtain ⟨⟨h0, h1⟩, h2⟩ := hc
        have h0' : off < k := by simpa [Nat.blt_eq] using h0
        injection hu with hu; subst hu; subst h1; subst h2
        have hl : cs.length = k := h.len
        cases h with
        | ba hb =>
          refine ⟨?_, rfl, rfl, by omega⟩
          have e : (List.drop off (List.map byteV bs)).take 1 = [byteV (bs.getD off 0)] := by
            have hlt : off < bs.length := by omega
            rw [List.drop_eq_getElem_cons (by simpa using hlt)]
            simp [List.getD, hlt]
          rw [e]
          exact .int .u8 _
      · cases hu
  | .int k m, cs, off, h, hu => T.at_one h rfl (by simpa [T.at'] using hu)
  | .bool b, cs, off, h, hu => T.at_one h rfl (by simpa [T.at'] using hu)
  | .str b, cs, off, h, hu => T.at_one h rfl (by simpa [T.at'] using hu)
  | .flt _ b, cs, off, h, hu => T.at_one h rfl (by simpa [T.at'] using hu)
  | .bl _ b, cs, off, h, hu => T.at_one h rfl (by simpa [T.at'] using hu)
  | .lst _ _ b, cs, off, h, hu => T.at_one h rfl (by simpa [T.at'] using hu)
  | .rp _ b, cs, off, h, hu => T.at_one h rfl (by simpa [T.at'] using hu)
  | .nilP, cs, off, h, hu => T.at_one h rfl (by simpa [T.at'] using hu)
  | .nilM, cs, off, h, hu => T.at_one h rfl (by simpa [T.at'] using hu)
  | .nilF, cs, off, h, hu => T.at_one h rfl (by simpa [T.at'] using hu)
  | .nilI, cs, off, h, hu => T.at_one h rfl (by simpa [T.at'] using hu)
  | .clo _ b, cs, off, h, hu => T.at_one h rfl (by simpa [T.at'] using hu)
  | .sl _ b, cs, off, h, hu => T.at_one h rfl (by simpa [T.at'] using hu)
theorem T.at_one {w : World} {ok : Nat → Nat → Prop} {n : Nat} {ag : Bool} {u : T} {t : T} {cs : List Value} {off : Nat} (h : Tc w ok t cs) (ht : t.isAgg = false) (hu : ((off = 0 ∧ n = 1) ∧ ag = false) ∧ t = u) :
    Tc w ok u ((cs.drop off).take n) ∧ u.sz = n ∧ u.isAgg = ag ∧ off + n ≤ cs.length := by
  obtain ⟨⟨⟨h0, h1⟩, h2⟩, h3⟩ := hu
  subst h0 h1 h2 h3
  have hs := T.isAgg_false_sz ht
  have hl := h.len
  refine ⟨by rw [List.drop_zero, List.take_of_length_le (by omega)]; exact h, hs, ht, by omega⟩
theorem T.ats_spec {w : World} {ok : Nat → Nat → Prop} {n : Nat} {ag : Bool} {u : T} : ∀ {ts : List T} {cs : List Value} {off : Nat}, Tcs w ok ts cs → T.ats ts off n ag = some u →
    Tc w ok u ((cs.drop off).take n) ∧ u.sz = n ∧ u.isAgg = ag ∧ off + n ≤ cs.length
  | [], cs, off, h, hu => by simp [T.ats] at hu
  | t :: ts, cs, off, h, hu => by
    cases h with
    | cons h1 h2 =>
      rename_i c1 c2
      unfold T.ats at hu
      have hl := h1.len
      split at hu
      · obtain ⟨a, b, c, d⟩ := T.at_spec h1 hu
        exact ⟨by rw [drop_take_append_left d]; exact a, b, c, by simp; omega⟩
      · rename_i hlt
        have hlt' : c1.length ≤ off := by simp [Nat.blt_eq] at hlt; omega
        obtain ⟨a, b, c, d⟩ := T.ats_spec h2 hu
        rw [← hl] at a d
        exact ⟨by rw [drop_append_right hlt']; exact a, b, c, by simp; omega⟩
end

mutual
theorem V.at_spec {U : Nat → Nat → Prop} {κ : List Place} {s : List SObj} {w : World} {n : Nat} {ag : Bool} {u : V} : ∀ {v : V} {cs : List Value} {off : Nat}, Vc U κ s w v cs → V.at' v off n ag = some u →
    Vc U κ s w u ((cs.drop off).take n) ∧ u.sz = n ∧ u.isAgg = ag ∧ off + n ≤ cs.length
  | .p t, cs, off, h, hu => by
    simp only [V.at', Option.map_eq_some_iff] at hu
    obtain ⟨x, hx, rfl⟩ := hu
    cases h with
    | p h =>
      obtain ⟨a, b, c, d⟩ := T.at_spec h hx
      exact ⟨.p a, b, c, d⟩
  | .agg vs, cs, off, h, hu => by
    unfold V.at' at hu
    split at hu
    · rename_i hc
      simp only [Bool.and_eq_true, beq_iff_eq] at hc
      obtain ⟨⟨h0, h1⟩, h2⟩ := hc
      injection hu with hu; subst hu; subst h0
      have hl : cs.length = n := by rw [h.len]; simpa [V.sz] using h2
      refine ⟨by rw [List.drop_zero, List.take_of_length_le (by omega)]; exact h, by simpa [V.sz] using h2, h1.symm, by omega⟩
    · cases h with | agg h => exact V.ats_spec h hu
  | .rb _, cs, off, h, hu => V.at_one h rfl (by simpa [V.at'] using hu)
  | .ptr _ _, cs, off, h, hu => V.at_one h rfl (by simpa [V.at'] using hu)
  | .row _ _ _, cs, off, h, hu => V.at_one h rfl (by simpa [V.at'] using hu)
  | .map _, cs, off, h, hu => V.at_one h rfl (by simpa [V.at'] using hu)
  | .view _ _ _, cs, off, h, hu => V.at_one h rfl (by simpa [V.at'] using hu)
  | .cv _ _ _ _ _, cs, off, h, hu => V.at_one h rfl (by simpa [V.at'] using hu)
  | .ep _ _ _, cs, off, h, hu => V.at_one h rfl (by simpa [V.at'] using hu)
  | .yld _, cs, off, h, hu => V.at_one h rfl (by simpa [V.at'] using hu)
  | .clo _ _, cs, off, h, hu => V.at_one h rfl (by simpa [V.at'] using hu)
  | .tup _, cs, off, h, hu => by simp [V.at'] at hu
  | .wh _ _ _, cs, off, h, hu => by simp [V.at'] at hu
  | .bad, cs, off, h, hu => V.at_one h rfl (by simpa [V.at'] using hu)
theorem V.at_one {U : Nat → Nat → Prop} {κ : List Place} {s : List SObj} {w : World} {n : Nat} {ag : Bool} {u : V} {t : V} {cs : List Value} {off : Nat} (h : Vc U κ s w t cs) (ht : t.isAgg = false) (hu : ((off = 0 ∧ n = 1) ∧ ag = false) ∧ t = u) :
    Vc U κ s w u ((cs.drop off).take n) ∧ u.sz = n ∧ u.isAgg = ag ∧ off + n ≤ cs.length := by
  obtain ⟨⟨⟨h0, h1⟩, h2⟩, h3⟩ := hu
  subst h0 h1 h2 h3
  have hs := V.isAgg_false_sz ht
  have hl := h.len
  refine ⟨by rw [List.drop_zero, List.take_of_length_le (by omega)]; exact h, hs, ht, by omega⟩
theorem V.ats_spec {U : Nat → Nat → Prop} {κ : List Place} {s : List SObj} {w : World} {n : Nat} {ag : Bool} {u : V} : ∀ {vs : List V} {cs : List Value} {off : Nat}, Vcs U κ s w vs cs → V.ats vs off n ag = some u →
    Vc U κ s w u ((cs.drop off).take n) ∧ u.sz = n ∧ u.isAgg = ag ∧ off + n ≤ cs.length
  | [], cs, off, h, hu => by simp [V.ats] at hu
  | v :: vs, cs, off, h, hu => by
    cases h with
    | cons h1 h2 =>
      rename_i c1 c2
      unfold V.ats at hu
      have hl := h1.len
      split at hu
      · obtain ⟨a, b, c, d⟩ := V.at_spec h1 hu
        exact ⟨by rw [drop_take_append_left d]; exact a, b, c, by simp; omega⟩
      · rename_i hlt
        have hlt' : c1.length ≤ off := by simp [Nat.blt_eq] at hlt; omega
        obtain ⟨a, b, c, d⟩ := V.ats_spec h2 hu
        rw [← hl] at a d
        exact ⟨by rw [drop_append_right hlt']; exact a, b, c, by simp; omega⟩
end

/-- Parts in a row. -/
def T.segs : List T → Nat → Nat → Option (List T)
  | [], off, n => if (off == 0) && (n == 0) then some [] else none
  | t :: ts, off, n => if Nat.ble t.sz off && Nat.blt 0 off then T.segs ts (off - t.sz) n else if off == 0 then (if n == 0 then some [] else if Nat.ble t.sz n then (T.segs ts 0 (n - t.sz)).map (t :: ·) else none) else none

theorem T.segs_spec {w : World} {ok : Nat → Nat → Prop} : ∀ {ts us : List T} {cs : List Value} {off n : Nat}, Tcs w ok ts cs → T.segs ts off n = some us → Tcs w ok us ((cs.drop off).take n) ∧ off + n ≤ cs.length
  | [], us, _, off, n, .nil, h => by
    simp only [T.segs] at h
    split at h
    · rename_i hc
      simp only [Bool.and_eq_true, beq_iff_eq] at hc
      obtain ⟨rfl, rfl⟩ := hc
      injection h with h; subst h
      exact ⟨by simpa using Tcs.nil, by simp⟩
    · cases h
  | t :: ts, us, _, off, n, .cons h1 h2, h => by
    rename_i c1 c2
    have hl := h1.len
    simp only [T.segs] at h
    split at h
    · rename_i hc
      simp only [Bool.and_eq_true, Nat.ble_eq, Nat.blt_eq] at hc
      obtain ⟨a, b⟩ := T.segs_spec h2 h
      rw [← hl] at a b
      exact ⟨by rw [drop_append_right (by omega)]; exact a, by simp; omega⟩
    · split at h
      · rename_i h0
        have h0' : off = 0 := by simpa using h0
        subst h0'
        split at h
        · rename_i hn
          have hn' : n = 0 := by simpa using hn
          subst hn'
          injection h with h; subst h
          exact ⟨by simpa using Tcs.nil, by simp⟩
        · split at h
          · rename_i hle
            have hle' : t.sz ≤ n := by simpa using hle
            simp only [Option.map_eq_some_iff] at h
            obtain ⟨us', h, rfl⟩ := h
            obtain ⟨a, b⟩ := T.segs_spec h2 h
            simp only [List.drop_zero, Nat.zero_add] at a b ⊢
            refine ⟨?_, by simp; omega⟩
            rw [List.take_append, List.take_of_length_le (l := c1) (by omega), hl]
            exact .cons h1 a
          · cases h
      · cases h

def T.seg : T → Nat → Nat → Option T
  | .agg ts, off, n => (T.segs ts off n).map .agg
  | _, _, _ => none

theorem T.seg_spec {w : World} {ok : Nat → Nat → Prop} {t u : T} {cs : List Value} {off n : Nat} (h : Tc w ok t cs) (hu : T.seg t off n = some u) : Tc w ok u ((cs.drop off).take n) ∧ u.isAgg = true ∧ off + n ≤ cs.length := by
  cases t <;> simp [T.seg] at hu
  obtain ⟨us, hu, rfl⟩ := hu
  cases h with
  | agg h =>
    obtain ⟨a, b⟩ := T.segs_spec h hu
    exact ⟨.agg a, rfl, b⟩

def allP : List V → Option (List T)
  | [] => some []
  | .p t :: vs => match allP vs with | some ts => some (t :: ts) | none => none
  | _ :: _ => none

def mkAgg (vs : List V) : V := match allP vs with | some ts => .p (.agg ts) | none => .agg vs

theorem allP_spec {U : Nat → Nat → Prop} {κ : List Place} {s : List SObj} {w : World} : ∀ {vs : List V} {ts : List T} {cs : List Value}, allP vs = some ts → Vcs U κ s w vs cs → Tcs w (okOf U κ) ts cs
  | [], ts, cs, h, hv => by simp [allP] at h; subst h; cases hv; exact .nil
  | .p t :: vs, ts, cs, h, hv => by
    cases hv with
    | cons h1 h2 =>
      simp only [allP] at h
      split at h
      · rename_i ts' e
        injection h with h; subst h
        cases h1 with | p h1 => exact .cons h1 (allP_spec e h2)
      · cases h
  | .rb _ :: _, _, _, h, _ => by simp [allP] at h
  | .ptr _ _ :: _, _, _, h, _ => by simp [allP] at h
  | .row _ _ _ :: _, _, _, h, _ => by simp [allP] at h
  | .map _ :: _, _, _, h, _ => by simp [allP] at h
  | .view _ _ _ :: _, _, _, h, _ => by simp [allP] at h
  | .cv _ _ _ _ _ :: _, _, _, h, _ => by simp [allP] at h
  | .ep _ _ _ :: _, _, _, h, _ => by simp [allP] at h
  | .agg _ :: _, _, _, h, _ => by simp [allP] at h
  | .clo _ _ :: _, _, _, h, _ => by simp [allP] at h
  | .tup _ :: _, _, _, h, _ => by simp [allP] at h
  | .wh _ _ _ :: _, _, _, h, _ => by simp [allP] at h
  | .bad :: _, _, _, h, _ => by simp [allP] at h

theorem mkAgg_spec {U : Nat → Nat → Prop} {κ : List Place} {s : List SObj} {w : World} {vs : List V} {cs : List Value} (h : Vcs U κ s w vs cs) : Vc U κ s w (mkAgg vs) cs := by
  unfold mkAgg
  split
  · rename_i ts e; exact .p (.agg (allP_spec e h))
  · exact .agg h

theorem mkAgg_isAgg (vs : List V) : (mkAgg vs).isAgg = true := by unfold mkAgg; split <;> rfl

theorem vcs_ps {U : Nat → Nat → Prop} {κ : List Place} {s : List SObj} {w : World} : ∀ {ts : List T} {cs : List Value}, Tcs w (okOf U κ) ts cs → Vcs U κ s w (ts.map .p) cs
  | [], _, h => by cases h; exact .nil
  | t :: ts, _, h => by cases h with | cons h1 h2 => exact .cons (.p h1) (vcs_ps h2)

def setsWith (f : V → Nat → V → Option V) : List V → Nat → V → Option (List V)
  | [], _, _ => none
  | v :: vs, off, u => if Nat.blt off v.sz then (f v off u).map (· :: vs) else (setsWith f vs (off - v.sz) u).map (v :: ·)

/-- A part is written: the same cells, but for those. ('fuel': the depth.) -/
def V.set' : Nat → V → Nat → V → Option V
  | 0, _, _, _ => none
  | k + 1, v, off, u =>
    if off == 0 && (v.sz == u.sz) && (v.isAgg == u.isAgg) then some u else
    match v with
    | .agg vs => (setsWith (V.set' k) vs off u).map mkAgg
    | .p (.agg ts) => (setsWith (V.set' k) (ts.map .p) off u).map mkAgg
    | .p (.ba n bs) => match u with
      | .p (.int .u8 b) => if Nat.blt off n then some (.p (.ba n (bs.set off b))) else none
      | _ => none
    | _ => none

/-- The cells behind a write. -/
def putCells (cs : List Value) (off : Nat) (us : List Value) : List Value := cs.take off ++ us ++ cs.drop (off + us.length)

theorem putCells_len {cs us : List Value} {off : Nat} (h : off + us.length ≤ cs.length) : (putCells cs off us).length = cs.length := by
  simp [putCells]; omega

theorem putCells_left {c1 c2 us : List Value} {off : Nat} (h : off + us.length ≤ c1.length) : putCells (c1 ++ c2) off us = putCells c1 off us ++ c2 := by
  unfold putCells
  rw [List.take_append_of_le_length (by omega), List.drop_append_of_le_length (by omega)]
  simp

theorem putCells_right {c1 c2 us : List Value} {off : Nat} (h : c1.length ≤ off) : putCells (c1 ++ c2) off us = c1 ++ putCells c2 (off - c1.length) us := by
  unfold putCells
  rw [drop_append_right (by omega)]
  rw [List.take_append, List.take_of_length_le (by omega)]
  simp [show off + us.length - c1.length = off - c1.length + us.length by omega]

theorem putCells_all {cs us : List Value} (h : us.length = cs.length) : putCells cs 0 us = us := by
  simp [putCells, h]

theorem szs_map_p : ∀ ts : List T, V.szs (ts.map .p) = T.szs ts
  | [] => rfl
  | t :: ts => by simp [V.szs, T.szs, V.sz, szs_map_p ts]

theorem mkAgg_sz (vs : List V) (h : ∀ ts, allP vs = some ts → T.szs ts = V.szs vs) : (mkAgg vs).sz = V.szs vs := by
  unfold mkAgg
  split
  · rename_i ts e; simp [V.sz, T.sz, h ts e]
  · simp [V.sz]

theorem allP_szs : ∀ {vs : List V} {ts : List T}, allP vs = some ts → T.szs ts = V.szs vs
  | [], ts, h => by simp [allP] at h; subst h; rfl
  | .p t :: vs, ts, h => by
    simp only [allP] at h
    split at h
    · rename_i ts' e; injection h with h; subst h; simp [T.szs, V.szs, V.sz, allP_szs e]
    · cases h
  | .rb _ :: _, _, h => by simp [allP] at h
  | .ptr _ _ :: _, _, h => by simp [allP] at h
  | .row _ _ _ :: _, _, h => by simp [allP] at h
  | .map _ :: _, _, h => by simp [allP] at h
  | .view _ _ _ :: _, _, h => by simp [allP] at h
  | .cv _ _ _ _ _ :: _, _, h => by simp [allP] at h
  | .ep _ _ _ :: _, _, h => by simp [allP] at h
  | .agg _ :: _, _, h => by simp [allP] at h
  | .clo _ _ :: _, _, h => by simp [allP] at h
  | .tup _ :: _, _, h => by simp [allP] at h
  | .wh _ _ _ :: _, _, h => by simp [allP] at h
  | .bad :: _, _, h => by simp [allP] at h

theorem setsWith_spec {U : Nat → Nat → Prop} {κ : List Place} {s : List SObj} {w : World} {f : V → Nat → V → Option V} {u : V} {us : List Value} (hu : Vc U κ s w u us)
    (hf : ∀ v cs off v', Vc U κ s w v cs → f v off u = some v' → Vc U κ s w v' (putCells cs off us) ∧ v'.sz = v.sz ∧ off + us.length ≤ cs.length) :
    ∀ {vs : List V} {cs : List Value} {off : Nat} {vs' : List V}, Vcs U κ s w vs cs → setsWith f vs off u = some vs' → Vcs U κ s w vs' (putCells cs off us) ∧ V.szs vs' = V.szs vs ∧ off + us.length ≤ cs.length
  | [], _, _, _, _, h => by simp [setsWith] at h
  | v :: vs, _, off, vs', hv, h => by
    cases hv with
    | cons h1 h2 =>
      rename_i c1 c2
      have hl := h1.len
      unfold setsWith at h
      split at h
      · simp only [Option.map_eq_some_iff] at h
        obtain ⟨v', a, rfl⟩ := h
        obtain ⟨b, c, d⟩ := hf _ _ _ _ h1 a
        exact ⟨by rw [putCells_left d]; exact .cons b h2, by simp [V.szs, c], by simp; omega⟩
      · rename_i hlt
        have hlt' : c1.length ≤ off := by simp [Nat.blt_eq] at hlt; omega
        simp only [Option.map_eq_some_iff] at h
        obtain ⟨v', a, rfl⟩ := h
        obtain ⟨b, c, d⟩ := setsWith_spec hu hf h2 a
        rw [← hl] at b d
        exact ⟨by rw [putCells_right hlt']; exact .cons h1 b, by simp [V.szs, c], by simp; omega⟩

theorem map_set_byte (bs : List Int) (off : Nat) (b : Int) (h : off < bs.length) : (bs.set off b).map byteV = putCells (bs.map byteV) off [byteV b] := by
  unfold putCells
  rw [List.map_set]
  rw [List.set_eq_take_append_cons_drop]
  simp [h]

theorem V.set_spec {U : Nat → Nat → Prop} {κ : List Place} {s : List SObj} {w : World} {u : V} {us : List Value} (hu : Vc U κ s w u us) : ∀ (k : Nat) (v : V) (cs : List Value) (off : Nat) (v' : V), Vc U κ s w v cs → V.set' k v off u = some v' →
    Vc U κ s w v' (putCells cs off us) ∧ v'.sz = v.sz ∧ off + us.length ≤ cs.length
  | 0, _, _, _, _, _, h => by simp [V.set'] at h
  | k + 1, v, cs, off, v', hv, h => by
    have hul := hu.len
    have hvl := hv.len
    unfold V.set' at h
    split at h
    · rename_i hc
      simp only [Bool.and_eq_true, beq_iff_eq] at hc
      obtain ⟨⟨h0, h1⟩, h2⟩ := hc
      injection h with h; subst h; subst h0
      exact ⟨by rw [putCells_all (by omega)]; exact hu, h1.symm, by omega⟩
    · split at h
      · rename_i vs _
        simp only [Option.map_eq_some_iff] at h
        obtain ⟨vs', a, rfl⟩ := h
        cases hv with
        | agg hv =>
          obtain ⟨b, c, d⟩ := setsWith_spec hu (V.set_spec hu k) hv a
          exact ⟨mkAgg_spec b, by rw [mkAgg_sz _ (fun ts e => allP_szs e), c, V.sz], d⟩
      · rename_i ts _
        simp only [Option.map_eq_some_iff] at h
        obtain ⟨vs', a, rfl⟩ := h
        cases hv with
        | p hv =>
          cases hv with
          | agg hv =>
            obtain ⟨b, c, d⟩ := setsWith_spec hu (V.set_spec hu k) (vcs_ps hv) a
            exact ⟨mkAgg_spec b, by rw [mkAgg_sz _ (fun ts e => allP_szs e), c, szs_map_p, V.sz, T.sz], d⟩
      · rename_i n bs _
        split at h
        · rename_i b
          split at h
          · rename_i hlt
            have hlt' : off < n := by simpa [Nat.blt_eq] using hlt
            injection h with h; subst h
            cases hv with
            | p hv =>
              cases hv with
              | ba hb =>
                cases hu with
                | p hu =>
                  cases hu
                  refine ⟨?_, rfl, by simp; omega⟩
                  have h2 := fun b => map_set_byte bs off b (by omega)
                  have h3 := fun b => (h2 b) ▸ (Vc.p (U := U) (κ := κ) (s := s) (w := w) (Tc.ba (n := n) (bs := bs.set off b) (by simpa using hb)))
                  exact h3 _
          · cases h
        · cases h
      · cases h

end Go.HM
