/- HM, part M: equality, scalars, len, append. -/
import Derived.Test.YtaghnihkkofmnaaGreatHmL
namespace Go.HM

variable {P : Program} {U : Nat → Nat → Prop} {κ : List Place} {s : List SObj} {w : World} {ok : Nat → Nat → Prop}

theorem eqsB_cons (a b : T) : ∀ (l m : List T), T.eqsB (a :: l) (b :: m) = (T.eqB a b && T.eqsB l m)
  | [], [] => by simp [T.eqsB]
  | [], c :: m => by simp [T.eqsB]
  | c :: l, [] => by simp [T.eqsB]
  | c :: l, d :: m => by simp [T.eqsB]

theorem fits_ag : ∀ {d : Nat} {t : TypeId} {x : T}, fits P d t x = true → tyAg P t = some x.isAgg
  | 0, _, _, h => by simp [fits] at h
  | d + 1, t, x, h => by
    unfold fits at h
    unfold tyAg
    split at h <;> first
      | (rename_i e; rw [e]; rfl)
      | cases h

/-- A part of an aggregate that begins at a place. -/
theorem part_at {ty : TypeId} {t : T} {cells : Array Value} {cs r : List Value} {off : Nat} (h : Tc w ok t cs) (hn : tySz P ty = some t.sz) (ha : tyAg P ty = some t.isAgg) (hd : cells.toList.drop off = cs ++ r) :
    ∃ x, (part ty cells off).run P w = .ok x w ∧ TV w ok t x := by
  have hl := h.len
  obtain ⟨x, a, b⟩ := run_part (P := P) (w := w) (cells := cells) (off := off) hn ha (cs := cs) hl (fun e => T.isAgg_false_sz e) (by rw [hd, List.take_append_of_le_length (by omega), List.take_of_length_le (by omega)])
  exact ⟨x, a, TV_cells h rfl b⟩

theorem eqFields_ok {D : Nat} {xs ys : Array Value} {f : TypeId → T → Bool} (hf : ∀ t a, f t a = true → tyAg P t = some a.isAgg)
    (hE : ∀ t a b va vb, f t a = true → f t b = true → TV w ok a va → TV w ok b vb → (Op.equalIn D t va vb).run P w = .ok (T.eqB a b) w) :
    ∀ {fs : List Field} {ts us : List T} {c1 c2 r1 r2 : List Value} {off : Nat}, fitsFs P f off fs ts = true → fitsFs P f off fs us = true → Tcs w ok ts c1 → Tcs w ok us c2 → xs.toList.drop off = c1 ++ r1 → ys.toList.drop off = c2 ++ r2 →
      (Op.eqFields D xs ys fs).run P w = .ok (T.eqsB ts us) w
  | [], ts, us, c1, c2, r1, r2, off, h1, h2, ht, hu, hx, hy => by
    cases ts <;> simp [fitsFs] at h1
    cases us <;> simp [fitsFs] at h2
    simp [Op.eqFields, T.eqsB]
  | x :: fs, ts, us, c1, c2, r1, r2, off, h1, h2, ht, hu, hx, hy => by
    cases ts with
    | nil => simp [fitsFs] at h1
    | cons t ts =>
      cases us with
      | nil => simp [fitsFs] at h2
      | cons u us =>
        simp only [fitsFs, Bool.and_eq_true, beq_iff_eq, bne_iff_ne] at h1 h2
        obtain ⟨⟨⟨⟨a1, a2⟩, a3⟩, a4⟩, a5⟩ := h1
        obtain ⟨⟨⟨⟨b1, b2⟩, b3⟩, b4⟩, b5⟩ := h2
        cases ht with
        | cons ht1 ht2 =>
          cases hu with
          | cons hu1 hu2 =>
            rename_i p1 p2 q1 q2
            have hsz : u.sz = t.sz := by rw [a4] at b4; injection b4 with b4; exact b4.symm
            rw [List.append_assoc] at hx hy
            obtain ⟨va, ra, ta⟩ := part_at (cells := xs) ht1 a4 (hf _ _ a1) hx
            obtain ⟨vb, rb, tb⟩ := part_at (cells := ys) hu1 b4 (hf _ _ b1) hy
            have l1 := ht1.len
            have l2 := hu1.len
            have ih := eqFields_ok hf hE (off := off + t.sz) a5 (by rw [← hsz]; exact b5) ht2 hu2
              (r1 := r1) (r2 := r2) (by rw [← List.drop_drop, hx, drop_append_right (by omega), show t.sz - p1.length = 0 by omega]; rfl) (by rw [← List.drop_drop, hy, drop_append_right (by omega), show t.sz - q1.length = 0 by omega]; rfl)
            unfold Op.eqFields
            rw [if_pos a2]
            rw [a3]
            simp only [Sem.run_bind, ra, rb, Result.andThen_ok, hE _ _ _ _ _ a1 b1 ta tb, eqsB_cons]
            cases T.eqB t u
            · simp
            · simpa using ih

theorem eqItems_ok {D c : Nat} {e : TypeId} {xs ys : Array Value} (hn : tySz P e = some c) {ag : Bool} (ha : tyAg P e = some ag) :
    ∀ {ts us : List T} {c1 c2 r1 r2 : List Value} {i : Nat}, ts.length = us.length → (∀ t ∈ ts, t.sz = c ∧ t.isAgg = ag) → (∀ t ∈ us, t.sz = c ∧ t.isAgg = ag) →
      (∀ a ∈ ts, ∀ b ∈ us, ∀ va vb, TV w ok a va → TV w ok b vb → (Op.equalIn D e va vb).run P w = .ok (T.eqB a b) w) →
      Tcs w ok ts c1 → Tcs w ok us c2 → xs.toList.drop (i * c) = c1 ++ r1 → ys.toList.drop (i * c) = c2 ++ r2 →
      (Op.eqItems D e c xs ys (List.range' i ts.length)).run P w = .ok (T.eqsB ts us) w
  | [], us, c1, c2, r1, r2, i, hl, h1, h2, hE, ht, hu, hx, hy => by
    cases us <;> simp at hl
    simp [Op.eqItems, T.eqsB]
  | t :: ts, us, c1, c2, r1, r2, i, hl, h1, h2, hE, ht, hu, hx, hy => by
    cases us with
    | nil => simp at hl
    | cons u us =>
      cases ht with
      | cons ht1 ht2 =>
        cases hu with
        | cons hu1 hu2 =>
          rename_i p1 p2 q1 q2
          rw [List.append_assoc] at hx hy
          have a1 := h1 t (by simp)
          have b1 := h2 u (by simp)
          obtain ⟨va, ra, ta⟩ := part_at (P := P) (ty := e) (cells := xs) ht1 (by rw [a1.1]; exact hn) (by rw [a1.2]; exact ha) hx
          obtain ⟨vb, rb, tb⟩ := part_at (P := P) (ty := e) (cells := ys) hu1 (by rw [b1.1]; exact hn) (by rw [b1.2]; exact ha) hy
          have l1 := ht1.len
          have l2 := hu1.len
          have e1 : (i + 1) * c = i * c + c := by rw [Nat.succ_mul]
          have ih := eqItems_ok hn ha (D := D) (xs := xs) (ys := ys) (i := i + 1) (r1 := r1) (r2 := r2) (by simpa using hl) (fun t ht => h1 t (by simp [ht])) (fun t ht => h2 t (by simp [ht])) (fun a ha b hb => hE a (by simp [ha]) b (by simp [hb])) ht2 hu2
            (by rw [e1, ← List.drop_drop, hx, drop_append_right (by omega), show c - p1.length = 0 by omega]; rfl) (by rw [e1, ← List.drop_drop, hy, drop_append_right (by omega), show c - q1.length = 0 by omega]; rfl)
          simp only [List.length_cons, List.range'_succ, Op.eqItems, Sem.run_bind, ra, rb, Result.andThen_ok, hE t (by simp) u (by simp) _ _ ta tb, eqsB_cons]
          cases T.eqB t u
          · simp
          · simpa using ih

theorem eqsB_bytes : ∀ a b : List Int, T.eqsB (a.map (T.int .u8)) (b.map (T.int .u8)) = (a == b)
  | [], [] => rfl
  | [], b :: bs => by simp [T.eqsB]
  | a :: as, [] => by simp [T.eqsB]
  | a :: as, b :: bs => by rw [List.map_cons, List.map_cons, eqsB_cons, eqsB_bytes as bs]; simp [T.eqB, List.cons_beq_cons]

theorem tcs_bytes : ∀ bs : List Int, Tcs w ok (bs.map (T.int .u8)) (bs.map byteV)
  | [] => .nil
  | b :: bs => Tcs.cons (cs := [byteV b]) (.int .u8 b) (tcs_bytes bs)

theorem tySz_info {t : TypeId} {n : Nat} (h : tySz P t = some n) : ∃ i, P.info? t = some i ∧ P.cellsOf t = n := by
  unfold tySz at h
  split at h
  · rename_i i e; injection h with h; exact ⟨i, e, by unfold Program.cellsOf; rw [e]; simpa using h⟩
  · cases h

theorem TV_agg {ts : List T} {x : Value} (h : TV w ok (.agg ts) x) : ∃ cells, x = .agg cells ∧ Tcs w ok ts cells.toList := by
  have h2 := h.2
  generalize hx : x = y at h2
  cases y <;> simp [isAggV, T.isAgg] at h2
  subst hx
  cases h.1 with | agg h => exact ⟨_, rfl, h⟩

theorem TV_ba {n : Nat} {bs : List Int} {x : Value} (h : TV w ok (.ba n bs) x) : ∃ cells, x = .agg cells ∧ cells.toList = bs.map byteV ∧ bs.length = n := by
  have h2 := h.2
  generalize hx : x = y at h2
  cases y <;> simp [isAggV, T.isAgg] at h2
  subst hx
  rename_i cells
  have h1 := h.1
  simp only [Value.cells] at h1
  generalize hc : cells.toList = l at h1
  cases h1 with | ba h => exact ⟨_, rfl, hc, h⟩

theorem eq_ok : ∀ {d : Nat} {t : TypeId} {x y : T} {vx vy : Value} {D : Nat}, d + 1 ≤ D → fits P d t x = true → fits P d t y = true → TV w ok x vx → TV w ok y vy → (Op.equalIn D t vx vy).run P w = .ok (T.eqB x y) w
  | 0, _, _, _, _, _, _, _, h, _, _, _ => by simp [fits] at h
  | d + 1, t, x, y, vx, vy, D, hD, hx, hy, tx, ty => by
    obtain ⟨D, rfl⟩ : ∃ k, D = k + 1 := ⟨D - 1, by omega⟩
    unfold fits at hx hy
    split at hx
    · rename_i b e
      rw [e] at hy
      split at hy <;> first
        | (rename_i b2 e2
           rw [TV_bool tx, TV_bool ty]
           exact run_equalIn_bool' w D t _ _ e)
        | (rename_i e2; injection e2 with e2; cases e2; done)
        | (cases hy; done)
    · rename_i k k' n e
      rw [e] at hy
      split at hy <;> first
        | (rename_i q q' m e2
           injection e2 with e2; injection e2 with e2
           subst e2
           have a1 : k = k' := by simpa using hx
           have a2 : k = q' := by simpa using hy
           subst a1 a2
           rw [TV_int tx, TV_int ty]
           exact run_equalIn_int w D t _ _ _ _ e)
        | (rename_i e2; injection e2 with e2; cases e2; done)
        | (cases hy; done)
    · rename_i b e
      rw [e] at hy
      split at hy <;> first
        | (rename_i b2 e2
           rw [TV_str tx, TV_str ty]
           exact run_equalIn_string w D t _ _ e)
        | (rename_i e2; injection e2 with e2; cases e2; done)
        | (cases hy; done)
    · rename_i n el m bs e
      rw [e] at hy
      simp only [Bool.and_eq_true, beq_iff_eq] at hx
      obtain ⟨⟨h1, h2⟩, h3⟩ := hx
      split at hy <;> first
        | (rename_i n' el' m' bs' e2
           injection e2 with e2; injection e2 with e3 e4
           subst e3 e4
           simp only [Bool.and_eq_true, beq_iff_eq] at hy
           obtain ⟨c1, rfl, c2, c3⟩ := TV_ba tx
           obtain ⟨c1', rfl, c2', c3'⟩ := TV_ba ty
           obtain ⟨i, hi, hcs⟩ := tySz_info h3
           have hby : P.underlying el = some (.int .u8) := by unfold isByte at h2; split at h2; assumption; cases h2
           have hag : tyAg P el = some false := by unfold tyAg; rw [hby]
           rw [run_equalIn_array w D _ _ e hi, hcs, List.range_eq_range']
           have hlen : n = (bs.map (T.int .u8)).length := by simp; omega
           rw [hlen]
           have := eqItems_ok (D := D) (xs := c1) (ys := c1') h3 hag (ts := bs.map (T.int .u8)) (us := bs'.map (T.int .u8)) (i := 0) (r1 := []) (r2 := []) (by simp; omega)
             (fun t ht => by obtain ⟨b, _, rfl⟩ := List.mem_map.1 ht; exact ⟨rfl, rfl⟩) (fun t ht => by obtain ⟨b, _, rfl⟩ := List.mem_map.1 ht; exact ⟨rfl, rfl⟩)
             (fun a ha b hb va vb hva hvb => by
               obtain ⟨a', _, rfl⟩ := List.mem_map.1 ha
               obtain ⟨b', _, rfl⟩ := List.mem_map.1 hb
               rw [TV_int hva, TV_int hvb]
               obtain ⟨D', rfl⟩ : ∃ k, D = k + 1 := ⟨D - 1, by omega⟩
               exact run_equalIn_int w D' el _ _ _ _ hby)
             (tcs_bytes (w := w) (ok := ok) bs) (tcs_bytes bs') (by simp [c2]) (by simp [c2'])
           rw [this, eqsB_bytes]
           simp [T.eqB])
        | (rename_i n' el' ts e2
           injection e2 with e2; injection e2 with e3 e4
           subst e3 e4
           simp [h2] at hy
           done)
        | (rename_i e2; injection e2 with e2; cases e2; done)
        | (cases hy; done)
    · rename_i n el ts e
      rw [e] at hy
      simp only [Bool.and_eq_true, beq_iff_eq, Bool.not_eq_true', List.all_eq_true, Nat.blt_eq] at hx
      obtain ⟨⟨⟨h1, h0⟩, h2⟩, h3⟩ := hx
      split at hy <;> first
        | (rename_i n' el' m' bs' e2
           injection e2 with e2; injection e2 with e3 e4
           subst e3 e4
           simp [h2] at hy
           done)
        | (rename_i n' el' us e2
           injection e2 with e2; injection e2 with e3 e4
           subst e3 e4
           simp only [Bool.and_eq_true, beq_iff_eq, Bool.not_eq_true', List.all_eq_true, Nat.blt_eq] at hy
           obtain ⟨⟨⟨h1', _⟩, h2'⟩, h3'⟩ := hy
           obtain ⟨c1, rfl, c2⟩ := TV_agg tx
           obtain ⟨c1', rfl, c2'⟩ := TV_agg ty
           cases ts with
           | nil => simp at h1; omega
           | cons t0 ts =>
             have ht0 := h3 t0 (by simp)
             obtain ⟨i, hi, hcs⟩ := tySz_info ht0.2
             rw [run_equalIn_array w D _ _ e hi, hcs, List.range_eq_range', h1]
             have := eqItems_ok (D := D) (xs := c1) (ys := c1') ht0.2 (fits_ag ht0.1) (ts := t0 :: ts) (us := us) (i := 0) (r1 := []) (r2 := []) (by omega)
               (fun t ht => by
                 have := h3 t ht
                 have q := this.2; rw [ht0.2] at q; injection q with q
                 have r := fits_ag this.1; rw [fits_ag ht0.1] at r; injection r with r
                 exact ⟨q.symm, r.symm⟩)
               (fun t ht => by
                 have := h3' t ht
                 have q := this.2; rw [ht0.2] at q; injection q with q
                 have r := fits_ag this.1; rw [fits_ag ht0.1] at r; injection r with r
                 exact ⟨q.symm, r.symm⟩)
               (fun a ha b hb va vb hva hvb => eq_ok (by omega) (h3 a ha).1 (h3' b hb).1 hva hvb)
               c2 c2' (by simp) (by simp)
             rw [this]
             simp [T.eqB])
        | (rename_i e2; injection e2 with e2; cases e2; done)
        | (cases hy; done)
    · rename_i fs ts e
      rw [e] at hy
      simp only [Bool.and_eq_true, Bool.not_eq_true'] at hx
      obtain ⟨h1, h3⟩ := hx
      split at hy <;> first
        | (rename_i fs' us e2
           injection e2 with e2; injection e2 with e3
           subst e3
           simp only [Bool.and_eq_true, Bool.not_eq_true'] at hy
           obtain ⟨c1, rfl, c2⟩ := TV_agg tx
           obtain ⟨c1', rfl, c2'⟩ := TV_agg ty
           have hfo : P.fieldsOf t = fs := by unfold Program.fieldsOf; rw [e]
           rw [run_equalIn_struct w D t _ _ (by rw [hfo]; exact e) h1, hfo]
           rw [eqFields_ok (f := fits P d) (fun t a h => fits_ag h) (fun t a b va vb ha hb hva hvb => eq_ok (by omega) ha hb hva hvb) h3 hy.2 c2 c2' (r1 := []) (r2 := []) (by simp) (by simp)]
           simp [T.eqB])
        | (rename_i e2; injection e2 with e2; cases e2; done)
        | (cases hy; done)
    · cases hx

end Go.HM
