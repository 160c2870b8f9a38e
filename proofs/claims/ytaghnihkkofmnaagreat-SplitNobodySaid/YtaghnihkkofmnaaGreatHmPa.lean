/- HM, part Pa: maps. -/
import Derived.Test.YtaghnihkkofmnaaGreatHmP
import Derived.MapKept
import Derived.WideKeyRuns
namespace Go.HM

variable {P : Program} {U : Nat → Nat → Prop} {κ : List Place} {s : List SObj} {w : World} {ok : Nat → Nat → Prop}

theorem andThen_unit {r : Result Unit} (h : r = .ok () w) : (r.andThen fun _ w' => Sem.run P (pure ()) w') = .ok () w := by rw [h]; rfl

theorem checkKey_ok (em : Bool) : ∀ {d : Nat} {t : TypeId} {x : T} {vx : Value} {D : Nat}, d + 1 ≤ D → fits P d t x = true → TV w ok x vx → (Instr.checkKey em D t vx).run P w = .ok () w
  | 0, _, _, _, _, _, h, _ => by simp [fits] at h
  | d + 1, t, x, vx, D, hD, hx, tx => by
    obtain ⟨D, rfl⟩ : ∃ k, D = k + 1 := ⟨D - 1, by omega⟩
    unfold fits at hx
    rw [Instr.checkKey]
    have items : ∀ {e : TypeId} {c : Nat} {ag : Bool} {cells : Array Value} (_ : tySz P e = some c) (_ : tyAg P e = some ag) {f : Nat → Unit → Sem (ForInStep Unit)} (_ : ∀ j va, (part e cells (j * c)).run P w = .ok va w → (Instr.checkKey em D e va).run P w = .ok () w → (f j ()).run P w = .ok (.yield ()) w) (ts : List T) {c1 r1 : List Value} {i : Nat},
        (∀ t ∈ ts, t.sz = c ∧ t.isAgg = ag) → (∀ a ∈ ts, ∀ va, TV w ok a va → (Instr.checkKey em D e va).run P w = .ok () w) → Tcs w ok ts c1 → cells.toList.drop (i * c) = c1 ++ r1 →
        (forIn (List.range' i ts.length) () f).run P w = .ok () w := by
      intro e c ag cells hn ha f hf ts
      induction ts with
      | nil => intros; simp
      | cons t0 ts ih =>
        intro c1 r1 i h1 h2 h3 h4
        cases h3 with
        | cons h31 h32 =>
          rename_i p1 p2
          rw [List.append_assoc] at h4
          have a1 := h1 t0 (by simp)
          obtain ⟨va, ra, ta⟩ := part_at (P := P) (ty := e) (cells := cells) h31 (by rw [a1.1]; exact hn) (by rw [a1.2]; exact ha) h4
          have l1 := h31.len
          have e1 : (i + 1) * c = i * c + c := by rw [Nat.succ_mul]
          have := ih (i := i + 1) (r1 := r1) (fun t ht => h1 t (by simp [ht])) (fun a ha => h2 a (by simp [ha])) h32 (by rw [e1, ← List.drop_drop, h4, drop_append_right (by omega), show c - p1.length = 0 by omega]; rfl)
          simp only [List.length_cons, List.range'_succ, List.forIn_cons, Sem.run_bind, hf _ _ ra (h2 t0 (by simp) va ta), Result.andThen_ok]
          exact this
    split at hx
    · rename_i b e
      rw [TV_bool tx]
      simp [run_under e, Result.andThen]
    · rename_i k k' n e
      rw [TV_int tx]
      simp [run_under e, Result.andThen]
    · rename_i b e
      rw [TV_str tx]
      simp [run_under e, Result.andThen]
    · rename_i n el m bs e
      simp only [Bool.and_eq_true, beq_iff_eq] at hx
      obtain ⟨⟨rfl, h2⟩, h3⟩ := hx
      obtain ⟨c1, rfl, c2, c3⟩ := TV_ba tx
      have hby : P.underlying el = some (.int .u8) := by unfold isByte at h2; split at h2; assumption; cases h2
      have hag : tyAg P el = some false := by unfold tyAg; rw [hby]
      simp only [Sem.run_bind, run_under e, Result.andThen_ok]
      simp only [Std.Legacy.Range.forIn_eq_forIn_range', Std.Legacy.Range.size, Nat.sub_zero, Nat.add_one_sub_one, Nat.div_one]
      have hlen : n = (bs.map (T.int .u8)).length := by simp; omega
      rw [hlen]
      refine andThen_unit (items (cells := c1) h3 hag ?_ (bs.map (T.int .u8)) (i := 0) (r1 := []) (fun t ht => by obtain ⟨b, _, rfl⟩ := List.mem_map.1 ht; exact ⟨rfl, rfl⟩) (fun a ha va hva => ?_) (tcs_bytes (w := w) (ok := ok) bs) (by simp [c2]))
      · intro j va h1 h2; rw [Nat.mul_one] at h1; simp [run_size h3, Result.andThen, h1, h2]
      obtain ⟨b, _, rfl⟩ := List.mem_map.1 ha
      rw [TV_int hva]
      cases D with
      | zero => omega
      | succ D => rw [Instr.checkKey]; simp [run_under hby, Result.andThen]
    · rename_i n el ts e
      simp only [Bool.and_eq_true, beq_iff_eq, Bool.not_eq_true', List.all_eq_true, Nat.blt_eq] at hx
      obtain ⟨⟨⟨h1, h0⟩, h2⟩, h3⟩ := hx
      obtain ⟨c1, rfl, c2⟩ := TV_agg tx
      cases ts with
      | nil => simp at h1; omega
      | cons t0 ts =>
        have ht0 := h3 t0 (by simp)
        simp only [Sem.run_bind, run_under e, Result.andThen_ok]
        simp only [Std.Legacy.Range.forIn_eq_forIn_range', Std.Legacy.Range.size, Nat.sub_zero, Nat.add_one_sub_one, Nat.div_one]
        rw [h1]
        refine andThen_unit (items (cells := c1) ht0.2 (fits_ag ht0.1) ?_ (t0 :: ts) (i := 0) (r1 := []) (fun t ht => ?_) (fun a ha va hva => checkKey_ok em (by omega) (h3 a ha).1 hva) c2 (by simp))
        · intro j va h1 h2; simp [run_size ht0.2, Result.andThen, h1, h2]
        have := h3 t ht
        have q := this.2; rw [ht0.2] at q; injection q with q
        have r := fits_ag this.1; rw [fits_ag ht0.1] at r; injection r with r
        exact ⟨q.symm, r.symm⟩
    · rename_i fs ts e
      simp only [Bool.and_eq_true, Bool.not_eq_true'] at hx
      obtain ⟨h1, h3⟩ := hx
      obtain ⟨c1, rfl, c2⟩ := TV_agg tx
      simp only [Sem.run_bind, run_under e, Result.andThen_ok]
      rw [← Array.forIn_toList]
      have flds : ∀ (fs : List Field) {ts : List T} {cs r1 : List Value} {off : Nat}, fitsFs P (fits P d) off fs ts = true → Tcs w ok ts cs → c1.toList.drop off = cs ++ r1 →
          ∀ {f : Field → Unit → Sem (ForInStep Unit)}, (∀ x va, x.name ≠ "_" → (part x.type c1 x.offset).run P w = .ok va w → (Instr.checkKey em D x.type va).run P w = .ok () w → (f x ()).run P w = .ok (.yield ()) w) → (forIn fs () f).run P w = .ok () w := by
        intro fs
        induction fs with
        | nil => intros; simp
        | cons x fs ih =>
          intro ts cs r1 off h1 h2 h3 f hf
          cases ts with
          | nil => simp [fitsFs] at h1
          | cons t ts =>
            simp only [fitsFs, Bool.and_eq_true, beq_iff_eq, bne_iff_ne] at h1
            obtain ⟨⟨⟨⟨a1, a2⟩, a3⟩, a4⟩, a5⟩ := h1
            cases h2 with
            | cons h21 h22 =>
              rename_i p1 p2
              rw [List.append_assoc] at h3
              obtain ⟨va, ra, ta⟩ := part_at (cells := c1) h21 a4 (fits_ag a1) h3
              have l1 := h21.len
              have := ih (off := off + t.sz) (r1 := r1) a5 h22 (by rw [← List.drop_drop, h3, drop_append_right (by omega), show t.sz - p1.length = 0 by omega]; rfl) hf
              have hck := checkKey_ok em (D := D) (by omega) a1 ta
              rw [← a3] at ra
              simp only [List.forIn_cons, Sem.run_bind, hf x va a2 ra hck, Result.andThen_ok]
              exact this
      refine andThen_unit (flds fs.toList (off := 0) (r1 := []) h3 c2 (by simp) ?_)
      intro x va hne h1 h2
      simp [hne, h1, h2, Result.andThen]
    · cases hx


theorem keysOk_spec {kt : TypeId} : ∀ {es : List (T × T)}, keysOk P kt es = true → ∀ x ∈ es, fits P 10 kt x.1 = true
  | [], _, x, hx => by simp at hx
  | (a, v) :: r, h, x, hx => by
    simp only [keysOk, Bool.and_eq_true] at h
    rcases List.mem_cons.1 hx with rfl | hx
    · exact h.1
    · exact keysOk_spec h.2 x hx

/-- What is found, in the model. -/
def FoundR (w : World) (ok : Nat → Nat → Prop) : Option (Nat × T) → Option (Nat × Value) → Prop
  | none, none => True
  | some (i, v), some (j, y) => i = j ∧ TV w ok v y
  | _, _ => False

theorem findAsking_ok {kt : TypeId} {k : T} {kx : Value} (hk : fits P 10 kt k = true) (tk : TV w ok k kx) : ∀ {es : List (T × T)} {ents : List MapEntry} {i : Nat}, (∀ x ∈ es, fits P 10 kt x.1 = true) →
    F2 (fun (x : T × T) (e : MapEntry) => TV w ok x.1 e.key ∧ TV w ok x.2 e.val) es ents → ∃ r, (Instr.findAsking kt kx ents i).run P w = .ok r w ∧ FoundR w ok (findT k es i) r
  | [], _, i, _, .nil => ⟨none, by simp [Instr.findAsking], trivial⟩
  | (a, v) :: es, e :: ents, i, hf, .cons h1 h2 => by
    have hE : (Op.equal kt kx e.key).run P w = .ok (T.eqB k a) w := eq_ok (D := 10000) (by omega) hk (hf (a, v) (by simp)) tk h1.1
    obtain ⟨r, r1, r2⟩ := findAsking_ok hk tk (es := es) (ents := ents) (i := i + 1) (fun x hx => hf x (by simp [hx])) h2
    simp only [Instr.findAsking, Sem.run_bind, hE, Result.andThen_ok, findT]
    cases hc : T.eqB k a
    · exact ⟨r, by simpa [hc] using r1, by simpa using r2⟩
    · exact ⟨some (i, e.val), by simp, rfl, h1.2⟩

theorem findNow_ok' {kt : TypeId} {kd : TypeDesc} {k : T} {kx : Value} (hu : P.underlying kt = some kd) (hkd : kd = .bool ∨ kd = .string ∨ ∃ q, kd = .int q) (hk : fits P 10 kt k = true) (tk : TV w ok k kx) : ∀ {es : List (T × T)} {ents : List MapEntry} {i : Nat}, (∀ x ∈ es, fits P 10 kt x.1 = true) →
    F2 (fun (x : T × T) (e : MapEntry) => TV w ok x.1 e.key ∧ TV w ok x.2 e.val) es ents → ∃ r, Instr.findNow kd kx ents i = some r ∧ FoundR w ok (findT k es i) r
  | [], _, i, _, .nil => ⟨none, by simp [Instr.findNow], trivial⟩
  | (a, v) :: es, e :: ents, i, hf, .cons h1 h2 => by
    obtain ⟨r, r1, r2⟩ := findNow_ok' hu hkd hk tk (es := es) (ents := ents) (i := i + 1) (fun x hx => hf x (by simp [hx])) h2
    have ha := hf (a, v) (by simp)
    have hS : Instr.sameNow kd kx e.key = some (T.eqB k a) := by
      have t1 := h1.1
      unfold fits at hk ha
      rw [hu] at hk ha
      rcases hkd with rfl | rfl | ⟨q, rfl⟩
      · cases k <;> simp at hk
        cases a <;> simp at ha
        rw [TV_bool tk, TV_bool t1]; rfl
      · cases k <;> simp at hk
        cases a <;> simp at ha
        rw [TV_str tk, TV_str t1]; simp [Instr.sameNow, T.eqB, beq_toListBytes]
      · cases k <;> simp at hk
        cases a <;> simp at ha
        subst hk ha
        rw [TV_int tk, TV_int t1]; simp [Instr.sameNow, T.eqB]
    simp only [Instr.findNow, hS, findT]
    cases hc : T.eqB k a
    · exact ⟨r, by simpa [hc] using r1, by simpa using r2⟩
    · exact ⟨some (i, e.val), by simp, rfl, h1.2⟩

theorem findKey_ok {kt : TypeId} {k : T} {kx : Value} (hk : fits P 10 kt k = true) (tk : TV w ok k kx) {es : List (T × T)} {ents : List MapEntry} (hf : ∀ x ∈ es, fits P 10 kt x.1 = true)
    (h : F2 (fun (x : T × T) (e : MapEntry) => TV w ok x.1 e.key ∧ TV w ok x.2 e.val) es ents) : ∃ r, (Instr.findKey kt kx ents).run P w = .ok r w ∧ FoundR w ok (findT k es 0) r := by
  have h0 := hk
  unfold fits at h0
  cases hu : P.underlying kt with
  | none => rw [hu] at h0; simp at h0
  | some kd =>
    rw [hu] at h0
    have now : (kd = .bool ∨ kd = .string ∨ ∃ q, kd = .int q) → ∃ r, (Instr.findKey kt kx ents).run P w = .ok r w ∧ FoundR w ok (findT k es 0) r := fun hkd => by
      obtain ⟨r, r1, r2⟩ := findNow_ok' hu hkd hk tk (i := 0) hf h
      exact ⟨r, MapKept.run_findKey hu r1, r2⟩
    have ask : (match P.underlying kt with | some (.array _ _) | some (.struct _) => true | _ => false) = true → ∃ r, (Instr.findKey kt kx ents).run P w = .ok r w ∧ FoundR w ok (findT k es 0) r := fun hw => by
      rw [run_findKey_eq w hw]
      exact findAsking_ok hk tk hf h
    cases kd with
    | bool => exact now (.inl rfl)
    | string => exact now (.inr (.inl rfl))
    | int q => exact now (.inr (.inr ⟨q, rfl⟩))
    | array n e => exact ask (by rw [hu])
    | struct fs => exact ask (by rw [hu])
    | _ => cases k <;> simp at h0

end Go.HM
