/- HM, part Pb: maps made, looked into, written. -/
import Derived.Test.YtaghnihkkofmnaaGreatHmPa
namespace Go.HM

variable {P : Program} {U : Nat → Nat → Prop} {κ : List Place} {s : List SObj} {w : World} {ok : Nat → Nat → Prop}

def Flat (cs : List Value) : Prop := ∀ v ∈ cs, ∀ n, Instr.sameBits n v v = true

theorem bytes_flat (bs : List Int) : Flat (bs.map byteV) := by
  intro v hv n
  obtain ⟨b, _, rfl⟩ := List.mem_map.1 hv
  simp [byteV, Instr.sameBits]

theorem flat_append {a b : List Value} (ha : Flat a) (hb : Flat b) : Flat (a ++ b) := fun v hv n => (List.mem_append.1 hv).elim (fun h => ha v h n) (fun h => hb v h n)

theorem flds_cells {f : TypeId → T → Bool} (hf : ∀ {t x y cs cs'}, f t x = true → f t y = true → T.eqB x y = true → Tc w ok x cs → Tc w ok y cs' → cs = cs' ∧ Flat cs) : ∀ {fs : List Field} {ts us : List T} {cs cs' : List Value} {off : Nat},
    fitsFs P f off fs ts = true → fitsFs P f off fs us = true → T.eqsB ts us = true → Tcs w ok ts cs → Tcs w ok us cs' → cs = cs' ∧ Flat cs
  | [], ts, us, cs, cs', off, h1, h2, h3, h4, h5 => by
    cases ts <;> simp [fitsFs] at h1
    cases us <;> simp [fitsFs] at h2
    cases h4; cases h5
    exact ⟨rfl, fun v hv => by simp at hv⟩
  | x :: fs, ts, us, cs, cs', off, h1, h2, h3, h4, h5 => by
    cases ts with
    | nil => simp [fitsFs] at h1
    | cons t ts =>
      cases us with
      | nil => simp [fitsFs] at h2
      | cons u us =>
        simp only [fitsFs, Bool.and_eq_true, beq_iff_eq, bne_iff_ne] at h1 h2
        obtain ⟨⟨⟨⟨a1, a2⟩, a3⟩, a4⟩, a5⟩ := h1
        obtain ⟨⟨⟨⟨b1, b2⟩, b3⟩, b4⟩, b5⟩ := h2
        rw [eqsB_cons, Bool.and_eq_true] at h3
        have hsz : u.sz = t.sz := by rw [a4] at b4; injection b4 with b4; exact b4.symm
        cases h4 with
        | cons h41 h42 => cases h5 with
          | cons h51 h52 =>
            obtain ⟨e1, f1⟩ := hf a1 b1 h3.1 h41 h51
            obtain ⟨e2, f2⟩ := flds_cells (f := f) hf a5 (by rw [← hsz]; exact b5) h3.2 h42 h52
            exact ⟨by rw [e1, e2], flat_append f1 f2⟩

theorem items_cells {p : T → Prop} (hf : ∀ {x y cs cs'}, p x → p y → T.eqB x y = true → Tc w ok x cs → Tc w ok y cs' → cs = cs' ∧ Flat cs) : ∀ {ts us : List T} {cs cs' : List Value}, (∀ t ∈ ts, p t) → (∀ t ∈ us, p t) → ts.length = us.length →
    T.eqsB ts us = true → Tcs w ok ts cs → Tcs w ok us cs' → cs = cs' ∧ Flat cs
  | [], us, cs, cs', h1, h2, hl, h3, h4, h5 => by
    cases us <;> simp at hl
    cases h4; cases h5
    exact ⟨rfl, fun v hv => by simp at hv⟩
  | t :: ts, us, cs, cs', h1, h2, hl, h3, h4, h5 => by
    cases us with
    | nil => simp at hl
    | cons u us =>
      rw [eqsB_cons, Bool.and_eq_true] at h3
      cases h4 with
      | cons h41 h42 => cases h5 with
        | cons h51 h52 =>
          obtain ⟨e1, f1⟩ := hf (h1 t (by simp)) (h2 u (by simp)) h3.1 h41 h51
          obtain ⟨e2, f2⟩ := items_cells hf (fun t ht => h1 t (by simp [ht])) (fun t ht => h2 t (by simp [ht])) (by simpa using hl) h3.2 h42 h52
          exact ⟨by rw [e1, e2], flat_append f1 f2⟩

theorem fits_cells : ∀ {d : Nat} {t : TypeId} {x y : T} {cs cs' : List Value}, fits P d t x = true → fits P d t y = true → T.eqB x y = true → Tc w ok x cs → Tc w ok y cs' → cs = cs' ∧ Flat cs
  | 0, _, _, _, _, _, h, _, _, _, _ => by simp [fits] at h
  | d + 1, t, x, y, cs, cs', hx, hy, he, tx, ty => by
    unfold fits at hx hy
    cases hu : P.underlying t with
    | none => rw [hu] at hx; simp at hx
    | some kd =>
      rw [hu] at hx hy
      cases kd with
      | bool =>
        cases x <;> simp at hx
        cases y <;> simp at hy
        cases tx; cases ty
        simp only [T.eqB, beq_iff_eq] at he
        subst he
        exact ⟨rfl, fun v hv n => by simp at hv; subst hv; cases n <;> simp [Instr.sameBits]⟩
      | int q =>
        cases x <;> simp at hx
        cases y <;> simp at hy
        subst hx hy
        cases tx; cases ty
        simp only [T.eqB, beq_iff_eq] at he
        subst he
        exact ⟨rfl, fun v hv n => by simp at hv; subst hv; cases n <;> simp [Instr.sameBits]⟩
      | string =>
        cases x <;> simp at hx
        cases y <;> simp at hy
        cases tx; cases ty
        rename_i a b
        have hab : (a == b) = true := by rw [beq_toListBytes]; exact he
        have hab' := (MapKept.bytes_beq a b).1 hab
        subst hab'
        exact ⟨rfl, fun v hv n => by simp at hv; subst hv; cases n <;> simpa [Instr.sameBits] using hab⟩
      | array n e =>
        cases x <;> simp at hx
        · cases y <;> simp at hy
          · cases tx; cases ty
            simp only [T.eqB, beq_iff_eq] at he
            subst he
            exact ⟨rfl, bytes_flat _⟩
          · simp [T.eqB] at he
        · cases y <;> simp at hy
          · simp [T.eqB] at he
          · rename_i ts us
            cases tx with
            | agg tx => cases ty with
              | agg ty =>
                simp only [T.eqB] at he
                exact items_cells (p := fun u => fits P d e u = true) (fun hx hy he tx ty => fits_cells hx hy he tx ty) (fun t ht => (hx.2 t ht).1) (fun t ht => (hy.2 t ht).1) (by omega) he tx ty
      | struct fs =>
        cases x <;> simp at hx
        cases y <;> simp at hy
        cases tx with
        | agg tx => cases ty with
          | agg ty =>
            simp only [T.eqB] at he
            exact flds_cells (f := fits P d) (fun hx hy he tx ty => fits_cells hx hy he tx ty) hx.2 hy.2 he tx ty
      | _ => cases x <;> simp at hx

theorem sameBits_ok {d : Nat} {t : TypeId} {x y : T} {vx vy : Value} (hx : fits P d t x = true) (hy : fits P d t y = true) (he : T.eqB x y = true) (tx : TV w ok x vx) (ty : TV w ok y vy) (n : Nat) : Instr.sameBits (n + 1) vy vx = true := by
  obtain ⟨h1, h2⟩ := fits_cells hx hy he tx.1 ty.1
  have hag : x.isAgg = y.isAgg := by
    have a := fits_ag hx; rw [fits_ag hy] at a; injection a with a; exact a.symm
  have e1 := tx.2
  have e2 := ty.2
  by_cases hag2 : x.isAgg = true
  · rw [hag2] at e1
    rw [← hag, hag2] at e2
    cases vx <;> simp [isAggV] at e1
    cases vy <;> simp [isAggV] at e2
    rename_i cl _
    simp only [Value.cells] at h1 h2
    have h1' := Array.toList_inj.1 h1
    subst h1'
    simp only [Instr.sameBits, BEq.rfl, Bool.true_and, List.all_eq_true]
    rintro ⟨a, b⟩ hab
    have : a = b ∧ a ∈ cl.toList := by
      have := List.of_mem_zip hab
      have h3 : ∀ (l : List Value), (a, b) ∈ l.zip l → a = b := by
        intro l
        induction l with
        | nil => simp
        | cons z l ih => intro h; simp only [List.zip_cons_cons, List.mem_cons, Prod.mk.injEq] at h; rcases h with ⟨rfl, rfl⟩ | h; rfl; exact ih h
      exact ⟨h3 _ hab, this.1⟩
    obtain ⟨rfl, hm⟩ := this
    exact h2 a hm n
  · have f1 : isAggV vx = false := by rw [e1]; simpa using hag2
    have f2 : isAggV vy = false := by rw [e2, ← hag]; simpa using hag2
    rw [cells_one f1, cells_one f2] at h1
    simp at h1
    subst h1
    exact h2 vx (by rw [cells_one f1]; simp) (n + 1)

theorem F2_app {α β : Type} {R : α → β → Prop} : ∀ {l l' : List α} {m m' : List β}, F2 R l m → F2 R l' m' → F2 R (l ++ l') (m ++ m')
  | _, _, _, _, .nil, h => h
  | _, _, _, _, .cons a b, h => .cons a (F2_app b h)

theorem run_keyThatStays {old new : Value} (h : Instr.sameBits 10000 old new = true) : (Instr.keyThatStays old new).run P w = .ok new w := by
  simp [Instr.keyThatStays, h]

theorem VV_map {id : Nat} {x : Value} (h : VV U κ s w (.map id) x) : ∃ es pl, s[id]? = some (.map es) ∧ κ[id]? = some pl ∧ x = .map (some pl.blk) := by
  have h' := Vc_one_cell (VV_one h rfl) rfl
  cases h' with | map a b => exact ⟨_, _, a, b, rfl⟩

theorem TV_nilM {x : Value} (h : TV w ok .nilM x) : x = .map none := by have := h.cell rfl; cases this; rfl

theorem RelS.mapObj (h : RelS U κ s w) {id : Nat} {es : List (T × T)} {pl : Place} (hs : s[id]? = some (.map es)) (hk : κ[id]? = some pl) :
    pl.on = true ∧ pl.blk < w.heap.size ∧ ∃ ents clock, w.heap[pl.blk]? = some (.map ents clock) ∧ MapR w (okOf U κ) es ents clock := h.obj id _ pl hs hk

theorem makeMap_ok {st : St} {a : Act} (h : Rel U κ st a w) {o : Oper} {ty : TypeId} (ho : o.op = .makeMap ty none) : OpOk P U κ st.s a w o ⟨.map st.s.length, st.s ++ [.map []], []⟩ := by
  have hst := step_push (U := U) (κ := κ) (w := w) (.map #[] 0) ⟨w.heap.size, 0, 0, true⟩ rfl
  have he := Ext.append h.store.len ⟨w.heap.size, 0, 0, true⟩ (.map [])
  have hs : RelS U (κ ++ [⟨w.heap.size, 0, 0, true⟩]) (st.s ++ [.map []]) { w with heap := w.heap.push (.map #[] 0) } :=
    h.store.push _ _ _ rfl ⟨rfl, by simp, #[], 0, by simp, .nil, by simp⟩
  refine ⟨.value (.map (some w.heap.size)), _, _, ?_, .inl ⟨_, rfl, ?_⟩, hs, hst, he⟩
  · unfold execOp
    simp only [ho, Option.map_none]
    exact run_v _ rfl
  · exact VV_of1 (VV1_of_cell (.map (es := []) (pl := ⟨w.heap.size, 0, 0, true⟩) (by simp) (by rw [← h.store.len]; simp)) rfl)

theorem look_run {st : St} {a : Act} (h : Rel U κ st a w) {o : Oper} {ty kt vt : TypeId} {x kx : Operand} {ok' : Bool} (ho : o.op = .lookup ty x kx ok') (hu : P.underlying ty = some (.map kt vt)) {k : T} (tk : TV w (okOf U κ) k (a.eval kx))
    {es : List (T × T)} {ents : Array MapEntry} (hes : F2 (fun (x : T × T) (e : MapEntry) => TV w (okOf U κ) x.1 e.key ∧ TV w (okOf U κ) x.2 e.val) es ents.toList)
    (hx : (a.eval x = .map none ∧ ents = #[]) ∨ ∃ b c, a.eval x = .map (some b) ∧ w.heap[b]? = some (.map ents c)) {v : V} (hv : lookV P kt vt ok' k es = some v) : OpOk P U κ st.s a w o ⟨v, st.s, []⟩ := by
  unfold lookV at hv
  split at hv
  · rename_i hc
    simp only [Bool.and_eq_true] at hc
    split at hv
    · rename_i z hz
      obtain ⟨iz, zv, z1, z2, z3, z4⟩ := zeroOf_spec (w := w) (ok := okOf U κ) hz
      obtain ⟨r, r1, r2⟩ := findKey_ok hc.1 tk (keysOk_spec hc.2) hes
      have hck := fun em => checkKey_ok (P := P) (w := w) (ok := okOf U κ) em (D := 10000) (by omega) hc.1 tk
      have hzero : (zeroValue vt : Sem Value).run P w = .ok zv w := by simp [zeroValue, typeInfo, z1, z2, Result.andThen]
      have fin : ∀ {y : Value} {b : Bool}, (r = none ∧ y = zv ∧ b = false) ∨ (∃ i, r = some (i, y) ∧ b = true) → (execOp a.eval o).run P w = .ok (.value (if ok' then .tuple #[y, .bool b] else y)) w := by
        intro y b hy
        unfold execOp
        simp only [ho]
        refine run_v _ ?_
        simp only [Instr.lookup, Sem.run_bind, run_under hu, Result.andThen_ok]
        rcases hx with ⟨hx, he⟩ | ⟨bb, cc, hx, hb⟩
        · subst he
          simp only [hx, Sem.run_bind, Sem.run_pure, Result.andThen_ok, hck, r1]
          rcases hy with ⟨rfl, rfl, rfl⟩ | ⟨i, rfl, rfl⟩
          · simp [hzero, Result.andThen]
          · simp
        · simp only [hx, Sem.run_bind, MapKept.run_getObj_map hb, Sem.run_pure, Result.andThen_ok, hck, r1]
          rcases hy with ⟨rfl, rfl, rfl⟩ | ⟨i, rfl, rfl⟩
          · simp [hzero, Result.andThen]
          · simp
      cases hf : findT k es 0 with
      | none =>
        rw [hf] at hv r2
        cases r with
        | none =>
          have := fin (y := zv) (b := false) (.inl ⟨rfl, rfl, rfl⟩)
          simp only [Option.some.injEq] at hv
          subst hv
          refine OpOk.still h.store this ?_
          cases ok'
          · exact VV_of z3
          · exact ⟨[zv, .bool false], rfl, .cons (VV1_of z3) (.cons (VV1_of_cell (.rb _) rfl) .nil)⟩
        | some r => exact r2.elim
      | some iv =>
        obtain ⟨i, v0⟩ := iv
        rw [hf] at hv r2
        cases r with
        | none => exact r2.elim
        | some r =>
          obtain ⟨j, y⟩ := r
          have := fin (y := y) (b := true) (.inr ⟨_, rfl, rfl⟩)
          simp only [Option.some.injEq] at hv
          subst hv
          refine OpOk.still h.store this ?_
          cases ok'
          · exact VV_of r2.2
          · exact ⟨[y, .bool true], rfl, .cons (VV1_of r2.2) (.cons (VV1_of_cell (.rb _) rfl) .nil)⟩
    · cases hv
  · cases hv

theorem lookup_ok {st : St} {a : Act} (h : Rel U κ st a w) {o : Oper} {ty kt vt : TypeId} {x kx : Operand} {ok' : Bool} (ho : o.op = .lookup ty x kx ok') (hu : P.underlying ty = some (.map kt vt)) {k : T} (tk : TV w (okOf U κ) k (a.eval kx))
    {id : Nat} {es : List (T × T)} (hx : VV U κ st.s w (.map id) (a.eval x)) (hs : st.s[id]? = some (.map es)) {v : V} (hv : lookV P kt vt ok' k es = some v) : OpOk P U κ st.s a w o ⟨v, st.s, []⟩ := by
  obtain ⟨es', pl, h1, h2, h3⟩ := VV_map hx
  obtain ⟨_, _, ents, clock, h4, h5⟩ := h.store.mapObj hs h2
  exact look_run h ho hu tk h5.1 (.inr ⟨_, _, h3, h4⟩) hv

theorem lookNil_ok {st : St} {a : Act} (h : Rel U κ st a w) {o : Oper} {ty kt vt : TypeId} {x kx : Operand} {ok' : Bool} (ho : o.op = .lookup ty x kx ok') (hu : P.underlying ty = some (.map kt vt)) {k : T} (tk : TV w (okOf U κ) k (a.eval kx))
    (hx : VV U κ st.s w (.p .nilM) (a.eval x)) {v : V} (hv : lookV P kt vt ok' k [] = some v) : OpOk P U κ st.s a w o ⟨v, st.s, []⟩ := by
  exact look_run h ho hu tk (ents := #[]) .nil (.inl ⟨TV_nilM (VV_p hx), rfl⟩) hv

/-- The store behind a write into a map. -/
theorem RelS.setMap (h : RelS U κ s w) {id : Nat} {es es' : List (T × T)} {pl : Place} (hs : s[id]? = some (.map es)) (hk : κ[id]? = some pl) {ents' : Array MapEntry} {clock' : Nat} (hm : MapR w (okOf U κ) es' ents' clock') :
    RelS U κ (s.set id (.map es')) { w with heap := w.heap.setIfInBounds pl.blk (.map ents' clock') } ∧ Step U κ w κ { w with heap := w.heap.setIfInBounds pl.blk (.map ents' clock') } ∧ Ext κ s κ (s.set id (.map es')) := by
  obtain ⟨hon, hlt, ents, clock, h4, h5⟩ := h.mapObj hs hk
  have hidlt := getElem?_lt hs
  have e5 : ∀ j, j ≠ pl.blk → (w.heap.setIfInBounds pl.blk (.map ents' clock'))[j]? = w.heap[j]? := fun j hj => by simp [Ne.symm hj]
  have hkept : Kept κ w { w with heap := w.heap.setIfInBounds pl.blk (.map ents' clock') } := ⟨rfl, rfl, rfl, by simp, fun j _ hn => e5 j (hn pl (List.mem_of_getElem? hk) hon)⟩
  have hpres : Pres w (okOf U κ) { w with heap := w.heap.setIfInBounds pl.blk (.map ents' clock') } (okOf U κ) := fun b o y hy ho => by
    refine ⟨?_, ho⟩
    by_cases hb : b = pl.blk
    · subst hb
      simp [World.cell?, h4] at hy
    · rw [cell_heap (e5 b hb)]; exact hy
  have hext : Ext κ s κ (s.set id (.map es')) := by
    refine ⟨fun i x p a b => ?_, fun i x p a b => ?_, fun i c e a => ?_, fun i c x a => ?_, fun i ls pd d f n t ps as bd p a b => ?_, fun i p a b => ?_⟩
    · by_cases hi : i = id
      · subst hi; rw [hs] at a; cases a
      · exact ⟨x, p, by rw [List.getElem?_set_ne (Ne.symm hi)]; exact a, b, rfl⟩
    · by_cases hi : i = id
      · subst hi; exact ⟨es', p, by simp [hidlt], b, rfl⟩
      · exact ⟨x, p, by rw [List.getElem?_set_ne (Ne.symm hi)]; exact a, b, rfl⟩
    · by_cases hi : i = id
      · subst hi; rw [hs] at a; cases a
      · exact ⟨c, by rw [List.getElem?_set_ne (Ne.symm hi)]; exact a, Nat.le_refl _, fun _ => rfl⟩
    · by_cases hi : i = id
      · subst hi; rw [hs] at a; cases a
      · exact ⟨c, x, by rw [List.getElem?_set_ne (Ne.symm hi)]; exact a, Nat.le_refl _, fun _ => rfl⟩
    · by_cases hi : i = id
      · subst hi; rw [hs] at a; cases a
      · exact ⟨ls, pd, t, p, by rw [List.getElem?_set_ne (Ne.symm hi)]; exact a, b, rfl⟩
    · by_cases hi : i = id
      · subst hi; rw [hs] at a; cases a
      · exact ⟨p, by rw [List.getElem?_set_ne (Ne.symm hi)]; exact a, b, rfl⟩
  have hstep : Step U κ w κ { w with heap := w.heap.setIfInBounds pl.blk (.map ents' clock') } := ⟨hkept, fun p a b => .inl ⟨p, a, b, rfl⟩, hpres⟩
  refine ⟨⟨fun b o hb => h.up b o (by simpa using hb), by simp [h.len], fun i o' p a b => ?_, h.apart, fun p a b => by simpa using h.below p a b, h.mine, h.glob.pres hpres⟩, hstep, hext⟩
  by_cases hi : i = id
  · subst hi
    rw [hk] at b; injection b with b; subst b
    simp [hidlt] at a
    subst a
    exact ⟨hon, by simpa using hlt, ents', clock', by simp [hlt], hm.pres hpres⟩
  · rw [List.getElem?_set_ne (Ne.symm hi)] at a
    have hob := h.obj i o' p a b
    have hne : p.on = true → p.blk ≠ pl.blk := fun hp => h.apart i id p pl b hk hi hp hon
    cases o' with
    | box x =>
      obtain ⟨x0, x1, x2, x3, cs, el, x4, x5⟩ := hob
      exact ⟨x0, x1, x2, by simpa using x3, cs, el, x4.of_eq (e5 _ (hne x0)), x5.ext hpres hext⟩
    | row c e =>
      intro x0
      obtain ⟨x3, x4⟩ := hob x0
      exact ⟨by simpa using x3, fun q q1 q2 => by rw [cell_heap (e5 _ (hne x0)), frozen_heap (e5 _ (hne x0))]; exact x4 q q1 q2⟩
    | map es =>
      obtain ⟨x0, x3, ents, clock, x4, x5⟩ := hob
      exact ⟨x0, by simpa using x3, ents, clock, by rw [e5 _ (hne x0)]; exact x4, x5.pres hpres⟩
    | vec c x =>
      obtain ⟨x0, x1, x3, cs, el, ⟨cs', more, q1, q2⟩, x4, x5⟩ := hob
      exact ⟨x0, x1, by simpa using x3, cs, el, ⟨cs', more, q1, q2.ext hpres hext⟩, x4.of_eq (e5 _ (hne x0)), x5⟩
    | dead => exact hob
    | lp ls pd d f n t ps as bd => exact ObjR.lpMove hpres hext (by simp) (fun x0 => e5 _ (hne x0)) hob
    | dfr => exact ObjR.dfrMove (by simp) (fun x0 => e5 _ (hne x0)) hob

theorem findT_get {k : T} : ∀ {es : List (T × T)} {i0 i : Nat} {v : T}, findT k es i0 = some (i, v) → i0 ≤ i ∧ ∃ a, es[i - i0]? = some (a, v) ∧ T.eqB k a = true
  | [], _, _, _, h => by simp [findT] at h
  | (a, u) :: r, i0, i, v, h => by
    simp only [findT] at h
    split at h
    · rename_i hc
      simp only [Option.some.injEq, Prod.mk.injEq] at h
      obtain ⟨rfl, rfl⟩ := h
      exact ⟨Nat.le_refl _, a, by simp, hc⟩
    · obtain ⟨h1, a', h2, h3⟩ := findT_get h
      refine ⟨by omega, a', ?_, h3⟩
      rw [show i - i0 = (i - (i0 + 1)) + 1 by omega]
      simpa using h2

theorem setEnt_F2 {R : T × T → MapEntry → Prop} : ∀ {es : List (T × T)} {ents : List MapEntry} {i : Nat} {k v : T} {f : MapEntry → MapEntry}, F2 R es ents → (∀ e, ents[i]? = some e → R (k, v) (f e)) → F2 R (setEnt es i k v) (ents.modify i f)
  | [], [], i, k, v, f, .nil, _ => by simpa [setEnt] using F2.nil
  | x :: es, e :: ents, 0, k, v, f, .cons h1 h2, hf => by simp only [setEnt, List.modify_zero_cons]; exact .cons (hf e (by simp)) h2
  | x :: es, e :: ents, i + 1, k, v, f, .cons h1 h2, hf => by simp only [setEnt, List.modify_succ_cons]; exact .cons h1 (setEnt_F2 h2 (fun e' he => hf e' (by simpa using he)))

theorem mapUpdate_ok {st : St} {a : Act} (h : Rel U κ st a w) {o : Oper} {ty kt vt : TypeId} {x kx vx : Operand} (ho : o.op = .mapUpdate ty x kx vx ∨ o.op = .insert ty x kx vx) (hu : P.underlying ty = some (.map kt vt)) {k v : T} (tk : TV w (okOf U κ) k (a.eval kx)) (tv : TV w (okOf U κ) v (a.eval vx))
    {id : Nat} {es es' : List (T × T)} (hx : VV U κ st.s w (.map id) (a.eval x)) (hs : st.s[id]? = some (.map es)) (hv : putM P kt k v es = some es') : OpOk P U κ st.s a w o ⟨.bad, st.s.set id (.map es'), []⟩ := by
  obtain ⟨es0, pl, h1, h2, h3⟩ := VV_map hx
  obtain ⟨_, hblt, ents, clock, h4, h5⟩ := h.store.mapObj hs h2
  unfold putM at hv
  split at hv
  · rename_i hc
    simp only [Bool.and_eq_true] at hc
    obtain ⟨r, r1, r2⟩ := findKey_ok hc.1 tk (keysOk_spec hc.2) h5.1
    have hck := checkKey_ok (P := P) (w := w) (ok := okOf U κ) false (D := 10000) (by omega) hc.1 tk
    have fin : ∀ {ents' : Array MapEntry} {clock' : Nat}, MapR w (okOf U κ) es' ents' clock' → (Instr.mapUpdate ty (.map (some pl.blk)) (a.eval kx) (a.eval vx)).run P w = .ok () { w with heap := w.heap.setIfInBounds pl.blk (.map ents' clock') } → OpOk P U κ st.s a w o ⟨.bad, st.s.set id (.map es'), []⟩ := by
      intro ents' clock' hm hrun
      obtain ⟨r1, r2, r3⟩ := h.store.setMap hs h2 hm
      refine ⟨.skip, _, κ, ?_, .inr ⟨rfl, rfl⟩, r1, r2, r3⟩
      unfold execOp
      rcases ho with ho | ho
      · simp only [ho, h3]
        exact run_u _ hrun
      · simp only [ho, h3]
        exact run_u _ hrun
    cases hf : findT k es 0 with
    | none =>
      rw [hf] at hv r2
      simp only [Option.some.injEq] at hv
      subst hv
      cases r with
      | some r => exact r2.elim
      | none =>
        refine fin (ents' := ents.push { key := a.eval kx, val := a.eval vx, born := clock }) (clock' := clock + 1) ⟨?_, ?_⟩ ?_
        · rw [Array.toList_push]
          exact F2_app h5.1 (.cons ⟨tk, tv⟩ .nil)
        · intro e he
          rcases Array.mem_push.1 he with he | rfl
          · have := h5.2 e he; omega
          · simp
        · simp [Instr.mapUpdate, run_under hu, Result.andThen, MapKept.run_getObj_map h4, hck, r1, MapKept.run_setObj_map _ h4]
    | some iv =>
      obtain ⟨i, v0⟩ := iv
      rw [hf] at hv r2
      simp only [Option.some.injEq] at hv
      subst hv
      cases r with
      | none => exact r2.elim
      | some r =>
        obtain ⟨j, y⟩ := r
        obtain ⟨rfl, r3⟩ := r2
        obtain ⟨_, ka, g1, g2⟩ := findT_get hf
        simp only [Nat.sub_zero] at g1
        obtain ⟨e, q1, q2⟩ := F2_get h5.1 g1
        have q1' : ents[i]? = some e := by simpa using q1
        have hsb := sameBits_ok hc.1 (keysOk_spec hc.2 _ (List.mem_of_getElem? g1)) g2 tk q2.1 9999
        refine fin (ents' := ents.modify i fun e => { e with key := a.eval kx, val := a.eval vx }) (clock' := clock) ⟨?_, ?_⟩ ?_
        · rw [Array.toList_modify]
          exact setEnt_F2 h5.1 (fun e' he' => ⟨tk, tv⟩)
        · intro e' he'
          obtain ⟨n, hn, hen⟩ := Array.mem_iff_getElem.1 he'
          rw [Array.getElem_modify] at hen
          split at hen
          · subst hen; exact h5.2 (ents[n]'(by simpa using hn)) (Array.getElem_mem _)
          · subst hen; exact h5.2 (ents[n]'(by simpa using hn)) (Array.getElem_mem _)
        · simp [Instr.mapUpdate, run_under hu, Result.andThen, MapKept.run_getObj_map h4, hck, r1, q1', run_keyThatStays hsb, MapKept.run_setObj_map _ h4]
  · cases hv

end Go.HM
