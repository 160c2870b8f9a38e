/- HM, part P: append, said of the evaluator. -/
import Derived.Test.YtaghnihkkofmnaaGreatHmO
namespace Go.HM

variable {P : Program} {U : Nat → Nat → Prop} {κ : List Place} {s : List SObj} {w : World} {ok : Nat → Nat → Prop}

/-- The elements, by their cells. -/
def ElemsC (w : World) (ok : Nat → Nat → Prop) (e : Nat) (t : T) (cs : List Value) : Prop := match t with
  | .lst _ e' ts => e' = e ∧ Tcs w ok ts cs ∧ ∀ t ∈ ts, t.sz = e
  | .bl _ bs => e = 1 ∧ cs = bs.map byteV
  | _ => False

theorem ElemsC.pres {w' : World} {ok' : Nat → Nat → Prop} (hp : Pres w ok w' ok') {e : Nat} {t : T} {cs : List Value} (h : ElemsC w ok e t cs) : ElemsC w' ok' e t cs := by
  cases t with
  | lst x e' ts => exact ⟨h.1, h.2.1.pres hp, h.2.2⟩
  | bl x bs => exact h
  | _ => exact h.elim

theorem Tcs.append : ∀ {ts us : List T} {cs ds : List Value}, Tcs w ok ts cs → Tcs w ok us ds → Tcs w ok (ts ++ us) (cs ++ ds)
  | [], _, _, _, .nil, h => h
  | _ :: _, _, _, _, .cons h1 h2, h => by rw [List.append_assoc]; exact .cons h1 (h2.append h)

theorem app_elems {t u t' : T} {e : Nat} {cs ds : List Value} (h : appT t u = some t') (h1 : ElemsC w ok e t cs) (h2 : ElemsC w ok e u ds) : ElemsC w ok e t' (cs ++ ds) := by
  cases t <;> cases u <;> simp only [appT] at h <;> first | (cases h; done) | skip
  · injection h with h; subst h
    obtain ⟨a, b⟩ := h1
    obtain ⟨c, d⟩ := h2
    exact ⟨a, by rw [b, d, List.map_append]⟩
  · split at h
    · injection h with h; subst h
      obtain ⟨a, b, c⟩ := h1
      obtain ⟨a', b', c'⟩ := h2
      exact ⟨a, b.append b', fun t ht => (List.mem_append.1 ht).elim (c t) (c' t)⟩
    · cases h

theorem elems_slice {t : T} {e n cap b o : Nat} {cs : List Value} (h : ElemsC w ok e t cs) (hl : t.len = some n) (hc : n ≤ cap) (hx : noX t)
    (hm : ∀ (j : Nat) (v : Value), cs[j]? = some v → w.cell? ⟨b, o + j, none⟩ = some v ∧ ok b (o + j)) : Tc w ok t [.slice (some ⟨b, o, none⟩) n cap] := by
  cases t with
  | lst x e' ts =>
    simp only [T.len, Option.some.injEq] at hl
    obtain ⟨rfl, h2, h3⟩ := h
    simp only [noX] at hx
    exact .lst hl hc (by simp [hx]) h3 h2 hm
  | bl x bs =>
    simp only [T.len, Option.some.injEq] at hl
    obtain ⟨h1, rfl⟩ := h
    simp only [noX] at hx
    exact .bl hl hc (by simp [hx]) (fun j v hj => hm j (byteV v) (by simp [hj]))
  | _ => exact h.elim

theorem app_len {t u t' : T} {a b : Nat} (h : appT t u = some t') (h1 : t.len = some a) (h2 : u.len = some b) : t'.len = some (a + b) ∧ noX t' ∧ (a + b = 0 → ∀ base cap, (base = none → cap = 0) → Tc w ok t' [.slice base 0 cap]) ∧ t'.isAgg = false := by
  cases t with
  | bl x bs =>
    cases u with
    | bl x' ds =>
      simp only [appT, Option.some.injEq] at h
      subst h
      simp only [T.len, Option.some.injEq] at h1 h2
      refine ⟨by simp [T.len, h1, h2], rfl, fun hz base cap hbc => ?_, rfl⟩
      have : bs ++ ds = [] := List.eq_nil_of_length_eq_zero (by rw [List.length_append, h1, h2]; exact hz)
      rw [this]
      cases base with
      | none => rw [hbc rfl]; exact .blnil
      | some ad => exact .bl0 (fun h => by cases h)
    | _ => simp [appT] at h
  | lst x e ts =>
    cases u with
    | lst x' e' us =>
      simp only [appT] at h
      split at h
      · injection h with h; subst h
        simp only [T.len, Option.some.injEq] at h1 h2
        refine ⟨by simp [T.len, h1, h2], rfl, fun hz base cap hbc => ?_, rfl⟩
        have : ts ++ us = [] := List.eq_nil_of_length_eq_zero (by rw [List.length_append, h1, h2]; exact hz)
        rw [this]
        cases base with
        | none => rw [hbc rfl]; exact .lstnil
        | some ad => exact .lst0 (fun h => by cases h)
      · cases h
    | _ => simp [appT] at h
  | _ => simp [appT] at h

/-- A slice's tree: value, cells, elements. -/
theorem slice_parts {t : T} {x : Value} {n e : Nat} (h : TV w ok t x) (hl : t.len = some n) (he : kindE e t) :
    ∃ base cap cs, x = .slice base n cap ∧ SliceC w ok e cs base n cap ∧ (∀ v ∈ cs, v.oneCell' = true) ∧ ElemsC w ok e t cs ∧ (isX t = true → cap = n) := by
  obtain ⟨base, cap, cs, a, b, c, d⟩ := slice_cells h hl e he
  refine ⟨base, cap, cs, a, b, c, ?_, ?_⟩
  · cases t with
    | lst xf e' ts => exact ⟨he, d.1, d.2.1⟩
    | bl xf bs => exact ⟨he, d.1⟩
    | _ => exact he.elim
  · cases t with
    | lst xf e' ts => exact d.2.2
    | bl xf bs => exact d.2
    | _ => exact he.elim

theorem eval_append {a : Act} {o : Oper} {c : Call} {x y : Operand} {t t2 : TypeId} (ho : o.op = .call c) (hc : c.callee = .builtin .append) (ha : c.args = #[x, y]) (ht : c.argTypes = #[t, t2]) {v : Value} {w' : World}
    (h : (Builtin.append_ #[t, t2] o.type #[a.eval x, a.eval y]).run P w = .ok v w') : (execOp a.eval o).run P w = .ok (.value v) w' := by
  unfold execOp
  simp only [ho]
  simp only [resolve, hc, ha, ht, List.map_toArray, List.map_cons, List.map_nil, Sem.run_bind, Sem.run_pure, Result.andThen_ok, invoke, builtin]
  simp [h, Result.andThen]

/-- What is appended, with its tree. -/
structure SrcT (P : Program) (w : World) (ok : Nat → Nat → Prop) (t2 : TypeId) (n : Nat) (y : Value) (q : Nat) (u : T) : Prop where
  src : ∃ ds, SrcC P w t2 n y q ds ∧ ElemsC w ok n u ds

theorem SrcT.slice {t et : TypeId} {n q : Nat} {u : T} {y : Value} (ht : P.underlying t = some (.slice et)) (h : TV w ok u y) (hl : u.len = some q) (hk : kindE n u) : SrcT P w ok t n y q u := by
  obtain ⟨base2, cap2, ds, d1, d2, d3, d4, _⟩ := slice_parts h hl hk
  subst d1
  exact ⟨ds, .slice ht d2 d3, d4⟩

/-- Into a row that is there. -/
theorem append_row {st : St} {a : Act} (h : Rel U κ st a w) {o : Oper} {c : Call} {x y : Operand} {t t2 e : TypeId} (ho : o.op = .call c) (hc : c.callee = .builtin .append) (ha : c.args = #[x, y]) (ht : c.argTypes = #[t, t2])
    (hu : P.underlying t = some (.slice e)) {i : TypeInfo} {z : T} {n : Nat} (hn : tySz P e = some n) (hi : P.info? e = some i) (hz : zeroOf P e = some z) (hn0 : 0 < n)
    {id cur : Nat} {tx ux t' : T} {p q : Nat} (hs : st.s[id]? = some (.row cur n)) (hx : VV U κ st.s w (.row id cur tx) (a.eval x)) (hy : SrcT P w (okOf U κ) t2 n (a.eval y) q ux)
    (happ : appT tx ux = some t') (hlx : tx.len = some p) (hly : ux.len = some q) (hke : kindE n tx) (hke' : kindE n ux)
    (hsum : p + q ≤ 9223372036854775807) (hby : (p + q) * i.bytes ≤ 140737488355328) {obs : List Prop} : OpOk P U κ st.s a w o ⟨.row id (cur + 1) t', st.s.set id (.row (cur + 1) n), obs⟩ := by
  have hx1 := Vc_one_cell (VV_one hx rfl) rfl
  obtain ⟨iz, zv, z1, z2, z3, z4⟩ := zeroOf_spec (w := w) (ok := okOf U κ) hz
  have hiz : iz = i := by rw [hi] at z1; injection z1 with z1; exact z1.symm
  subst hiz
  have hin : iz.size = n := by unfold tySz at hn; rw [hi] at hn; simpa using hn
  generalize hex : a.eval x = vx at hx1
  cases hx1 with
  | row r1 r2 r3 r4 =>
    rename_i base m cap cur' e0
    rw [hs] at r2; injection r2 with r2; injection r2 with r2 r2'
    subst r2 r2'
    have htx : tx.isAgg = false := by cases tx <;> first | rfl | exact hke.elim
    obtain ⟨base1, cap1, cs, b1, b2, b3, b4, _⟩ := slice_parts (.of_cells r1 htx) hlx hke
    injection b1 with b11 b12 b13
    subst b11 b12 b13
    obtain ⟨ds, d2, d4⟩ := hy.src
    have hcsl : cs.length = m * n := b2.1
    have hdsl : ds.length = q * n := d2.len
    have hlen := app_len (w := w) (ok := okOf U κ) happ hlx hly
    have hκid : ∃ pl, κ[id]? = some pl := ⟨κ[id]'(by have := getElem?_lt hs; rw [h.store.len]; exact this), List.getElem?_eq_getElem _⟩
    have htail : m + q ≤ cap → ∀ bk o', base = some ⟨bk, o', none⟩ → ∀ j, j < ds.length → (w.cell? ⟨bk, o' + m * n + j, none⟩).isSome = true ∧ w.frozen? ⟨bk, o' + m * n + j, none⟩ = false := by
      intro hle bk o' hb j hj
      rcases r4 rfl with hcap | ⟨pl, o2, p1, p2, p3, p4, p5⟩
      · have : q = 0 := by omega
        rw [this, Nat.zero_mul] at hdsl; omega
      · rw [hb] at p3; injection p3 with p3; injection p3 with p31 p32
        subst p31 p32
        obtain ⟨_, g2⟩ := h.store.obj id _ pl hs p1 p2
        have hmul : (m + q) * n ≤ cap * n := Nat.mul_le_mul_right _ hle
        rw [Nat.add_mul] at hmul
        have := g2 (o' + m * n + j) (by omega) (by omega)
        exact ⟨this.1, this.2.1⟩
    have hbad : m + q ≤ cap → (∃ bk o', base = some ⟨bk, o', none⟩) ∨ q = 0 := by
      intro hle
      rcases r4 rfl with hcap | ⟨pl, o2, p1, p2, p3, p4, p5⟩
      · exact .inr (by omega)
      · exact .inl ⟨_, _, p3⟩
    rcases run_appendB (P := P) (w := w) (oty := o.type) hu hi z2 hsum hby (by rw [hin]; exact b2) (by rw [hin]; exact d2) hbad (by rw [hin]; exact htail) with ⟨hle, hrun⟩ | ⟨newCap, hle, hrun⟩
    · have hrun' := eval_append (P := P) (w := w) (a := a) ho hc ha ht (by rw [hex]; exact hrun)
      have still : ds = [] → (base = none ∨ cap = m) → OpOk P U κ st.s a w o ⟨.row id (cur + 1) t', st.s.set id (.row (cur + 1) n), obs⟩ := by
        intro hd hb
        subst hd
        have hq : q = 0 := by
          rcases Nat.mul_eq_zero.1 hdsl.symm with k | k
          · exact k
          · omega
        subst hq
        obtain ⟨pl, hpl⟩ := hκid
        have hset : κ.set id pl = κ := by
          apply List.ext_getElem?
          intro j
          by_cases hj : id = j
          · subst hj; rw [List.getElem?_set_self (getElem?_lt hpl), hpl]
          · rw [List.getElem?_set_ne hj]
        have hR := h.store.setRow hs pl (w' := w) (by rw [hset]; exact .refl _ _) (Nat.le_refl _) (fun i o' p hi' _ hpk hpon => ⟨rfl, fun hon => h.store.apart i id p pl hpk hpl hi' hpon hon⟩) (fun hon => h.store.obj id _ pl hs hpl hon) (fun hon => h.store.mine pl (List.mem_of_getElem? hpl) hon)
        rw [hset] at hR
        have hin0 : inPlace w base (m * iz.size) [] = w := by cases base <;> rfl
        rw [hin0] at hrun'
        refine ⟨_, w, κ, hrun', .inl ⟨_, rfl, ?_⟩, hR, .refl _ _ _, by have := Ext.setRow (κ := κ) hs pl; rwa [hset] at this⟩
        · have hap : ElemsC w (okOf U κ) n t' (cs ++ []) := app_elems happ b4 d4
          have htc : Tc w (okOf U κ) t' [.slice base (m + 0) cap] := by
            rcases b2.2.2 with ⟨h0, hc0⟩ | ⟨b, o', rfl, hm⟩
            · subst h0; exact hlen.2.2.1 rfl _ _ hc0
            · exact elems_slice hap hlen.1 (by omega) hlen.2.1 (by simpa using hm)
          refine VV_of1 (VV1_of_cell (.row (cur := cur + 1) (e := n) htc (by rw [List.getElem?_set_self (getElem?_lt hs)]) (Nat.le_refl _) (fun _ => .inl ?_)) rfl)
          rcases hb with hb | hb
          · rcases b2.2.2 with ⟨h0, hc0⟩ | ⟨b, o', hb2, _⟩
            · have := hc0 hb; omega
            · rw [hb] at hb2; cases hb2
          · omega
      rcases r4 rfl with hcap | ⟨pl, o2, p1, p2, p3, p4, p5⟩
      · have hq : q = 0 := by omega
        subst hq
        exact still (List.eq_nil_of_length_eq_zero (by simpa using hdsl)) (.inr hcap)
      · subst p3
        have hmul : (m + q) * n ≤ cap * n := Nat.mul_le_mul_right _ hle
        rw [Nat.add_mul] at hmul
        obtain ⟨g1, g2, g3, g4⟩ := h.store.rowGrow (us := ds) hs p1 p2 (by omega)
        have he := Ext.setRow (κ := κ) hs (⟨pl.blk, pl.lo + ds.length, pl.hi, true⟩ : Place)
        have hin1 : inPlace w (some ⟨pl.blk, o2, none⟩) (m * iz.size) ds = w.setCells pl.blk pl.lo ds := by simp only [inPlace, hin]; rw [← p4]
        rw [hin1] at hrun'
        refine ⟨_, _, κ.set id ⟨pl.blk, pl.lo + ds.length, pl.hi, true⟩, hrun', .inl ⟨_, rfl, ?_⟩, g1, g2, he⟩
        · have hap : ElemsC (w.setCells pl.blk pl.lo ds) (okOf U (κ.set id ⟨pl.blk, pl.lo + ds.length, pl.hi, true⟩)) n t' (cs ++ ds) := app_elems happ (b4.pres g2.pres) (d4.pres g2.pres)
          have htc := elems_slice (b := pl.blk) (o := o2) hap hlen.1 hle hlen.2.1 (fun j v hj => by
            rcases Nat.lt_or_ge j cs.length with hlt | hge
            · rw [List.getElem?_append_left hlt] at hj
              rcases b2.2.2 with ⟨hb, _⟩ | ⟨b, o', hb, hm⟩
              · rw [hb, Nat.zero_mul] at hcsl; omega
              · injection hb with hb; injection hb with hb1 hb2
                subst hb1 hb2
                exact g2.pres _ _ _ (hm j v hj).1 (hm j v hj).2
            · rw [List.getElem?_append_right hge] at hj
              have := g3 _ _ hj
              rw [show o2 + j = pl.lo + (j - cs.length) by omega]
              exact this)
          refine VV_of1 (VV1_of_cell (.row (cur := cur + 1) (e := n) htc (by rw [List.getElem?_set_self (getElem?_lt hs)]) (Nat.le_refl _) (fun _ => .inr ⟨⟨pl.blk, pl.lo + ds.length, pl.hi, true⟩, o2, by rw [List.getElem?_set_self (getElem?_lt p1)], rfl, rfl, ?_, p5⟩)) rfl)
          simp only [hdsl, p4, Nat.add_mul]
          omega
    · have hrun' := eval_append (P := P) (w := w) (a := a) ho hc ha ht (by rw [hex]; exact hrun)
      obtain ⟨g1, g2, g3⟩ := h.store.rowMove hs (cs.toArray ++ ds.toArray ++ Builtin.zeroCells zv.cells (newCap - (m + q))) e ((m + q) * n)
      have hzl : zv.cells.size = n := by have := z3.1.len; rw [z4, hin] at this; simpa using this
      have hsz : (cs.toArray ++ ds.toArray ++ Builtin.zeroCells zv.cells (newCap - (m + q))).size = newCap * n := by
        simp only [Array.size_append, List.size_toArray, size_zeroCells, hzl, hcsl, hdsl, ← Nat.add_mul]
        congr 1; omega
      simp only [hsz] at g1 g2 g3
      refine ⟨_, _, _, hrun', .inl ⟨_, rfl, ?_⟩, g1, g2, Ext.setRow hs _⟩
      have hap := app_elems happ (b4.pres g2.pres) (d4.pres g2.pres)
      have htc := elems_slice (b := w.heap.size) (o := 0) hap hlen.1 hle hlen.2.1 (fun j v hj => by
        have hjl := getElem?_lt hj
        rw [Nat.zero_add, cell_drewAlloc]
        refine ⟨?_, g3 j (by rw [List.length_append, hcsl, hdsl, ← Nat.add_mul] at hjl; exact hjl)⟩
        rw [Array.getElem?_append_left (by simpa using hjl)]
        simpa using hj)
      refine VV_of1 (VV1_of_cell (.row (cur := cur + 1) (e := n) htc (by rw [List.getElem?_set_self (getElem?_lt hs)]) (Nat.le_refl _) (fun _ => .inr ⟨⟨w.heap.size, (m + q) * n, newCap * n, true⟩, 0, ?_, rfl, rfl, by simp, by simp⟩)) rfl)
      obtain ⟨pl, hpl⟩ := hκid
      rw [List.getElem?_set_self (getElem?_lt hpl)]


/-- Onto a slice that is full: a row is made. -/
theorem append_full {st : St} {a : Act} (h : Rel U κ st a w) {o : Oper} {c : Call} {x y : Operand} {t t2 e : TypeId} (ho : o.op = .call c) (hc : c.callee = .builtin .append) (ha : c.args = #[x, y]) (ht : c.argTypes = #[t, t2])
    (hu : P.underlying t = some (.slice e)) {i : TypeInfo} {z : T} {n : Nat} (hn : tySz P e = some n) (hi : P.info? e = some i) (hz : zeroOf P e = some z) (hn0 : 0 < n)
    {tx ux t' : T} {p q : Nat} (hx : VV U κ st.s w (.p tx) (a.eval x)) (hfull : isX tx = true) (hy : SrcT P w (okOf U κ) t2 n (a.eval y) q ux)
    (happ : appT tx ux = some t') (hlx : tx.len = some p) (hly : ux.len = some q) (hke : kindE n tx) (hke' : kindE n ux)
    (hsum : p + q ≤ 9223372036854775807) (hby : (p + q) * i.bytes ≤ 140737488355328) {obs : List Prop} : OpOk P U κ st.s a w o ⟨.row st.s.length 0 t', st.s ++ [.row 0 n], obs⟩ := by
  have hx1 := VV_p hx
  obtain ⟨iz, zv, z1, z2, z3, z4⟩ := zeroOf_spec (w := w) (ok := okOf U κ) hz
  have hiz : iz = i := by rw [hi] at z1; injection z1 with z1; exact z1.symm
  subst hiz
  have hin : iz.size = n := by unfold tySz at hn; rw [hi] at hn; simpa using hn
  obtain ⟨base, cap, cs, b1, b2, b3, b4, b5⟩ := slice_parts hx1 hlx hke
  have hcap := b5 hfull
  subst hcap
  obtain ⟨ds, d2, d4⟩ := hy.src
  have hcsl : cs.length = cap * n := b2.1
  have hdsl : ds.length = q * n := d2.len
  have hlen := app_len (w := w) (ok := okOf U κ) happ hlx hly
  have htail : cap + q ≤ cap → ∀ bk o', base = some ⟨bk, o', none⟩ → ∀ j, j < ds.length → (w.cell? ⟨bk, o' + cap * n + j, none⟩).isSome = true ∧ w.frozen? ⟨bk, o' + cap * n + j, none⟩ = false := by
    intro hle bk o' hb j hj
    have : q = 0 := by omega
    rw [this, Nat.zero_mul] at hdsl; omega
  rcases run_appendB (P := P) (w := w) (oty := o.type) hu hi z2 hsum hby (by rw [hin]; exact b2) (by rw [hin]; exact d2) (fun hle => .inr (by omega)) (by rw [hin]; exact htail) with ⟨hle, hrun⟩ | ⟨newCap, hle, hrun⟩
  · have hrun' := eval_append (P := P) (w := w) (a := a) ho hc ha ht (by rw [b1]; exact hrun)
    have hq : q = 0 := by omega
    subst hq
    have hd : ds = [] := List.eq_nil_of_length_eq_zero (by rw [hdsl, Nat.zero_mul])
    subst hd
    have hin0 : inPlace w base (cap * iz.size) [] = w := by cases base <;> rfl
    rw [hin0] at hrun'
    obtain ⟨g1, g2⟩ := h.store.rowOff n
    refine ⟨_, w, _, hrun', .inl ⟨_, rfl, ?_⟩, g1, g2, Ext.append h.store.len _ _⟩
    have hap : ElemsC w (okOf U (κ ++ [⟨0, 0, 0, false⟩])) n t' (cs ++ []) := app_elems happ (b4.pres g2.pres) (d4.pres g2.pres)
    have htc : Tc w (okOf U (κ ++ [⟨0, 0, 0, false⟩])) t' [.slice base (cap + 0) cap] := by
      rcases b2.2.2 with ⟨h0, hc0⟩ | ⟨b, o', rfl, hm⟩
      · subst h0; exact (hlen.2.2.1 rfl _ _ hc0).pres g2.pres
      · exact elems_slice hap hlen.1 (by omega) hlen.2.1 (fun j v hj => g2.pres _ _ _ (hm j v (by simpa using hj)).1 (hm j v (by simpa using hj)).2)
    exact VV_of1 (VV1_of_cell (.row (cur := 0) (e := n) htc (by simp) (Nat.le_refl _) (fun _ => .inl rfl)) rfl)
  · have hrun' := eval_append (P := P) (w := w) (a := a) ho hc ha ht (by rw [b1]; exact hrun)
    have hzl : zv.cells.size = n := by have := z3.1.len; rw [z4, hin] at this; simpa using this
    have hsz : (cs.toArray ++ ds.toArray ++ Builtin.zeroCells zv.cells (newCap - (cap + q))).size = newCap * n := by
      simp only [Array.size_append, List.size_toArray, size_zeroCells, hzl, hcsl, hdsl, ← Nat.add_mul]
      congr 1; omega
    obtain ⟨g1, g2, g3⟩ := h.store.rowNew (cs.toArray ++ ds.toArray ++ Builtin.zeroCells zv.cells (newCap - (cap + q))) e ((cap + q) * n) n
    simp only [hsz] at g1 g2 g3
    refine ⟨_, _, _, hrun', .inl ⟨_, rfl, ?_⟩, g1, g2, Ext.append h.store.len _ _⟩
    have hap := app_elems happ (b4.pres g2.pres) (d4.pres g2.pres)
    have htc := elems_slice (b := w.heap.size) (o := 0) hap hlen.1 hle hlen.2.1 (fun j v hj => by
      have hjl := getElem?_lt hj
      rw [Nat.zero_add, cell_drewAlloc]
      refine ⟨?_, g3 j (by rw [List.length_append, hcsl, hdsl, ← Nat.add_mul] at hjl; exact hjl)⟩
      rw [Array.getElem?_append_left (by simpa using hjl)]
      simpa using hj)
    refine VV_of1 (VV1_of_cell (.row (cur := 0) (e := n) htc (by simp) (Nat.le_refl _) (fun _ => .inr ⟨⟨w.heap.size, (cap + q) * n, newCap * n, true⟩, 0, ?_, rfl, rfl, by simp, by simp⟩)) rfl)
    rw [← h.store.len]; simp

end Go.HM
