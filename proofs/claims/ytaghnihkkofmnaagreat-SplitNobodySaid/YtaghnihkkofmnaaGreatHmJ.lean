/- HM, part J: stores, addresses, parts, moves, calls of builtins that only look. -/
import Derived.Test.YtaghnihkkofmnaaGreatHmI
namespace Go.HM

variable {P : Program} {U : Nat → Nat → Prop} {κ : List Place} {s : List SObj} {w : World} {ok : Nat → Nat → Prop}

theorem setCell_block {b o : Nat} {v : Value} {cells : Array Value} {e : TypeId} {fr : Nat × Nat} (h : w.heap[b]? = some (.cells cells e fr)) :
    (w.setCell ⟨b, o, none⟩ v).heap[b]? = some (.cells (cells.setIfInBounds o v) e fr) := by
  simp [World.setCell, Array.getElem?_modify, h]

theorem setCell_other_block {b o k : Nat} {v : Value} (h : k ≠ b) : (w.setCell ⟨b, o, none⟩ v).heap[k]? = w.heap[k]? := by
  simp only [World.setCell, Array.getElem?_modify]; rw [if_neg (by omega)]

theorem setCells_rest (b : Nat) : ∀ (vs : List Value) (o : Nat) (w : World), (w.setCells b o vs).os = w.os ∧ (w.setCells b o vs).tape = w.tape ∧ (w.setCells b o vs).output = w.output ∧ (w.setCells b o vs).heap.size = w.heap.size ∧
    (∀ k, k ≠ b → (w.setCells b o vs).heap[k]? = w.heap[k]?)
  | [], o, w => ⟨rfl, rfl, rfl, rfl, fun _ _ => rfl⟩
  | v :: vs, o, w => by
    obtain ⟨a, b', c, d, e⟩ := setCells_rest b vs (o + 1) (w.setCell ⟨b, o, none⟩ v)
    refine ⟨a, b', c, by rw [World.setCells, d]; simp [World.setCell], fun k hk => ?_⟩
    rw [World.setCells, e k hk, setCell_other_block hk]

theorem setCells_block (b : Nat) (e : TypeId) (fr : Nat × Nat) : ∀ (vs : List Value) (o : Nat) (w : World) (cells : Array Value), w.heap[b]? = some (.cells cells e fr) → o + vs.length ≤ cells.size →
    ∃ cells', (w.setCells b o vs).heap[b]? = some (.cells cells' e fr) ∧ cells'.toList = putCells cells.toList o vs
  | [], o, w, cells, h, hl => ⟨cells, h, by simp [putCells]⟩
  | v :: vs, o, w, cells, h, hl => by
    simp at hl
    obtain ⟨c, h1, h2⟩ := setCells_block b e fr vs (o + 1) (w.setCell ⟨b, o, none⟩ v) _ (setCell_block h) (by simp; omega)
    refine ⟨c, h1, ?_⟩
    rw [h2]
    unfold putCells
    simp only [Array.toList_setIfInBounds]
    have ho : o < cells.toList.length := by simp; omega
    rw [List.set_eq_take_append_cons_drop, if_pos ho]
    have hl2 : (List.take o cells.toList).length = o := by rw [List.length_take]; omega
    have e1 : List.take (o + 1) (List.take o cells.toList ++ v :: List.drop (o + 1) cells.toList) = List.take o cells.toList ++ [v] := by
      rw [List.take_append, List.take_of_length_le (by omega), hl2]; simp
    have e2 : List.drop (o + 1 + vs.length) (List.take o cells.toList ++ v :: List.drop (o + 1) cells.toList) = List.drop (o + (v :: vs).length) cells.toList := by
      rw [drop_append_right (by omega), hl2, show o + 1 + vs.length - o = vs.length + 1 by omega, List.drop_succ_cons, List.drop_drop]
      simp only [List.length_cons]
      rw [show o + 1 + vs.length = o + (vs.length + 1) by omega]
    rw [e1, e2]
    simp

/-- The store behind a write into a box. -/
theorem RelS.setBox (h : RelS U κ s w) {id : Nat} {v v' u : V} {pl : Place} {us : List Value} {k off : Nat} (hs : s[id]? = some (.box v)) (hk : κ[id]? = some pl) (hu : Vc U κ s w u us) (hset : V.set' k v off u = some v') :
    RelS U κ (s.set id (.box v')) (w.setCells pl.blk off us) ∧ Step U κ w κ (w.setCells pl.blk off us) ∧ Ext κ s κ (s.set id (.box v')) ∧
      (∀ j, j < us.length → (w.cell? ⟨pl.blk, off + j, none⟩).isSome = true ∧ w.frozen? ⟨pl.blk, off + j, none⟩ = false) := by
  obtain ⟨hon, hlo, hhi, hlt, cells, elem, h4, h5⟩ := h.boxCells hs hk
  obtain ⟨c1, c2, c3⟩ := V.set_spec hu k v cells.toList off v' h5 hset
  have c3' : off + us.length ≤ cells.size := by simpa using c3
  obtain ⟨fr, h4a, h4b⟩ := h4
  obtain ⟨cells', d1, d2⟩ := setCells_block pl.blk elem fr us off w cells h4a c3'
  have h4 : BoxAt w pl.blk cells elem := ⟨fr, h4a, h4b⟩
  have d3 : BoxAt (w.setCells pl.blk off us) pl.blk cells' elem := ⟨fr, d1, by
    have : cells'.size = cells.size := by
      have := congrArg List.length d2
      simp [putCells] at this
      omega
    rw [this]; exact h4b⟩
  obtain ⟨e1, e2, e3, e4, e5⟩ := setCells_rest pl.blk us off w
  have hsz : cells.size = v.sz := by have := h5.len; simpa using this
  have hidlt : id < s.length := by rcases Nat.lt_or_ge id s.length with q | q; exact q; simp [List.getElem?_eq_none q] at hs
  have hkept : Kept κ w (w.setCells pl.blk off us) := ⟨e1, e2, e3, by omega, fun j _ hn => e5 j (hn pl (List.mem_of_getElem? hk) hon)⟩
  have hpres : Pres w (okOf U κ) (w.setCells pl.blk off us) (okOf U κ) := fun b o y hy ho => by
    refine ⟨?_, ho⟩
    by_cases hb : b = pl.blk
    · subst hb
      exfalso
      rw [h4.cell] at hy
      have : o < cells.size := by rcases Nat.lt_or_ge o cells.size with q | q; exact q; simp [Array.getElem?_eq_none q] at hy
      exact ho.2 pl (List.mem_of_getElem? hk) ⟨rfl, by omega, by omega, hon⟩
    · rw [cell_heap (e5 b hb)]; exact hy
  have hext : Ext κ s κ (s.set id (.box v')) := by
    refine ⟨fun i x p a b => ?_, fun i x p a b => ?_, fun i c e a => ?_, fun i c x a => ?_, fun i ls pd d f n t ps as bd p a b => ?_, fun i p a b => ?_⟩
    · by_cases hi : i = id
      · subst hi; exact ⟨v', p, by simp [hidlt], b, rfl⟩
      · exact ⟨x, p, by rw [List.getElem?_set_ne (Ne.symm hi)]; exact a, b, rfl⟩
    · by_cases hi : i = id
      · subst hi; rw [hs] at a; cases a
      · exact ⟨x, p, by rw [List.getElem?_set_ne (Ne.symm hi)]; exact a, b, rfl⟩
    · by_cases hi : i = id
      · subst hi; rw [hs] at a; cases a
      · exact ⟨c, by rw [List.getElem?_set_ne (Ne.symm hi)]; exact a, Nat.le_refl _, fun _ => rfl⟩
    · by_cases hi : i = id
      · subst hi; rw [hs] at a; cases a
      · exact ⟨c, x, by rw [List.getElem?_set_ne (Ne.symm hi)]; exact a, Nat.le_refl _, fun _ => rfl⟩
    · by_cases hi : i = id
      · subst hi; rw [hs] at a; cases a
      · exact ⟨ls, pd, t, p, by rw [List.getElem?_set_ne (Ne.symm hi)]; exact a, b, rfl⟩
    · by_cases hi : i = id
      · subst hi; rw [hs] at a; cases a
      · exact ⟨p, by rw [List.getElem?_set_ne (Ne.symm hi)]; exact a, b, rfl⟩
  have hstep : Step U κ w κ (w.setCells pl.blk off us) := ⟨hkept, fun p a b => .inl ⟨p, a, b, rfl⟩, hpres⟩
  refine ⟨⟨fun b o hb => h.up b o (by omega), by simp [h.len], fun i o' p a b => ?_, h.apart, fun p a b => by rw [e4]; exact h.below p a b, h.mine, h.glob.pres hpres⟩, hstep, hext, fun j hj => ⟨?_, ?_⟩⟩
  · by_cases hi : i = id
    · subst hi
      rw [hk] at b; injection b with b; subst b
      simp [hidlt] at a
      subst a
      exact ⟨hon, hlo, by rw [c2]; exact hhi, by omega, cells', elem, d3, by rw [d2]; exact c1.ext hpres hext⟩
    · rw [List.getElem?_set_ne (Ne.symm hi)] at a
      have hob := h.obj i o' p a b
      have hne : p.on = true → p.blk ≠ pl.blk := fun hp => h.apart i id p pl b hk hi hp hon
      cases o' with
      | box x =>
        obtain ⟨x0, x1, x2, x3, cs, el, x4, x5⟩ := hob
        exact ⟨x0, x1, x2, by omega, cs, el, x4.of_eq (e5 _ (hne x0)), x5.ext hpres hext⟩
      | row c e =>
        intro x0
        obtain ⟨x3, x4⟩ := hob x0
        exact ⟨by omega, fun q q1 q2 => by rw [cell_heap (e5 _ (hne x0)), frozen_heap (e5 _ (hne x0))]; exact x4 q q1 q2⟩
      | map es =>
        obtain ⟨x0, x3, ents, clock, x4, x5⟩ := hob
        exact ⟨x0, by omega, ents, clock, by rw [e5 _ (hne x0)]; exact x4, x5.pres hpres⟩
      | vec c x =>
        obtain ⟨x0, x1, x3, cs, el, ⟨cs', more, q1, q2⟩, x4, x5⟩ := hob
        exact ⟨x0, x1, by omega, cs, el, ⟨cs', more, q1, q2.ext hpres hext⟩, x4.of_eq (e5 _ (hne x0)), x5⟩
      | dead => exact hob
      | lp ls pd d f n t ps as bd => exact ObjR.lpMove hpres hext (by omega) (fun x0 => e5 _ (hne x0)) hob
      | dfr => exact ObjR.dfrMove (by omega) (fun x0 => e5 _ (hne x0)) hob
  · rw [h4.cell]; simp; omega
  · exact h4.thaw (by omega)

/-- STORE into a box. -/
theorem store_ok {st : St} {a : Act} (h : Rel U κ st a w) {o : Oper} {ty : TypeId} {ax x : Operand} (ho : o.op = .store ty ax x) {id off k : Nat} {v v' u : V} (hx : VV U κ st.s w (.ptr id off) (a.eval ax)) (hu : VV U κ st.s w u (a.eval x)) (hp : okPart u = true)
    (hn : tySz P ty = some u.plain.sz) (hb : st.s[id]? = some (.box v)) (hset : V.set' k v off u.plain = some v') : OpOk P U κ st.s a w o ⟨.bad, st.s.set id (.box v'), []⟩ := by
  obtain ⟨pl, v0, h1, h2, h3⟩ := VV_ptr hx
  have hu1 := plain_spec (VV_one hu hp)
  obtain ⟨r1, r2, r3, r4⟩ := h.store.setBox hb h2 hu1.1 hset
  refine ⟨.skip, _, κ, ?_, .inr ⟨rfl, rfl⟩, r1, r2, r3⟩
  unfold execOp
  simp only [ho, h3]
  refine run_u _ ?_
  have hlen : (a.eval x).cells.size = u.plain.sz := by have := hu1.1.len; simpa using this
  have := run_storeCells_cells (P := P) pl.blk off (a.eval x).cells.toList 0 w (fun j hj => by simpa using (r4 j hj).1) (fun j hj => by simpa using (r4 j hj).2) (fun y hy => hu1.1.one y hy)
  simp only [Instr.storeAt, Instr.sureAddr, Sem.run_bind, Result.andThen, storeVar, run_size hn, hlen, Sem.run_pure]
  simpa using this

theorem move_ok {st : St} {a : Act} (h : Rel U κ st a w) {o : Oper} {x : Operand} (ho : o.op = .move x ∨ o.op = .assign x) {v : V} (hx : VV U κ st.s w v (a.eval x)) : OpOk P U κ st.s a w o ⟨v, st.s, []⟩ := by
  refine OpOk.still h.store (x := a.eval x) ?_ hx
  unfold execOp
  rcases ho with ho | ho <;> simp only [ho] <;> rfl

theorem run_fieldAt {t : TypeId} {fs : Array Field} {f : Nat} {fd : Field} {n b o : Nat} (h1 : P.underlying t = some (.struct fs)) (h2 : fs[f]? = some fd) (h3 : tySz P fd.type = some (n + 1)) :
    (Instr.fieldAt t (.pointer (some ⟨b, o, none⟩)) f).run P w = .ok (.pointer (some ⟨b, o + fd.offset, none⟩)) w := by
  simp [Instr.fieldAt, run_under h1, Result.andThen, h2, Instr.sureAddr, fieldPlace, run_size h3, addr_add]

theorem rp_shift {t : T} {off k : Nat} {x : Value} (h : TV w ok (.rp t off) x) : ∃ b o, x = .pointer (some ⟨b, o + off, none⟩) ∧ ∀ k, TV w ok (.rp t k) (.pointer (some ⟨b, o + k, none⟩)) := by
  have h1 := h.cell rfl
  cases h1 with
  | rp h5 h6 => exact ⟨_, _, rfl, fun k => .of_cells (.rp h5 h6) rfl⟩

theorem VV_ptr_mk {id off off' : Nat} {x : Value} (h : VV U κ s w (.ptr id off) x) : ∃ b, x = .pointer (some ⟨b, off, none⟩) ∧ ∀ k, VV U κ s w (.ptr id k) (.pointer (some ⟨b, k, none⟩)) := by
  obtain ⟨pl, v, h1, h2, h3⟩ := VV_ptr h
  exact ⟨pl.blk, h3, fun k => VV_of1 (VV1_of_cell (.ptr h1 h2) rfl)⟩

theorem fieldAddr_ptr {st : St} {a : Act} (h : Rel U κ st a w) {o : Oper} {ty : TypeId} {x : Operand} {f : Nat} (ho : o.op = .fieldAddr ty x f) {fs : Array Field} {fd : Field} {n id off : Nat} (h1 : P.underlying ty = some (.struct fs)) (h2 : fs[f]? = some fd) (h3 : tySz P fd.type = some (n + 1))
    (hx : VV U κ st.s w (.ptr id off) (a.eval x)) : OpOk P U κ st.s a w o ⟨.ptr id (off + fd.offset), st.s, []⟩ := by
  obtain ⟨b, e, g⟩ := VV_ptr_mk (off' := off) hx
  refine OpOk.still h.store ?_ (g (off + fd.offset))
  unfold execOp
  simp only [ho, e]
  exact run_v _ (run_fieldAt h1 h2 h3)

theorem fieldAddr_rp {st : St} {a : Act} (h : Rel U κ st a w) {o : Oper} {ty : TypeId} {x : Operand} {f : Nat} (ho : o.op = .fieldAddr ty x f) {fs : Array Field} {fd : Field} {n off : Nat} {u : T} (h1 : P.underlying ty = some (.struct fs)) (h2 : fs[f]? = some fd) (h3 : tySz P fd.type = some (n + 1))
    (hx : VV U κ st.s w (.p (.rp u off)) (a.eval x)) : OpOk P U κ st.s a w o ⟨.p (.rp u (off + fd.offset)), st.s, []⟩ := by
  obtain ⟨b, o', e, g⟩ := rp_shift (k := off) (VV_p hx)
  refine OpOk.still h.store ?_ (VV_of (g (off + fd.offset)))
  unfold execOp
  simp only [ho, e]
  exact run_v _ (by rw [run_fieldAt h1 h2 h3, Nat.add_assoc])

theorem run_indexAt_arr {t e : TypeId} {len n b o i : Nat} {k : IntKind} (h1 : P.underlying t = some (.array len e)) (h3 : tySz P e = some n) (hi : i < len) :
    (Instr.indexAt t (.pointer (some ⟨b, o, none⟩)) (.int k (i : Int))).run P w = .ok (.pointer (some ⟨b, o + i * n, none⟩)) w := by
  have h5 : (0 : Int) ≤ (i : Int) ∧ (i : Int) < (len : Int) := by omega
  simp [Instr.indexAt, asIntOf, run_under h1, Result.andThen, Instr.sureAddr, h5, hi, run_size h3, addr_add]

theorem run_indexAt_sl {t e : TypeId} {len cap n b o i : Nat} {k : IntKind} (h1 : P.underlying t = some (.slice e)) (h3 : tySz P e = some n) (hi : i < len) :
    (Instr.indexAt t (.slice (some ⟨b, o, none⟩) len cap) (.int k (i : Int))).run P w = .ok (.pointer (some ⟨b, o + i * n, none⟩)) w := by
  have h5 : (0 : Int) ≤ (i : Int) ∧ (i : Int) < (len : Int) := by omega
  simp [Instr.indexAt, asIntOf, run_under h1, Result.andThen, Instr.sureAddr, h5, hi, run_size h3, addr_add]

/-- The i-th of some trees, by its cells. -/
theorem tcs_nth {e : Nat} : ∀ {ts : List T} {cs : List Value} {i : Nat} {t : T}, Tcs w ok ts cs → (∀ t ∈ ts, t.sz = e) → ts[i]? = some t → Tc w ok t ((cs.drop (i * e)).take e) ∧ i * e + e ≤ cs.length
  | [], cs, i, t, h, hn, hi => by simp at hi
  | t0 :: ts, _, 0, t, h, hn, hi => by
    cases h with
    | cons h1 h2 =>
      rename_i c1 c2
      simp at hi; subst hi
      have hl : c1.length = e := by rw [h1.len]; exact hn _ (by simp)
      refine ⟨by simp only [Nat.zero_mul, List.drop_zero]; rw [List.take_append_of_le_length (by omega), List.take_of_length_le (by omega)]; exact h1, by simp; omega⟩
  | t0 :: ts, _, i + 1, t, h, hn, hi => by
    cases h with
    | cons h1 h2 =>
      rename_i c1 c2
      have hl : c1.length = e := by rw [h1.len]; exact hn _ (by simp)
      obtain ⟨a, b⟩ := tcs_nth h2 (fun t ht => hn t (by simp [ht])) (by simpa using hi)
      have he : (i + 1) * e = e + i * e := by rw [Nat.succ_mul]; omega
      refine ⟨by rw [he, drop_append_right (by omega), show e + i * e - c1.length = i * e by omega]; exact a, by simp [he, hl]; omega⟩

/-- What a slice holds. -/
theorem elems_spec {t u : T} {ts : List T} {x : Value} {i : Nat} (h : TV w ok t x) (he : t.elems = some ts) (hi : ts[i]? = some u) (hn : u.sz ≠ 0) :
    ∃ b o len cap, x = .slice (some ⟨b, o, none⟩) len cap ∧ i < len ∧ TV w ok (.rp u 0) (.pointer (some ⟨b, o + i * u.sz, none⟩)) := by
  cases t <;> simp [T.elems] at he
  · rename_i xf bs
    subst he
    have h1 := h.cell rfl
    cases h1 with
    | blnil => simp at hi
    | bl0 _ => simp at hi
    | bl a b c d =>
      rename_i b' o n cap
      simp only [List.getElem?_map, Option.map_eq_some_iff] at hi
      obtain ⟨v, hv, rfl⟩ := hi
      have hlt : i < bs.length := by rcases Nat.lt_or_ge i bs.length with q | q; exact q; simp [List.getElem?_eq_none q] at hv
      refine ⟨_, _, _, _, rfl, by omega, .of_cells (.rp (cs := [.int .u8 v]) (.int _ _) (fun j y hj => ?_)) rfl⟩
      cases j with
      | zero => simp at hj; subst hj; simpa [T.sz, byteV] using d i v hv
      | succ j => simp at hj
  · rename_i xf e ts'
    subst he
    have h1 := h.cell rfl
    cases h1 with
    | lstnil => simp at hi
    | lst0 _ => simp at hi
    | lst a b c d f g =>
      rename_i cs b' o n cap
      obtain ⟨p, q⟩ := tcs_nth f d hi
      have hlt : i < ts'.length := by rcases Nat.lt_or_ge i ts'.length with q | q; exact q; simp [List.getElem?_eq_none q] at hi
      have hsz : u.sz = e := d u (List.mem_of_getElem? hi)
      refine ⟨_, _, _, _, rfl, by omega, .of_cells (.rp (o := o + i * u.sz) p (fun j y hj => ?_)) rfl⟩
      have := g _ _ (drop_take_get _ _ _ _ _ hj)
      rw [hsz, show o + i * e + j = o + (i * e + j) by omega]; exact this

theorem slice?_spec {v : V} {t : T} {x : Value} (h : v.slice? = some t) (hv : VV U κ s w v x) : TV w (okOf U κ) t x := by
  cases v with
  | p u =>
    cases u with
    | sl b u =>
      simp only [V.slice?, Option.some.injEq] at h
      subst h
      have h1 := (VV_p hv).cell rfl
      cases h1 with | sl q1 q2 q3 => exact .of_cells q1 q3
    | _ => simp only [V.slice?, Option.some.injEq] at h; subst h; exact VV_p hv
  | row id ver u =>
    have h1 := Vc_one_cell (VV_one hv rfl) rfl
    cases u <;> simp [V.slice?] at h
    · subst h; cases h1 with | row a _ _ _ => exact .of_cells a rfl
    · subst h; cases h1 with | row a _ _ _ => exact .of_cells a rfl
  | _ => simp [V.slice?] at h

theorem indexAddr_sl {st : St} {a : Act} (h : Rel U κ st a w) {o : Oper} {ty e : TypeId} {x ix : Operand} (ho : o.op = .indexAddr ty x ix) {v : V} {t u : T} {ts : List T} {n : Nat} {k : IntKind} {i : Int} {obs : List Prop} (h1 : P.underlying ty = some (.slice e)) (h3 : tySz P e = some (n + 1))
    (hx : VV U κ st.s w v (a.eval x)) (hi : VV U κ st.s w (.p (.int k i)) (a.eval ix)) (hs : v.slice? = some t) (he : t.elems = some ts) (hu : u.sz = n + 1) (hob : 0 ≤ i ∧ ts[i.toNat]? = some u) : OpOk P U κ st.s a w o ⟨.p (.rp u 0), st.s, obs⟩ := by
  obtain ⟨b, o', len, cap, e1, e2, e3⟩ := elems_spec (slice?_spec hs hx) he hob.2 (by omega)
  refine OpOk.still h.store ?_ (VV_of e3)
  unfold execOp
  have hi' := TV_int (VV_p hi)
  simp only [ho, e1, hi']
  obtain ⟨j, hj⟩ := Int.eq_ofNat_of_zero_le hob.1
  subst hj
  exact run_v _ (by rw [hu]; exact run_indexAt_sl h1 h3 (by simpa using e2))

theorem indexAddr_ptr {st : St} {a : Act} (h : Rel U κ st a w) {o : Oper} {ty e : TypeId} {x ix : Operand} (ho : o.op = .indexAddr ty x ix) {n len id off j : Nat} {k : IntKind} {i : Int} (h1 : P.underlying ty = some (.array len e)) (h3 : tySz P e = some (n + 1))
    (hx : VV U κ st.s w (.ptr id off) (a.eval x)) (hi : VV U κ st.s w (.p (.int k i)) (a.eval ix)) (hj : i = j) (hlt : j < len) : OpOk P U κ st.s a w o ⟨.ptr id (off + j * (n + 1)), st.s, []⟩ := by
  obtain ⟨b, e', g⟩ := VV_ptr_mk (off' := off) hx
  refine OpOk.still h.store ?_ (g (off + j * (n + 1)))
  unfold execOp
  have hi' := TV_int (VV_p hi)
  subst hj
  simp only [ho, e', hi']
  exact run_v _ (run_indexAt_arr h1 h3 hlt)

theorem indexAddr_rp {st : St} {a : Act} (h : Rel U κ st a w) {o : Oper} {ty e : TypeId} {x ix : Operand} (ho : o.op = .indexAddr ty x ix) {n len off j : Nat} {u : T} {k : IntKind} {i : Int} (h1 : P.underlying ty = some (.array len e)) (h3 : tySz P e = some (n + 1))
    (hx : VV U κ st.s w (.p (.rp u off)) (a.eval x)) (hi : VV U κ st.s w (.p (.int k i)) (a.eval ix)) (hj : i = j) (hlt : j < len) : OpOk P U κ st.s a w o ⟨.p (.rp u (off + j * (n + 1))), st.s, []⟩ := by
  obtain ⟨b, o', e', g⟩ := rp_shift (k := off) (VV_p hx)
  refine OpOk.still h.store ?_ (VV_of (g (off + j * (n + 1))))
  unfold execOp
  have hi' := TV_int (VV_p hi)
  subst hj
  simp only [ho, e', hi']
  exact run_v _ (by rw [run_indexAt_arr h1 h3 hlt, Nat.add_assoc])

end Go.HM
