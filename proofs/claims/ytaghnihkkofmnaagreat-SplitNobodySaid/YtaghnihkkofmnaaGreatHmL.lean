/- HM, part L: slices made in one, fields, choices, equality, len. -/
import Derived.Test.YtaghnihkkofmnaaGreatHmK
namespace Go.HM

variable {P : Program} {U : Nat → Nat → Prop} {κ : List Place} {s : List SObj} {w : World} {ok : Nat → Nat → Prop}

theorem range_mod (zc : List Value) (hn : 0 < zc.length) : ∀ len : Nat, (List.range (len * zc.length)).map (fun i => zc[i % zc.length]!) = (List.replicate len zc).flatten
  | 0 => by simp
  | len + 1 => by
    rw [show (len + 1) * zc.length = zc.length + len * zc.length by rw [Nat.succ_mul]; omega, List.range_add, List.map_append, List.replicate_succ, List.flatten_cons, ← range_mod zc hn len]
    congr 1
    · apply List.ext_getElem (by simp)
      intro i h1 h2
      simp at h1
      simp [Nat.mod_eq_of_lt h1, h1]
    · simp [List.map_map, Function.comp_def]

theorem vcs_replicate {v : V} {cs : List Value} (h : Vc U κ s w v cs) : ∀ n : Nat, Vcs U κ s w (List.replicate n v) (List.replicate n cs).flatten
  | 0 => by simpa using Vcs.nil
  | n + 1 => by simp only [List.replicate_succ, List.flatten_cons]; exact .cons h (vcs_replicate h n)

theorem setIdx_keep : ∀ {vs : List V} {i off : Nat} {u : V} {vs' : List V} {n : Nat}, setIdx vs i off u = some vs' → vs'.length = vs.length ∧ ((∀ v ∈ vs, v.sz = n) → ∀ v ∈ vs', v.sz = n)
  | [], _, _, _, _, _, h => by simp [setIdx] at h
  | v :: vs, 0, off, u, vs', n, h => by
    simp only [setIdx] at h
    split at h
    · rename_i hc
      simp only [Bool.and_eq_true, beq_iff_eq] at hc
      injection h with h; subst h
      refine ⟨rfl, fun hn x hx => ?_⟩
      rcases List.mem_cons.1 hx with rfl | hx
      · rw [← hc.1.2]; exact hn _ (by simp)
      · exact hn x (by simp [hx])
    · cases h
  | v :: vs, i + 1, off, u, vs', n, h => by
    simp only [setIdx] at h
    split at h
    · simp only [Option.map_eq_some_iff] at h
      obtain ⟨vs2, a, rfl⟩ := h
      obtain ⟨b, c⟩ := setIdx_keep (n := n) a
      refine ⟨by simp [b], fun hn x hx => ?_⟩
      rcases List.mem_cons.1 hx with rfl | hx
      · exact hn _ (by simp)
      · exact c (fun y hy => hn y (by simp [hy])) x hx
    · cases h

theorem setParts_keep {places : Nat → Option (TypeId × Nat × Nat)} {ev : TypeId → Operand → Option V} {n : Nat} : ∀ {parts : List (Nat × Operand)} {vs vs' : List V}, setParts places ev vs parts = some vs' → vs'.length = vs.length ∧ ((∀ v ∈ vs, v.sz = n) → ∀ v ∈ vs', v.sz = n)
  | [], vs, vs', h => by simp [setParts] at h; subst h; exact ⟨rfl, id⟩
  | (i, x) :: r, vs, vs', h => by
    simp only [setParts] at h
    split at h
    · split at h
      · split at h
        · split at h
          · rename_i vs2 h2
            obtain ⟨a, b⟩ := setIdx_keep (n := n) h2
            obtain ⟨c, d⟩ := setParts_keep (n := n) h
            exact ⟨c.trans a, fun hn => d (b hn)⟩
          · cases h
        · cases h
      · cases h
    · cases h

theorem allBytes_spec : ∀ {vs : List V} {bs : List Int} {cs : List Value}, allBytes vs = some bs → Vcs U κ s w vs cs → cs = bs.map byteV ∧ bs.length = vs.length
  | [], bs, cs, h, hv => by simp [allBytes] at h; subst h; cases hv; exact ⟨rfl, rfl⟩
  | v :: vs, bs, cs, h, hv => by
    unfold allBytes at h
    split at h
    · rename_i e; cases e
    · rename_i b vs' e
      injection e with e1 e2
      subst e1 e2
      simp only [Option.map_eq_some_iff] at h
      obtain ⟨bs', a, rfl⟩ := h
      cases hv with
      | cons h1 h2 =>
        cases h1 with | p h1 => cases h1; obtain ⟨p, q⟩ := allBytes_spec a h2; exact ⟨by simp [p, byteV], by simp [q]⟩
    · cases h

theorem allP_keep : ∀ {vs : List V} {ts : List T} {n : Nat}, allP vs = some ts → ts.length = vs.length ∧ ((∀ v ∈ vs, v.sz = n) → ∀ t ∈ ts, t.sz = n)
  | [], ts, n, h => by simp [allP] at h; subst h; simp
  | v :: vs, ts, n, h => by
    unfold allP at h
    split at h
    · rename_i e; cases e
    · rename_i t vs' e
      injection e with e1 e2
      subst e1 e2
      split at h
      · rename_i ts' e3
        injection h with h; subst h
        obtain ⟨a, b⟩ := allP_keep (n := n) e3
        refine ⟨by simp [a], fun hn t' ht' => ?_⟩
        rcases List.mem_cons.1 ht' with rfl | ht'
        · exact hn (.p t') (by simp)
        · exact b (fun x hx => hn x (by simp [hx])) t' ht'
      · cases h
    · cases h

theorem RelS.okNew (h : RelS U κ s w) (o : Nat) : okOf U κ w.heap.size o :=
  ⟨h.up _ _ (Nat.le_refl _), fun pl hp hh => by have := h.below pl hp hh.2.2.2; have := hh.1; omega⟩

theorem fill_size (place : Nat → Option (Nat × Nat)) : ∀ (parts : List (Nat × Value)) (cs cs' : Array Value), Instr.fill place cs parts = some cs' → cs'.size = cs.size
  | [], cs, cs', h => by simp [Instr.fill] at h; rw [h]
  | (i, v) :: r, cs, cs', h => by
    simp only [Instr.fill] at h
    split at h
    · cases h
    · split at h
      · cases h
      · rw [fill_size place r _ _ h]
        have : ∀ (l : List (Value × Nat)) (off : Nat) (c : Array Value), (l.foldl (fun cs (cj : Value × Nat) => cs.setIfInBounds (off + cj.2) cj.1) c).size = c.size := by
          intro l
          induction l with
          | nil => intros; rfl
          | cons x l ih => intro off c; rw [List.foldl_cons, ih]; simp
        rw [← Array.foldl_toList]
        exact this _ _ _

mutual
theorem toT_sz : ∀ {v : V} {t : T}, v.toT = some t → t.sz = v.sz
  | .p t, u, h => by simp [V.toT] at h; subst h; rfl
  | .rb b, u, h => by simp [V.toT] at h; subst h; rfl
  | .row _ _ (.lst x e ts), u, h => by simp [V.toT] at h; subst h; rfl
  | .row _ _ (.bl x bs), u, h => by simp [V.toT] at h; subst h; rfl
  | .agg vs, u, h => by
    simp only [V.toT] at h
    split at h
    · rename_i ts e
      injection h with h; subst h
      simp only [T.sz, V.sz]; exact toTs_szs e
    · cases h
  | .clo f vs, u, h => by
    simp only [V.toT] at h
    split at h
    · injection h with h; subst h; rfl
    · cases h
  | .ptr _ _, u, h => by simp [V.toT] at h
  | .map _, u, h => by simp [V.toT] at h
  | .view _ _ _, u, h => by simp [V.toT] at h
  | .tup _, u, h => by simp [V.toT] at h
  | .wh _ _ _, u, h => by simp [V.toT] at h
  | .bad, u, h => by simp [V.toT] at h
  | .row _ _ (.int _ _), u, h => by simp [V.toT] at h
  | .row _ _ (.bool _), u, h => by simp [V.toT] at h
  | .row _ _ (.str _), u, h => by simp [V.toT] at h
  | .row _ _ (.flt _ _), u, h => by simp [V.toT] at h
  | .row _ _ (.ba _ _), u, h => by simp [V.toT] at h
  | .row _ _ (.agg _), u, h => by simp [V.toT] at h
  | .row _ _ (.rp _ _), u, h => by simp [V.toT] at h
  | .row _ _ .nilP, u, h => by simp [V.toT] at h
  | .row _ _ .nilM, u, h => by simp [V.toT] at h
  | .row _ _ .nilF, u, h => by simp [V.toT] at h
  | .row _ _ .nilI, u, h => by simp [V.toT] at h
  | .row _ _ (.clo _ _), u, h => by simp [V.toT] at h
  | .row _ _ (.sl _ _), u, h => by simp [V.toT] at h
theorem toTs_szs : ∀ {vs : List V} {ts : List T}, V.toTs vs = some ts → T.szs ts = V.szs vs
  | [], ts, h => by simp [V.toTs] at h; subst h; rfl
  | v :: vs, ts, h => by
    simp only [V.toTs] at h
    split at h
    · rename_i t ts' e1 e2
      injection h with h; subst h
      simp only [T.szs, V.szs, toT_sz e1, toTs_szs e2]
    · cases h
end

theorem toTs_keep : ∀ {vs : List V} {ts : List T} {n : Nat}, V.toTs vs = some ts → ts.length = vs.length ∧ ((∀ v ∈ vs, v.sz = n) → ∀ t ∈ ts, t.sz = n)
  | [], ts, n, h => by simp [V.toTs] at h; subst h; simp
  | v :: vs, ts, n, h => by
    simp only [V.toTs] at h
    split at h
    · rename_i t ts' e1 e2
      injection h with h; subst h
      obtain ⟨a, b⟩ := toTs_keep (n := n) e2
      refine ⟨by simp [a], fun hv t' ht' => ?_⟩
      rcases List.mem_cons.1 ht' with rfl | ht'
      · rw [toT_sz e1]; exact hv v (by simp)
      · exact b (fun v hv' => hv v (by simp [hv'])) t' ht'
    · cases h

/-- A SLICE MADE IN ONE. -/
theorem buildSlice_ok {st : St} {a : Act} (h : Rel U κ st a w) {g : Option (Nat × Bool)} (hg : GuardOk a g) {o : Oper} {ty : TypeId} {len : Nat} {parts : Array (Nat × Operand)} (ho : o.op = .buildSlice ty len parts) {v : V}
    (hv : buildSl P ty len (fun ty x => evalO P st.t g ty x) parts.toList = some v) : OpOk P U κ st.s a w o ⟨v, st.s, []⟩ := by
  unfold buildSl at hv
  split at hv
  · rename_i e hu
    split at hv
    · rename_i z n hz hn
      split at hv
      · rename_i hc
        simp only [Bool.and_eq_true, beq_iff_eq, Nat.ble_eq, Nat.blt_eq] at hc
        obtain ⟨⟨hc1, hc2⟩, hc3⟩ := hc
        obtain ⟨i, z', h1, h2, h3, h4⟩ := zeroOf_spec (w := w) (ok := okOf U κ) hz
        have hzl : z'.cells.toList.length = n := by rw [h3.1.len, hc2]
        split at hv
        · rename_i vs hs
          let start : Array Value := (Array.range (len * n)).map fun i => z'.cells[i % z'.cells.size]!
          have hstart : start.toList = (List.replicate len z'.cells.toList).flatten := by
            rw [← range_mod _ (by omega)]
            simp only [start, Array.toList_map, Array.toList_range, hzl]
            have : z'.cells.size = n := by simpa using hzl
            apply List.map_congr_left
            intro i hi
            have hlt : i % n < z'.cells.size := by rw [this]; exact Nat.mod_lt _ hc3
            simp only [this]
            rw [getElem!_pos z'.cells (i % n) hlt, getElem!_pos z'.cells.toList (i % n) (by simpa using hlt)]
            simp
          obtain ⟨cs', a1, a2⟩ := setParts_spec h hg (cs := start) (by rw [hstart]; exact vcs_replicate (.p h3.1) len) hs
          obtain ⟨k1, k2⟩ := setParts_keep (n := n) hs
          have hrun : (execOp a.eval o).run P w = .ok (.value (.slice (some ⟨w.heap.size, 0, none⟩) len len)) { w with heap := w.heap.push (.cells cs' e) } := by
            unfold execOp
            simp only [ho]
            refine run_v _ ?_
            unfold Instr.buildSlice
            simp only [Sem.run_bind, run_under hu, Result.andThen_ok, run_size hn]
            rw [if_neg (by omega)]
            by_cases hl0 : len * n = 0
            · have : len = 0 := by rcases Nat.mul_eq_zero.1 hl0 with q | q; exact q; omega
              subst this
              simp only [Nat.zero_mul, if_true, Sem.run_pure, Sem.run_bind, Result.andThen_ok]
              have hst : start = #[] := by simp [start]
              rw [hst] at a1
              have a1' : Instr.fill (fun i => some (i * n, n)) (Array.map (fun x => (#[] : Array Value)[x % (#[] : Array Value).size]!) (Array.range 0)) (Array.map (fun x => (x.fst, a.eval x.snd)) parts).toList = some cs' := by
                have e0 : Array.map (fun x => (#[] : Array Value)[x % (#[] : Array Value).size]!) (Array.range 0) = #[] := by simp
                rw [e0]; simpa using a1
              rw [a1']
              simp [newRow, Result.andThen]
            · simp only [hl0, if_false, Sem.run_bind, run_zero h1 h2, Result.andThen_ok, Sem.run_pure]
              have a1' : Instr.fill (fun i => some (i * n, n)) (Array.map (fun x => z'.cells[x % z'.cells.size]!) (Array.range (len * n))) (Array.map (fun x => (x.fst, a.eval x.snd)) parts).toList = some cs' := by
                simpa [start] using a1
              rw [a1']
              simp [newRow, Result.andThen]
          obtain ⟨r1, r2⟩ := h.pushStill (.cells cs' e)
          refine ⟨_, _, κ, hrun, .inl ⟨_, rfl, ?_⟩, r1.store, r2, .refl _ _⟩
          split at hv
          · simp only [Option.map_eq_some_iff] at hv
            obtain ⟨bs, hb, rfl⟩ := hv
            obtain ⟨p1, p2⟩ := allBytes_spec hb a2
            refine VV_of (.of_cells (.bl (by rw [p2, k1]; simp) (Nat.le_refl _) (fun _ => rfl) (fun j b hj => ?_)) rfl)
            rw [Nat.zero_add, cell_push]
            refine ⟨?_, h.store.okNew j⟩
            have : cs'.toList[j]? = some (byteV b) := by rw [p1]; simp [hj]
            simpa using this
          · simp only [Option.map_eq_some_iff] at hv
            obtain ⟨ts, hb, rfl⟩ := hv
            obtain ⟨p2, p3⟩ := toTs_keep (n := n) hb
            have p1 := (V.toTs_spec hb (a2.ext r2.pres (.refl _ _))).1
            refine VV_of (.of_cells (.lst (by rw [p2, k1]; simp) (Nat.le_refl _) (fun _ => rfl) (p3 (k2 (fun v hv => by rw [(List.mem_replicate.1 hv).2]; exact hc2))) p1 (fun j b hj => ?_)) rfl)
            rw [Nat.zero_add, cell_push]
            exact ⟨by simpa using hj, h.store.okNew j⟩
        · cases hv
      · cases hv
    · cases hv
  · cases hv

theorem buildSlice_box {st : St} {a : Act} (h : Rel U κ st a w) {g : Option (Nat × Bool)} (hg : GuardOk a g) {o : Oper} {ty : TypeId} {len : Nat} {parts : Array (Nat × Operand)} (ho : o.op = .buildSlice ty len parts) {xf : Bool} {bs0 : List Int}
    (hv : buildSl P ty len (fun ty x => evalO P st.t g ty x) parts.toList = some (.p (.bl xf bs0))) : OpOk P U κ st.s a w o ⟨.view st.s.length 0 bs0.length, st.s ++ [.box (.p (.ba bs0.length bs0))], []⟩ := by
  unfold buildSl at hv
  split at hv
  · rename_i e hu
    split at hv
    · rename_i z n hz hn
      split at hv
      · rename_i hc
        simp only [Bool.and_eq_true, beq_iff_eq, Nat.ble_eq, Nat.blt_eq] at hc
        obtain ⟨⟨hc1, hc2⟩, hc3⟩ := hc
        obtain ⟨i, z', h1, h2, h3, h4⟩ := zeroOf_spec (w := w) (ok := okOf U κ) hz
        have hzl : z'.cells.toList.length = n := by rw [h3.1.len, hc2]
        split at hv
        · rename_i vs hs
          let start : Array Value := (Array.range (len * n)).map fun i => z'.cells[i % z'.cells.size]!
          have hstart : start.toList = (List.replicate len z'.cells.toList).flatten := by
            rw [← range_mod _ (by omega)]
            simp only [start, Array.toList_map, Array.toList_range, hzl]
            have : z'.cells.size = n := by simpa using hzl
            apply List.map_congr_left
            intro i hi
            have hlt : i % n < z'.cells.size := by rw [this]; exact Nat.mod_lt _ hc3
            simp only [this]
            rw [getElem!_pos z'.cells (i % n) hlt, getElem!_pos z'.cells.toList (i % n) (by simpa using hlt)]
            simp
          obtain ⟨cs', a1, a2⟩ := setParts_spec h hg (cs := start) (by rw [hstart]; exact vcs_replicate (.p h3.1) len) hs
          obtain ⟨k1, k2⟩ := setParts_keep (n := n) hs
          have hrun : (execOp a.eval o).run P w = .ok (.value (.slice (some ⟨w.heap.size, 0, none⟩) len len)) { w with heap := w.heap.push (.cells cs' e) } := by
            unfold execOp
            simp only [ho]
            refine run_v _ ?_
            unfold Instr.buildSlice
            simp only [Sem.run_bind, run_under hu, Result.andThen_ok, run_size hn]
            rw [if_neg (by omega)]
            by_cases hl0 : len * n = 0
            · have : len = 0 := by rcases Nat.mul_eq_zero.1 hl0 with q | q; exact q; omega
              subst this
              simp only [Nat.zero_mul, if_true, Sem.run_pure, Sem.run_bind, Result.andThen_ok]
              have hst : start = #[] := by simp [start]
              rw [hst] at a1
              have a1' : Instr.fill (fun i => some (i * n, n)) (Array.map (fun x => (#[] : Array Value)[x % (#[] : Array Value).size]!) (Array.range 0)) (Array.map (fun x => (x.fst, a.eval x.snd)) parts).toList = some cs' := by
                have e0 : Array.map (fun x => (#[] : Array Value)[x % (#[] : Array Value).size]!) (Array.range 0) = #[] := by simp
                rw [e0]; simpa using a1
              rw [a1']
              simp [newRow, Result.andThen]
            · simp only [hl0, if_false, Sem.run_bind, run_zero h1 h2, Result.andThen_ok, Sem.run_pure]
              have a1' : Instr.fill (fun i => some (i * n, n)) (Array.map (fun x => z'.cells[x % z'.cells.size]!) (Array.range (len * n))) (Array.map (fun x => (x.fst, a.eval x.snd)) parts).toList = some cs' := by
                simpa [start] using a1
              rw [a1']
              simp [newRow, Result.andThen]
          split at hv
          · simp only [Option.map_eq_some_iff] at hv
            obtain ⟨bs, hb, hv⟩ := hv
            injection hv with hv; injection hv with hv1 hv2
            subst hv2
            obtain ⟨p1, p2⟩ := allBytes_spec hb a2
            have hbl : bs.length = len := by rw [p2, k1]; simp
            have hV : Vc U κ st.s w (.p (.ba bs.length bs)) cs'.toList := .p (by rw [p1]; exact .ba rfl)
            obtain ⟨b1, b2, b3⟩ := h.box e hV
            refine ⟨_, _, _, hrun, .inl ⟨_, rfl, ?_⟩, b1.store, b2, Ext.append h.store.len _ _⟩
            have hw := VV_of1 (VV1_of_cell (Vc.view (U := U) (κ := κ ++ [⟨w.heap.size, 0, (V.p (.ba bs.length bs)).sz, true⟩]) (s := st.s ++ [.box (.p (.ba bs.length bs))]) (w := { w with heap := w.heap.push (.cells cs' e) }) (id := st.s.length) (off := 0) (n := bs.length) (v := .p (.ba bs.length bs)) (pl := ⟨w.heap.size, 0, (V.p (.ba bs.length bs)).sz, true⟩) (by simp) (by simp [← h.store.len])) rfl)
            rw [← hbl]
            exact hw
          · simp only [Option.map_eq_some_iff] at hv
            obtain ⟨ts, hb, hv⟩ := hv
            injection hv with hv; cases hv
        · cases hv
      · cases hv
    · cases hv
  · cases hv

/-- A slice that will be written. -/
theorem buildBx0_ok {st : St} {a : Act} (h : Rel U κ st a w) {o : Oper} {q : OpR} (hq : buildBx0 P st.t st.s o = some q) : OpOk P U κ st.s a w o q ∧ q.obs = [] := by
  have hg : GuardOk a none := fun _ _ e => by cases e
  unfold buildBx0 at hq
  split at hq
  · rename_i ty len parts ho
    split at hq
    · rename_i e hu
      split at hq
      · rename_i z n hz hn
        split at hq
        · rename_i hc
          simp only [Bool.and_eq_true, beq_iff_eq, Nat.ble_eq, Nat.blt_eq] at hc
          obtain ⟨⟨⟨hc1, hc2⟩, hc3⟩, hc4⟩ := hc
          obtain ⟨i, z', h1, h2, h3, h4⟩ := zeroOf_spec (w := w) (ok := okOf U κ) hz
          have hzl : z'.cells.toList.length = n := by rw [h3.1.len, hc2]
          split at hq
          · rename_i vs hs
            let start : Array Value := (Array.range (len * n)).map fun i => z'.cells[i % z'.cells.size]!
            have hstart : start.toList = (List.replicate len z'.cells.toList).flatten := by
              rw [← range_mod _ (by omega)]
              simp only [start, Array.toList_map, Array.toList_range, hzl]
              have : z'.cells.size = n := by simpa using hzl
              apply List.map_congr_left
              intro i hi
              have hlt : i % n < z'.cells.size := by rw [this]; exact Nat.mod_lt _ hc3
              simp only [this]
              rw [getElem!_pos z'.cells (i % n) hlt, getElem!_pos z'.cells.toList (i % n) (by simpa using hlt)]
              simp
            obtain ⟨cs', a1, a2⟩ := setParts_spec h hg (cs := start) (by rw [hstart]; exact vcs_replicate (.p h3.1) len) hs
            obtain ⟨k1, k2⟩ := setParts_keep (n := n) hs
            have hrun : (execOp a.eval o).run P w = .ok (.value (.slice (some ⟨w.heap.size, 0, none⟩) len len)) { w with heap := w.heap.push (.cells cs' e) } := by
              unfold execOp
              simp only [ho]
              refine run_v _ ?_
              unfold Instr.buildSlice
              simp only [Sem.run_bind, run_under hu, Result.andThen_ok, run_size hn]
              rw [if_neg (by omega)]
              by_cases hl0 : len * n = 0
              · have : len = 0 := by rcases Nat.mul_eq_zero.1 hl0 with q | q; exact q; omega
                subst this
                simp only [Nat.zero_mul, if_true, Sem.run_pure, Sem.run_bind, Result.andThen_ok]
                have hst : start = #[] := by simp [start]
                rw [hst] at a1
                have a1' : Instr.fill (fun i => some (i * n, n)) (Array.map (fun x => (#[] : Array Value)[x % (#[] : Array Value).size]!) (Array.range 0)) (Array.map (fun x => (x.fst, a.eval x.snd)) parts).toList = some cs' := by
                  have e0 : Array.map (fun x => (#[] : Array Value)[x % (#[] : Array Value).size]!) (Array.range 0) = #[] := by simp
                  rw [e0]; simpa using a1
                rw [a1']
                simp [newRow, Result.andThen]
              · simp only [hl0, if_false, Sem.run_bind, run_zero h1 h2, Result.andThen_ok, Sem.run_pure]
                have a1' : Instr.fill (fun i => some (i * n, n)) (Array.map (fun x => z'.cells[x % z'.cells.size]!) (Array.range (len * n))) (Array.map (fun x => (x.fst, a.eval x.snd)) parts).toList = some cs' := by
                  simpa [start] using a1
                rw [a1']
                simp [newRow, Result.andThen]
            injection hq with hq; subst hq
            have hV : Vc U κ st.s w (.agg vs) cs'.toList := .agg a2
            obtain ⟨b1, b2, b3⟩ := h.box e hV
            refine ⟨⟨_, _, _, hrun, .inl ⟨_, rfl, ?_⟩, b1.store, b2, Ext.append h.store.len _ _⟩, rfl⟩
            exact VV_of1 (VV1_of_cell (Vc.view (v := .agg vs) (pl := ⟨w.heap.size, 0, (V.agg vs).sz, true⟩) (by simp) (by simp [← h.store.len])) rfl)
          · cases hq
        · cases hq
      · cases hq
    · cases hq
  · cases hq

/-! fields of values -/

theorem run_part {t : TypeId} {n off : Nat} {ag : Bool} {cells : Array Value} {cs : List Value} (hn : tySz P t = some n) (ha : tyAg P t = some ag) (hl : cs.length = n) (h1 : ag = false → n = 1) (hc : (cells.toList.drop off).take n = cs) :
    ∃ x, (part t cells off).run P w = .ok x w ∧ ((ag = true ∧ x = .agg cs.toArray) ∨ (ag = false ∧ cs = [x])) := by
  unfold part
  cases ag with
  | true =>
    refine ⟨.agg cs.toArray, ?_, .inl ⟨rfl, rfl⟩⟩
    simp only [Sem.run_bind, run_isAgg ha, Result.andThen_ok, if_true, run_size hn, Sem.run_pure]
    congr 2
    apply Array.ext'
    simp [← hc, List.drop_take]
  | false =>
    have hn1 := h1 rfl
    obtain ⟨x, rfl⟩ : ∃ x, cs = [x] := by
      cases cs with
      | nil => simp at hl; omega
      | cons x r => cases r with
        | nil => exact ⟨x, rfl⟩
        | cons y r => simp at hl; omega
    refine ⟨x, ?_, .inr ⟨rfl, rfl⟩⟩
    have hx : cells[off]? = some x := by
      have := drop_take_get cells.toList off n 0 x (by rw [hc]; rfl)
      simpa using this
    simp [run_isAgg ha, Result.andThen, hx]

theorem field_ok {st : St} {a : Act} (h : Rel U κ st a w) {o : Oper} {ty : TypeId} {x : Operand} {f : Nat} (ho : o.op = .field ty x f) {fs : Array Field} {fd : Field} {n : Nat} {ag : Bool} {v u : V} (h1 : P.underlying ty = some (.struct fs)) (h2 : fs[f]? = some fd) (hn : tySz P fd.type = some n) (ha : tyAg P fd.type = some ag)
    (hx : VV U κ st.s w v (a.eval x)) (hag : v.isAgg = true) (hu : V.at' v fd.offset n ag = some u) : OpOk P U κ st.s a w o ⟨u, st.s, []⟩ := by
  have hx1 := VV_one hx (by cases v <;> first | rfl | simp [V.isAgg] at hag)
  obtain ⟨c1, c2, c3, c4⟩ := V.at_spec hx1.1 hu
  have hxa := hx1.2
  rw [hag] at hxa
  generalize he : a.eval x = y at hxa hx1 c1 c4
  cases y <;> simp [isAggV] at hxa
  rename_i cells
  simp only [Value.cells] at c1 c4
  obtain ⟨z, hr, hz⟩ := run_part (P := P) (w := w) hn ha (cs := (cells.toList.drop fd.offset).take n) (by simp at c4 ⊢; omega) (fun e => by rw [← c2]; exact V.isAgg_false_sz (by rw [c3, e])) rfl
  refine OpOk.still h.store (x := z) ?_ (VV_of1 (VV1_cells c1 c3 hz))
  unfold execOp
  simp only [ho, he]
  refine run_v _ ?_
  simp [Instr.field, run_under h1, Result.andThen, h2, asAgg, hr]

/-! choices, tuples, function values -/

theorem F2_get {α β : Type} {R : α → β → Prop} : ∀ {l : List α} {m : List β} {i : Nat} {x : α}, F2 R l m → l[i]? = some x → ∃ y, m[i]? = some y ∧ R x y
  | _, _, 0, x, .cons a _, h => ⟨_, rfl, by simp at h; subst h; exact a⟩
  | _, _, i + 1, x, .cons _ b, h => by obtain ⟨y, c, d⟩ := F2_get b (by simpa using h); exact ⟨y, by simpa using c, d⟩
  | _, _, _, _, .nil, h => by simp at h

theorem extract_ok {st : St} {a : Act} (h : Rel U κ st a w) {o : Oper} {x : Operand} {i : Nat} (ho : o.op = .extract x i) {vs : List V} {v : V} (hx : VV U κ st.s w (.tup vs) (a.eval x)) (hv : vs[i]? = some v) : OpOk P U κ st.s a w o ⟨v, st.s, []⟩ := by
  obtain ⟨xs, e, f⟩ := hx
  obtain ⟨y, c, d⟩ := F2_get f hv
  refine OpOk.still h.store (x := y) ?_ (VV_of1 d)
  unfold execOp
  simp only [ho, e]
  exact run_v _ (by simp [Instr.extract, c])

theorem makeFunc_ok {st : St} {a : Act} (h : Rel U κ st a w) {o : Oper} {f : FuncId} {first caps : Array Operand} (ho : o.op = .makeFunc (.func f) first caps) (hf : first = #[]) {g : Option (Nat × Bool)} (hg : GuardOk a g) {vs : List V} (hv : evalOs P st.t g [] caps.toList = some vs) (hp : vs.all (fun v => okPart v && !v.isAgg) = true) :
    OpOk P U κ st.s a w o ⟨.clo f vs, st.s, []⟩ := by
  have hvs := evalOs_spec h hg hv
  have key : ∀ {vs : List V} {xs : List Value}, vs.all (fun v => okPart v && !v.isAgg) = true → F2 (VV U κ st.s w) vs xs → Vcs U κ st.s w vs xs ∧ ∀ v ∈ vs, v.isAgg = false := by
    intro vs
    induction vs with
    | nil => intro xs _ hf; cases hf; exact ⟨.nil, by simp⟩
    | cons v vs ih =>
      intro xs ha hf
      cases hf with
      | cons b c =>
        simp only [List.all_cons, Bool.and_eq_true, Bool.not_eq_true'] at ha
        obtain ⟨p, q⟩ := ih ha.2 c
        refine ⟨Vcs.cons (cs := [_]) (Vc_one_cell (VV_one b ha.1.1) ha.1.2) p, fun v' hv' => ?_⟩
        rcases List.mem_cons.1 hv' with rfl | hv'
        · exact ha.1.2
        · exact q v' hv'
  obtain ⟨p, q⟩ := key hp hvs
  refine OpOk.still h.store (x := .func (.func f) #[] (caps.map a.eval)) ?_ (VV_of1 (VV1_of_cell (by have h9 := Vc.clo (f := f) p q; have h8 : (List.map a.eval caps.toList).toArray = Array.map a.eval caps := (by apply Array.ext'; rw [Array.toList_map]); rw [h8] at h9; exact h9) rfl))
  unfold execOp
  simp only [ho, hf]
  exact run_v _ (by simp [Instr.makeFunc])

theorem nilCheck_ok {st : St} {a : Act} (h : Rel U κ st a w) {o : Oper} {x : Operand} (ho : o.op = .nilCheck x) {v : V} (hx : VV U κ st.s w v (a.eval x))
    (hv : (∃ id off, v = .ptr id off) ∨ (∃ t off, v = .p (.rp t off)) ∨ (∃ f c, v = .p (.clo f c)) ∨ ∃ f c, v = .clo f c) : OpOk P U κ st.s a w o ⟨v, st.s, []⟩ := by
  refine OpOk.still h.store (x := a.eval x) ?_ hx
  unfold execOp
  simp only [ho]
  rcases hv with ⟨id, off, rfl⟩ | ⟨t, off, rfl⟩ | ⟨f, c, rfl⟩ | ⟨f, c, rfl⟩
  · obtain ⟨pl, v, h1, h2, h3⟩ := VV_ptr hx
    rw [h3]; rfl
  · obtain ⟨b, o', e, _⟩ := rp_shift (k := off) (VV_p hx)
    rw [e]; rfl
  · have h1 := (VV_p hx).cell rfl
    generalize a.eval x = y at h1
    cases h1; rfl
  · have h1 := Vc_one_cell (VV_one hx rfl) rfl
    generalize a.eval x = y at h1
    cases h1; rfl

theorem VV_bool {b : Bool} {x : Value} (h : VV U κ s w (.p (.bool b)) x) : x = .bool b := TV_bool (VV_p h)

theorem VV_mkBool (b : Bool) : VV U κ s w (.p (.bool b)) (.bool b) := VV_of (.of_cells (.bool b) rfl)

theorem run_pick {a : Act} {o : Oper} {c x y : Operand} (ho : o.op = .pick c x y) {b : Bool} (hb : a.eval c = .bool b) : (execOp a.eval o).run P w = .ok (.value (if b then a.eval x else a.eval y)) w := by
  unfold execOp
  simp only [ho, hb, asBool]
  cases b <;> rfl

theorem pick_ok {st : St} {a : Act} (h : Rel U κ st a w) {g : Option (Nat × Bool)} (hg : GuardOk a g) {o : Oper} {c x y : Operand} (ho : o.op = .pick c x y) {cv v : V} {d : Nat} (hc : evalO P st.t g o.type c = some cv) (hd : tmpOf c = some d)
    (hv : pickV c cv (evalO P st.t g o.type x) (evalO P st.t g o.type y) (evalO P st.t (some (d, true)) o.type x) (evalO P st.t (some (d, false)) o.type y) = some v) : OpOk P U κ st.s a w o ⟨v, st.s, []⟩ := by
  have hcv := evalO_spec h hg hc
  have hslot : ∀ b, a.eval c = .bool b → GuardOk a (some (d, b)) := by
    intro b hb d' want e
    injection e with e; injection e with e1 e2; subst e1 e2
    cases c <;> simp [tmpOf] at hd
    rw [hd] at hb
    simp only [Act.eval, Array.getD_eq_getD_getElem?] at hb
    cases hq : a.tmps[d]? with
    | none => simp [hq, undef] at hb
    | some q => simp [hq] at hb; rw [hb]
  unfold pickV at hv
  split at hv
  · have := VV_rb hcv
    exact OpOk.still h.store (run_pick ho this) (by simpa using evalO_spec h hg hv)
  · have := VV_rb hcv
    exact OpOk.still h.store (run_pick ho this) (by simpa using evalO_spec h hg hv)
  · rename_i q
    have hb := VV_bool hcv
    have hx : ∀ r, evalO P st.t (some (d, true)) o.type x = some r → q = true → VV U κ st.s w r (a.eval x) := fun r hr hq => evalO_spec h (hslot true (by rw [hb, hq])) hr
    have hy : ∀ r, evalO P st.t (some (d, false)) o.type y = some r → q = false → VV U κ st.s w r (a.eval y) := fun r hr hq => evalO_spec h (hslot false (by rw [hb, hq])) hr
    split at hv <;> first
      | (injection hv with hv; subst hv; rename_i e1 e2
         refine OpOk.still h.store (run_pick ho hb) ?_
         cases q with
         | true => have := hx _ e1 rfl; first | (rw [VV_bool this]; exact VV_mkBool _) | (rw [VV_rb this]; exact VV_mkBool _)
         | false => have := hy _ e2 rfl; first | (rw [if_neg (by simp), VV_bool this]; exact VV_mkBool _) | (rw [if_neg (by simp), VV_rb this]; exact VV_mkBool _))
      | cases hv
  · cases hv

end Go.HM
