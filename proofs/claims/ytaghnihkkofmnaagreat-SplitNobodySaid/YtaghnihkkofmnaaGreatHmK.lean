/- HM, part K: structs and slices made in one, equality. -/
import Derived.Test.YtaghnihkkofmnaaGreatHmJ
import Derived.ChangeKeysEq
import Derived.Laws.Tables
namespace Go.HM

variable {P : Program} {U : Nat → Nat → Prop} {κ : List Place} {s : List SObj} {w : World} {ok : Nat → Nat → Prop}

/-! build -/

theorem foldl_set (us : List Value) : ∀ (off j : Nat) (cs : Array Value), off + j + us.length ≤ cs.size →
    ((us.zipIdx j).foldl (fun cs (cj : Value × Nat) => cs.setIfInBounds (off + cj.2) cj.1) cs).toList = putCells cs.toList (off + j) us := by
  induction us with
  | nil => intro off j cs h; simp [putCells]
  | cons u us ih =>
    intro off j cs h
    simp at h
    rw [List.zipIdx_cons, List.foldl_cons, ih off (j + 1) _ (by simp; omega)]
    have hw := setCells_block 0 0 (0, 0) (u :: us) (off + j) { (default : World) with heap := #[.cells cs 0 (0, 0)] } cs rfl (by simp; omega)
    have hw2 := setCells_block 0 0 (0, 0) us (off + j + 1) (({ (default : World) with heap := #[.cells cs 0 (0, 0)] } : World).setCell ⟨0, off + j, none⟩ u) _ (setCell_block rfl) (by simp; omega)
    obtain ⟨c1, a1, b1⟩ := hw
    obtain ⟨c2, a2, b2⟩ := hw2
    rw [World.setCells, a2] at a1
    simp at a1
    subst a1
    rw [← b1, b2]
    rw [show off + (j + 1) = off + j + 1 by omega]

theorem setIdx_spec {u : V} {us : List Value} (hu : Vc U κ s w u us) : ∀ {vs : List V} {cs : List Value} {i off : Nat} {vs' : List V}, Vcs U κ s w vs cs → setIdx vs i off u = some vs' → Vcs U κ s w vs' (putCells cs off us) ∧ off + us.length ≤ cs.length
  | [], _, _, _, _, _, h => by simp [setIdx] at h
  | v :: vs, _, 0, off, vs', hv, h => by
    cases hv with
    | cons h1 h2 =>
      rename_i c1 c2
      simp only [setIdx] at h
      split at h
      · rename_i hc
        simp only [Bool.and_eq_true, beq_iff_eq] at hc
        obtain ⟨⟨h0, hz⟩, _⟩ := hc
        injection h with h; subst h; subst h0
        have l1 := h1.len
        have l2 := hu.len
        refine ⟨?_, by simp; omega⟩
        rw [putCells_left (by omega), putCells_all (by omega)]
        exact .cons hu h2
      · cases h
  | v :: vs, _, i + 1, off, vs', hv, h => by
    cases hv with
    | cons h1 h2 =>
      rename_i c1 c2
      simp only [setIdx] at h
      split at h
      · rename_i hc
        have hc' : v.sz ≤ off := by simpa [Nat.ble_eq] using hc
        have l1 := h1.len
        simp only [Option.map_eq_some_iff] at h
        obtain ⟨vs2, a, rfl⟩ := h
        rw [← l1] at a hc'
        obtain ⟨b, c⟩ := setIdx_spec hu h2 a
        exact ⟨by rw [putCells_right hc']; exact .cons h1 b, by simp; omega⟩
      · cases h

/-- The parts, laid one by one. -/
theorem setParts_spec {st : St} {a : Act} (h : Rel U κ st a w) {g : Option (Nat × Bool)} (hg : GuardOk a g) {places : Nat → Option (TypeId × Nat × Nat)} : ∀ {parts : List (Nat × Operand)} {vs vs' : List V} {cs : Array Value}, Vcs U κ st.s w vs cs.toList →
    setParts places (fun ty x => evalO P st.t g ty x) vs parts = some vs' →
    ∃ cs', Instr.fill (fun i => (places i).map fun p => (p.2.1, p.2.2)) cs (parts.map fun p => (p.1, a.eval p.2)) = some cs' ∧ Vcs U κ st.s w vs' cs'.toList
  | [], vs, vs', cs, hv, hs => by simp [setParts] at hs; subst hs; exact ⟨cs, rfl, hv⟩
  | (i, x) :: r, vs, vs', cs, hv, hs => by
    simp only [setParts] at hs
    split at hs
    · rename_i ty off n hp
      split at hs
      · rename_i u hu
        split at hs
        · rename_i hc
          simp only [Bool.and_eq_true, beq_iff_eq] at hc
          split at hs
          · rename_i vs2 h2
            have hu1 := plain_spec (VV_one (evalO_spec h hg hu) hc.1)
            have hl : (a.eval x).cells.size = n := by have := hu1.1.len; rw [← hc.2]; simpa using this
            obtain ⟨b, c⟩ := setIdx_spec hu1.1 hv h2
            have c' : off + (a.eval x).cells.size ≤ cs.size := by simpa using c
            simp only [List.map_cons, Instr.fill, hp, Option.map_some]
            rw [if_neg (by simp; omega)]
            refine setParts_spec h hg ?_ hs
            have := foldl_set (a.eval x).cells.toList off 0 cs (by simpa using c')
            simp only [Nat.add_zero] at this
            rw [← Array.foldl_toList, Array.toList_zipIdx, this]
            exact b
          · cases hs
        · cases hs
      · cases hs
    · cases hs

theorem fieldPlaces_spec : ∀ {fs : List Field} {pl : List (TypeId × Nat × Nat)}, fieldPlaces P fs = some pl → fs.mapM (fun f => (P.info? f.type).map fun i => (f.offset, i.size)) = some (pl.map fun p => (p.2.1, p.2.2))
  | [], pl, h => by simp [fieldPlaces] at h; subst h; simp
  | f :: fs, pl, h => by
    simp only [fieldPlaces] at h
    split at h
    · rename_i n r e1 e2
      injection h with h; subst h
      unfold tySz at e1
      split at e1
      · rename_i i e3
        injection e1 with e1
        simp [List.mapM_cons, e3, fieldPlaces_spec e2, e1]
      · cases e1
    · cases h

theorem vcs_of_zero {zs : List T} {x : Value} (h : TV w (okOf U κ) (.agg zs) x) : Vcs U κ s w (zs.map .p) x.cells.toList := by
  cases h.1 with | agg h => exact vcs_ps h

theorem setBytes_spec {st : St} {a : Act} (h : Rel U κ st a w) {g : Option (Nat × Bool)} (hg : GuardOk a g) {e : TypeId} : ∀ {parts : List (Nat × Operand)} {bs bs' : List Int} {cs : Array Value}, cs.toList = bs.map byteV →
    setBytes (fun ty x => evalO P st.t g ty x) e bs parts = some bs' →
    ∃ cs', Instr.fill (fun i => some (i * 1, 1)) cs (parts.map fun p => (p.1, a.eval p.2)) = some cs' ∧ cs'.toList = bs'.map byteV ∧ bs'.length = bs.length
  | [], bs, bs', cs, hv, hs => by simp [setBytes] at hs; subst hs; exact ⟨cs, rfl, hv, rfl⟩
  | (i, x) :: r, bs, bs', cs, hv, hs => by
    simp only [setBytes] at hs
    split at hs
    · rename_i b hb
      split at hs
      · rename_i hlt
        have hlt' : i < bs.length := by simpa [Nat.blt_eq] using hlt
        have hx := TV_int (VV_p (evalO_spec h hg hb))
        have hsz : cs.size = bs.length := by have := congrArg List.length hv; simpa using this
        have hcells : (a.eval x).cells = #[.int .u8 b] := by rw [hx]; rfl
        simp only [List.map_cons, Instr.fill]
        rw [if_neg (by rw [hcells]; simp; omega), hcells]
        obtain ⟨cs', a1, a2, a3⟩ := setBytes_spec h hg (cs := cs.setIfInBounds i (.int .u8 b)) (bs := bs.set i b) (by simp [hv, byteV, List.map_set]) hs
        exact ⟨cs', by simpa using a1, a2, by simpa using a3⟩
      · cases hs
    · cases hs

theorem build_ok {st : St} {a : Act} (h : Rel U κ st a w) {g : Option (Nat × Bool)} (hg : GuardOk a g) {o : Oper} {ty : TypeId} {parts : Array (Nat × Operand)} (ho : o.op = .build ty parts) {v : V}
    (hv : buildV P ty (fun ty x => evalO P st.t g ty x) parts.toList = some v) : OpOk P U κ st.s a w o ⟨v, st.s, []⟩ := by
  have fin : ∀ cells : Array Value, P.built ty (parts.toList.map fun p => (p.1, a.eval p.2)) = some cells → VV U κ st.s w v (.agg cells) → OpOk P U κ st.s a w o ⟨v, st.s, []⟩ := by
    intro cells hb hvv
    refine OpOk.still h.store (x := .agg cells) ?_ hvv
    unfold execOp
    simp only [ho]
    exact run_v _ (run_build w ty _ cells (by rw [Array.toList_map]; exact hb))
  unfold buildV at hv
  split at hv
  · rename_i zs fs hz hu
    obtain ⟨i, z, h1, h2, h3, h4⟩ := zeroOf_spec (w := w) (ok := okOf U κ) hz
    split at hv
    · rename_i pl hpl
      simp only [Option.map_eq_some_iff] at hv
      obtain ⟨vs', hs, rfl⟩ := hv
      obtain ⟨cs', a1, a2⟩ := setParts_spec h hg (cs := z.cells) (vcs_of_zero h3) hs
      refine fin cs' ?_ (VV_of1 ⟨by simpa [Value.cells] using mkAgg_spec a2, by rw [mkAgg_isAgg]; rfl⟩)
      unfold Program.built
      simp only [h1, hu, h2, fieldPlaces_spec hpl]
      rw [← a1]
      congr 1
      funext j
      simp
    · cases hv
  · rename_i zs len e hz hu
    obtain ⟨i, z, h1, h2, h3, h4⟩ := zeroOf_spec (w := w) (ok := okOf U κ) hz
    split at hv
    · rename_i n hn
      simp only [Option.map_eq_some_iff] at hv
      obtain ⟨vs', hs, rfl⟩ := hv
      obtain ⟨cs', a1, a2⟩ := setParts_spec h hg (cs := z.cells) (vcs_of_zero h3) hs
      refine fin cs' ?_ (VV_of1 ⟨by simpa [Value.cells] using mkAgg_spec a2, by rw [mkAgg_isAgg]; rfl⟩)
      unfold tySz at hn
      split at hn
      · rename_i ie hie
        injection hn with hn
        unfold Program.built
        simp only [h1, hu, h2, hie]
        rw [← a1]
        congr 1
        funext j
        simp [hn]
      · cases hn
    · cases hv
  · rename_i n bs len e hz hu
    obtain ⟨i, z, h1, h2, h3, h4⟩ := zeroOf_spec (w := w) (ok := okOf U κ) hz
    split at hv
    · rename_i hn
      have hn' : tySz P e = some 1 := by simpa using hn
      simp only [Option.map_eq_some_iff] at hv
      obtain ⟨bs', hs, rfl⟩ := hv
      generalize hcs : z.cells.toList = cs at h3
      have h31 := h3.1
      rw [hcs] at h31
      cases h31 with
      | ba hlen =>
        obtain ⟨cs', a1, a2, a3⟩ := setBytes_spec h hg (cs := z.cells) hcs hs
        refine fin cs' ?_ (VV_of ⟨by simp only [Value.cells, a2]; exact .ba (by omega), rfl⟩)
        unfold tySz at hn'
        split at hn'
        · rename_i ie hie
          injection hn' with hn'
          unfold Program.built
          simp only [h1, hu, h2, hie, hn']
          exact a1
        · cases hn'
    · cases hv
  · cases hv

end Go.HM
