/- The law ChannelFresh holds for every input: a channel at its beginning is down and idle, with both commitments of number 0, what each side put in, and two outputs; terms that may not be give none; the arguments read as before. Its one condition: the two tables of math/bits read as the program's text lays them (tied to that text by the card). -/
import Derived.Test.YtgcibcndeikiiaaGreatDoorRows
import Derived.Test.YtgcibcndeikiiaaGreatDoorTie
import Derived.Test.YtgcibcndeikiiaaGreatDoorCards
import Derived.Test.YtgcibcndeikiiaaGreatDoorCnFG
import Derived.ProofKit
import Derived.LaidMore
import Derived.OpenShut
import Derived.Stop.Joined
import Derived.Handed
import Derived.Lib.LaidTab
import Derived.SevenTiedAt
import Derived.LaidOnce
namespace Go.Proofs.YtgcibcndeikiiaaGreatDoor.channelFresh
open Go.ChangeShapes Go.WideShapes Go.ChangeAt Go.RowKit

theorem own : ownKnob Tryz.prog.godebug = none := by kernel_rfl
noncomputable def zv (t : TypeId) : Value := ((Tryz.prog.info? t).bind (·.zero)).getD (.bool false)
theorem g32 : Tryz.prog.globalNamed "math/bits.deBruijn32tab" = some 0 := by kernel_rfl
theorem g64 : Tryz.prog.globalNamed "math/bits.deBruijn64tab" = some 1 := by kernel_rfl
theorem y32 : (Tryz.prog.globals[0]?).map (·.type) = some 22 := by kernel_rfl
theorem y64 : (Tryz.prog.globals[1]?).map (·.type) = some 255 := by kernel_rfl
theorem u32 : Tryz.prog.underlying 22 = some (.array 32 5) := by kernel_rfl
theorem u64 : Tryz.prog.underlying 255 = some (.array 64 5) := by kernel_rfl
theorem u8 : Tryz.prog.underlying 5 = some (.int .u8) := by kernel_rfl

def l32 : List Int := [0, 1, 28, 2, 29, 14, 24, 3, 30, 22, 20, 15, 25, 17, 4, 8, 31, 27, 13, 23, 21, 19, 16, 7, 26, 12, 18, 6, 11, 5, 10, 9]
def l64 : List Int := [0, 1, 56, 2, 57, 49, 28, 3, 61, 58, 42, 50, 38, 29, 17, 4, 62, 47, 59, 36, 45, 43, 51, 22, 53, 39, 33, 30, 24, 18, 12, 5, 63, 55, 48, 27, 60, 41, 37, 16, 46, 35, 44, 21, 52, 32, 23, 11, 54, 26, 40, 15, 34, 20, 31, 10, 25, 14, 19, 9, 13, 8, 7, 6]
theorem gtab_eq : HM.gtab = [(0, .ba 32 l32), (1, .ba 64 l64)] := rfl

noncomputable def laid2 : List (String × DataW Unit) := [("math/bits.deBruijn32tab", Rows.laid_math_bits_deBruijn32tab), ("math/bits.deBruijn64tab", Rows.laid_math_bits_deBruijn64tab)]

theorem laid_tail {P : Program} {W : World} {x : String × DataW Unit} {r : List (String × DataW Unit)} (h : laidMet P (x :: r) W) : laidMet P r W := by
  obtain ⟨ps, ⟨g, t, cs, fuel, p, q, _, _, _, _, hr, rfl⟩, hn, hc⟩ := h
  exact ⟨q, hr, (List.nodup_append.1 hn).2.1, fun b off hm => hc b off (List.mem_append_right _ hm)⟩

theorem rp_of {W : World} {nm : String} {zs : List Int} {g n : Nat} (hl : zs.length = n) (h : Lib.TabIs Tryz.prog W nm .u8 zs) (hg : Tryz.prog.globalNamed nm = some g) : HM.Tc W HM.okAll (.rp (.ba n zs) 0) [.pointer (some ⟨g, 0, none⟩)] := by
  refine HM.Tc.rp (o := 0) (.ba hl) (fun j v hv => ⟨?_, trivial⟩)
  obtain ⟨z, hz, rfl⟩ : ∃ z, zs[j]? = some z ∧ HM.byteV z = v := by simpa using hv
  have hj : j < zs.length := (List.getElem?_eq_some_iff.1 hz).1
  have := h.cell hg j hj
  rw [List.getD_eq_getElem?_getD, hz] at this
  simpa [HM.byteV] using this

theorem glob_of {W : World} (h : laidMetH Tryz.prog laid2 W) : HM.GlobU W HM.okAll := by
  rw [MakeChecks.laidMetH_plain _ _ _ (by kernel_rfl)] at h
  have t32 : Lib.TabIs Tryz.prog W "math/bits.deBruijn32tab" .u8 l32 := Lib.tabIs_of_head g32 y32 u32 u8 (by kernel_rfl) (by kernel_rfl) h
  have t64 : Lib.TabIs Tryz.prog W "math/bits.deBruijn64tab" .u8 l64 := Lib.tabIs_of_head g64 y64 u64 u8 (by kernel_rfl) (by kernel_rfl) (laid_tail h)
  intro g t hm
  rw [gtab_eq] at hm
  simp only [List.mem_cons, List.not_mem_nil, or_false, Prod.mk.injEq] at hm
  rcases hm with ⟨rfl, rfl⟩ | ⟨rfl, rfl⟩
  · exact rp_of rfl t32 g32
  · exact rp_of rfl t64 g64

/-- The door's own heap meets the condition. -/
theorem door_met (os : Os) (args : Array Value) : laidMetH Tryz.prog laid2 ((World.doorLaid Tryz.prog 400 os).forCall (fun _ _ => 0) ⟨#[], args, []⟩).memory :=
  laidMetH_of_parts3 (fuel := 8) (laidMet_of_run' 8 (by kernel_rfl) (by kernel_rfl)) (by kernel_rfl) (by kernel_rfl)

set_option maxRecDepth 100000 in
theorem contract (H : Type) (enc : TypeId × Value → H) (W : World) (base : Nat) (args : Array Value) (ds gs : List (DataW H)) (before : List MemPlace)
    (hval : ∀ (j : Nat) t v, Tryz.f3.params[j]? = some t → args[j]? = some v → Value.okWide Tryz.prog W .any base t v)
    (hW : DataW.Whole enc Tryz.prog Tryz.f3.params.toList Rows.channelFreshSpec.vars false W args.toList ds gs before) (hL : laidMetH Tryz.prog laid2 W) :
    Calls Tryz.prog 3 args W fun e W' => ∃ v, e = .returned v ∧ Rows.channelFreshSpec.post enc Tryz.prog Tryz.f3 false true false false W args v W' :=
  HM.law_contract (ss := [HM.Cn.termsSh, .int .i64]) (bt := 4) (n := 2) (by kernel_rfl) (by kernel_rfl) (by kernel_rfl) (by kernel_rfl) (by kernel_rfl) (by kernel_rfl) rfl
    (fun H ds h => match ds, h with | [_, _], _ => ⟨rfl, rfl, rfl⟩)
    (fun xs hx => HM.Cn.fresh_args hx) hval hW (glob_of hL)

set_option maxRecDepth 100000 in
theorem lifted (os : Os) (started : os.Started) (H : Type) (enc : TypeId × Value → H) :
    ReturnsInHanded {} Tryz.checked os 3 .any (fun w args => (Rows.channelFreshSpec.pre enc Tryz.prog Tryz.f3 [] false w args ∧ laidMetH Tryz.prog laid2 w) ∧ sizedMet enc Tryz.prog Tryz.f3 (OpenSpec.ofChange Rows.channelFreshSpec) false w args)
      (Rows.channelFreshSpec.post enc Tryz.prog Tryz.f3 false true false false) := by
  refine returnsInHanded_of_change_and (C := Tryz.checked) (X := fun w _ => laidMetH Tryz.prog laid2 w) (fun _ _ _ hh h => h.of_heap hh) own started (by kernel_rfl) Tryz.func3
    (ChangeSpec.witness_shaped (enc := enc) (C := Tryz.checked) (os := os) (X := fun w _ => laidMetH Tryz.prog laid2 w) false (World.doorLaid Tryz.prog 400 os) (Tryz.f3.params.map zv) 12 (by kernel_rfl) (World.shaped_of_RefB (by kernel_rfl) (by kernel_rfl)) (by kernel_rfl) (by kernel_rfl) (by kernel_rfl) (door_met os _)) ?_
  intro W base args ds gs before hval hW _ _ hL _
  exact contract H enc W base args ds gs before hval hW hL

theorem said : Rows.ChannelFreshSaid :=
  OpenClaim.holds_of_wide 3 Tryz.f3 rfl rfl rfl rfl rfl rfl rfl ⟨rfl, rfl, rfl, rfl, rfl⟩ rfl rfl rfl rfl rfl (by kernel_rfl) Tryz.func3 (by kernel_rfl)
    (of_decide_eq_true (by kernel_rfl)) (by unfold Func.isWrapper; first | (rw [if_pos (by decide +kernel)]; kernel_rfl) | (rw [if_neg (by decide +kernel)]; exact ⟨rfl, rfl⟩))
    (fun os started H enc _ => lifted os started H enc)

theorem proved : Rows.ChannelFreshCardSaid :=
  Claim7.holds_tied_plain_at .later [] [.data, .data] true (true, "86c08352ab3ff77f5c7681cf77d0e3ae836b37d3f28389bc67d061217c4ff0e8") false
    said (fun _ h => by cases h) (by kernel_rfl) (fun _ h => by cases h) channelFresh_row_tie rfl ⟨rfl, rfl⟩ (by kernel_rfl) rfl
    (fun f fn hf hfn => by
      obtain rfl : f = 3 := Option.some.inj ((show Tryz.prog.funcNamed "tollhouse/tollhouselaw16.ChannelFresh" = some 3 by kernel_rfl).symm.trans hf) |>.symm
      obtain rfl : fn = Tryz.f3 := (Option.some.inj (Tryz.func3.symm.trans hfn)).symm
      exact ⟨by kernel_rfl, fun j t ht => by
        have hm : t ∈ Tryz.f3.params.toList := Array.mem_toList_iff.2 (Array.mem_of_getElem? ht)
        have hall : (Tryz.f3.params.toList.all fun u => !Tryz.prog.wantsStandIn u) = true := by kernel_rfl
        exact (show Tryz.prog.wantsStandIn t = false by simpa using List.all_eq_true.1 hall t hm)⟩)
    (by kernel_rfl)
end Go.Proofs.YtgcibcndeikiiaaGreatDoor.channelFresh
