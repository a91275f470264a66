/- For every input TraceCompares returns true, and each argument reads behind the call as it read before. -/
import Derived.Test.YtppedainpmjbmaaGreatDoorSP
import Derived.Test.YtppedainpmjbmaaGreatDoorSX
import Derived.Test.YtppedainpmjbmaaGreatDoorRows
import Derived.Test.YtppedainpmjbmaaGreatDoorTie
import Derived.Test.YtppedainpmjbmaaGreatDoorCards
import Derived.Lay
import Derived.Stop.Joined
import Derived.SevenTiedAt
set_option linter.unusedVariables false
namespace Go.Proofs.YtppedainpmjbmaaGreatDoor.traceCompares
open Go Go.Det Go.RowKit
theorem own : ownKnob Tryz.prog.godebug = none := by kernel_rfl
theorem laidOut : laidOutB Tryz.prog = true := by kernel_rfl
theorem known' {W : World} (h : laidMetH Tryz.prog Rows.traceComparesRow.laid W) (hs : W.ShapedOpen Tryz.prog) : Laid W W.heap.size := by
  rw [MakeChecks.laidMetH_plain _ _ _ (by kernel_rfl)] at h
  exact known h hs
set_option maxRecDepth 100000 in
theorem lift (os : Os) (started : os.Started) (H : Type) (enc : TypeId × Value → H) :
    ReturnsInHanded {} Tryz.checked os 8 .any (fun w args => (Rows.traceComparesSpec.pre enc Tryz.prog Tryz.f8 [] false w args ∧ laidMetH Tryz.prog Rows.traceComparesRow.laid w) ∧ sizedMet enc Tryz.prog Tryz.f8 (OpenSpec.ofChange Rows.traceComparesSpec) false w args)
      (Rows.traceComparesSpec.post enc Tryz.prog Tryz.f8 false true false false) :=
  liftedX (C := Tryz.checked) (s := Rows.traceComparesSpec) (n := 12) (X := fun w => laidMetH Tryz.prog Rows.traceComparesRow.laid w) (fun _ _ hh h => h.of_heap hh) (fun _ h hs => known' h hs) own started (by kernel_rfl) Tryz.func8
      (ChangeSpec.witness_shaped (enc := enc) (C := Tryz.checked) (os := os) (X := fun w _ => laidMetH Tryz.prog Rows.traceComparesRow.laid w) false (World.laidAll Tryz.prog os Rows.traceComparesRow.laid) #[.slice none 0 0, .slice none 0 0, .agg #[.int .i64 0, .int .i64 0]] 12 (World.laidAll_os _ _ _)
        (World.shaped_of_ZipB (by kernel_rfl) (by kernel_rfl)) (by kernel_rfl) (by kernel_rfl) (by kernel_rfl)
        (by rw [MakeChecks.laidMetH_plain _ _ _ (by kernel_rfl)]; exact laidMet_laidAll _ (by kernel_rfl) (by kernel_rfl)))
      laidOut (by kernel_rfl) (by kernel_rfl) (rt := 4) (by kernel_rfl) (by kernel_rfl) rfl (fun H ds h => by
        match ds, h with
        | [_, _, _], _ => rfl) (law8 pure8)
set_option maxRecDepth 100000 in
theorem holds : Rows.TraceComparesSaid :=
  OpenClaim.holds_of_wide 8 Tryz.f8 rfl rfl rfl rfl rfl rfl rfl ⟨rfl, rfl, rfl, rfl, rfl⟩ rfl rfl rfl rfl rfl (by kernel_rfl) Tryz.func8 (by kernel_rfl)
    (of_decide_eq_true (by kernel_rfl)) (by unfold Func.isWrapper; first | (rw [if_pos (by decide +kernel)]; kernel_rfl) | (rw [if_neg (by decide +kernel)]; exact ⟨rfl, rfl⟩))
    (fun os started H enc _ => lift os started H enc)
theorem card : Rows.TraceComparesCardSaid :=
  Claim7.holds_tied_plain_at .later [] [.data, .data, .data, .data, .sentinel, .sentinel, .pinned] true (true, "7d0a360de51f2e8490d36ba5c918cf2f347f6869ab77f92239b95ee3a8996fba") true holds (fun _ h => by cases h) (by kernel_rfl) (fun _ h => by cases h) traceCompares_row_tie rfl ⟨rfl, rfl⟩ (by kernel_rfl) rfl
    (fun f fn hf hfn => by
      obtain rfl : f = 8 := Option.some.inj ((show Tryz.prog.funcNamed Rows.traceComparesRow.func = some 8 by kernel_rfl).symm.trans hf) |>.symm
      obtain rfl : fn = Tryz.f8 := (Option.some.inj (Tryz.func8.symm.trans hfn)).symm
      exact ⟨by kernel_rfl, fun j t ht => by
        rw [Tryz.params8] at ht
        have hm : t ∈ ([23, 23, 52] : List TypeId) := by simpa using Array.mem_of_getElem? ht
        have hall : (([23, 23, 52] : List TypeId).all fun u => !Tryz.prog.wantsStandIn u) = true := by kernel_rfl
        exact (show Tryz.prog.wantsStandIn t = false by simpa using List.all_eq_true.1 hall t hm)⟩)
    (by kernel_rfl)
end Go.Proofs.YtppedainpmjbmaaGreatDoor.traceCompares
