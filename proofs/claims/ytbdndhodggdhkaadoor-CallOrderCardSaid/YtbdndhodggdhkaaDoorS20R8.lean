/- For every input CallOrder returns true, and each argument reads behind the call as it read before. -/
import Derived.Test.YtbdndhodggdhkaaDoorSL
import Derived.Test.YtbdndhodggdhkaaDoorSP
import Derived.Test.YtbdndhodggdhkaaDoorX
import Derived.Test.YtbdndhodggdhkaaDoorRows
import Derived.Test.YtbdndhodggdhkaaDoorTie
import Derived.Test.YtbdndhodggdhkaaDoorCards
import Derived.Lay
import Derived.Stop.Joined
import Derived.SevenTiedAt
set_option linter.unusedVariables false
namespace Go.Proofs.YtbdndhodggdhkaaDoor.callOrder
open Go Go.Det Go.RowKit
theorem own : ownKnob Tryd.prog.godebug = none := by kernel_rfl
theorem laidOut : laidOutB Tryd.prog = true := by kernel_rfl
theorem known' {W : World} (h : laidMetH Tryd.prog Rows.callOrderRow.laid W) (hs : W.ShapedOpen Tryd.prog) : Laid W W.heap.size := by
  rw [MakeChecks.laidMetH_plain _ _ _ (by kernel_rfl)] at h
  exact known h hs
set_option maxRecDepth 100000 in
theorem lift (os : Os) (started : os.Started) (H : Type) (enc : TypeId × Value → H) :
    ReturnsInHanded {} Tryd.checked os 8 .any (fun w args => (Rows.callOrderSpec.pre enc Tryd.prog Tryd.f8 [] false w args ∧ laidMetH Tryd.prog Rows.callOrderRow.laid w) ∧ sizedMet enc Tryd.prog Tryd.f8 (OpenSpec.ofChange Rows.callOrderSpec) false w args)
      (Rows.callOrderSpec.post enc Tryd.prog Tryd.f8 false true false false) :=
  liftedX (C := Tryd.checked) (s := Rows.callOrderSpec) (n := 12) (X := fun w => laidMetH Tryd.prog Rows.callOrderRow.laid w) (fun _ _ hh h => h.of_heap hh) (fun _ h hs => known' h hs) own started (by kernel_rfl) Tryd.func8
      (ChangeSpec.witness_shaped (enc := enc) (C := Tryd.checked) (os := os) (X := fun w _ => laidMetH Tryd.prog Rows.callOrderRow.laid w) false (World.laidAll Tryd.prog os Rows.callOrderRow.laid) #[.int .i64 0, .int .i64 0, .int .i64 0] 12 (World.laidAll_os _ _ _)
        (World.shaped_of_ZipB (by kernel_rfl) (by kernel_rfl)) (by kernel_rfl) (by kernel_rfl) (by kernel_rfl)
        (by rw [MakeChecks.laidMetH_plain _ _ _ (by kernel_rfl)]; exact laidMet_laidAll _ (by kernel_rfl) (by kernel_rfl)))
      laidOut (by kernel_rfl) (by kernel_rfl) (rt := 4) (by kernel_rfl) (by kernel_rfl) rfl (fun H ds h => by
        match ds, h with
        | [_, _, _], _ => rfl) (law8 pure8)
set_option maxRecDepth 100000 in
theorem holds : Rows.CallOrderSaid :=
  OpenClaim.holds_of_wide 8 Tryd.f8 rfl rfl rfl rfl rfl rfl rfl ⟨rfl, rfl, rfl, rfl, rfl⟩ rfl rfl rfl rfl rfl (by kernel_rfl) Tryd.func8 (by kernel_rfl)
    (of_decide_eq_true (by kernel_rfl)) (by unfold Func.isWrapper; first | (rw [if_pos (by decide +kernel)]; kernel_rfl) | (rw [if_neg (by decide +kernel)]; exact ⟨rfl, rfl⟩))
    (fun os started H enc _ => lift os started H enc)
theorem card : Rows.CallOrderCardSaid :=
  Claim7.holds_tied_plain_at .later [] [.data, .data, .data, .sentinel, .sentinel] true (true, "2d78f6f14e4cf32832f586970c603b78f4511dc4039841ee31237e5ad4ac1837") true holds (fun _ h => by cases h) (by kernel_rfl) (fun _ h => by cases h) callOrder_row_tie rfl ⟨rfl, rfl⟩ (by kernel_rfl) rfl
    (fun f fn hf hfn => by
      obtain rfl : f = 8 := Option.some.inj ((show Tryd.prog.funcNamed Rows.callOrderRow.func = some 8 by kernel_rfl).symm.trans hf) |>.symm
      obtain rfl : fn = Tryd.f8 := (Option.some.inj (Tryd.func8.symm.trans hfn)).symm
      exact ⟨by kernel_rfl, fun j t ht => by
        rw [Tryd.params8] at ht
        have hm : t ∈ ([3, 3, 3] : List TypeId) := by simpa using Array.mem_of_getElem? ht
        have hall : (([3, 3, 3] : List TypeId).all fun u => !Tryd.prog.wantsStandIn u) = true := by kernel_rfl
        exact (show Tryd.prog.wantsStandIn t = false by simpa using List.all_eq_true.1 hall t hm)⟩)
    (by kernel_rfl)
end Go.Proofs.YtbdndhodggdhkaaDoor.callOrder
