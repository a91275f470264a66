/- For every input ConfigTimes returns true, and each argument reads behind the call as it read before. -/
import Derived.Test.YthemdclmlcblbaaDoorSP
import Derived.Test.YthemdclmlcblbaaDoorRows
import Derived.Test.YthemdclmlcblbaaDoorTie
import Derived.Test.YthemdclmlcblbaaDoorCards
import Derived.Lay
import Derived.Stop.Joined
import Derived.SevenTiedAt
set_option linter.unusedVariables false
namespace Go.Proofs.YthemdclmlcblbaaDoor.configTimes
open Go Go.Det Go.RowKit
theorem own : ownKnob Tryd.prog.godebug = none := by kernel_rfl
theorem laidOut : laidOutB Tryd.prog = true := by kernel_rfl
theorem known' {W : World} (h : laidMetH Tryd.prog Rows.configTimesRow.laid W) (hs : W.ShapedOpen Tryd.prog) : Laid W W.heap.size := by
  rw [MakeChecks.laidMetH_plain _ _ _ (by kernel_rfl)] at h
  exact known (by exact List.mem_cons_self ..) h hs
set_option maxRecDepth 100000 in
theorem lift (os : Os) (started : os.Started) (H : Type) (enc : TypeId × Value → H) :
    ReturnsInHanded {} Tryd.checked os 3 .any (fun w args => (Rows.configTimesSpec.pre enc Tryd.prog Tryd.f3 [] false w args ∧ laidMetH Tryd.prog Rows.configTimesRow.laid w) ∧ sizedMet enc Tryd.prog Tryd.f3 (OpenSpec.ofChange Rows.configTimesSpec) false w args)
      (Rows.configTimesSpec.post enc Tryd.prog Tryd.f3 false true false false) :=
  liftedX (C := Tryd.checked) (s := Rows.configTimesSpec) (n := 12) (X := fun w => laidMetH Tryd.prog Rows.configTimesRow.laid w) (fun _ _ hh h => h.of_heap hh) (fun _ h hs => known' h hs) own started (by kernel_rfl) Tryd.func3
      (ChangeSpec.witness_shaped (enc := enc) (C := Tryd.checked) (os := os) (X := fun w _ => laidMetH Tryd.prog Rows.configTimesRow.laid w) false (World.laidAll Tryd.prog os Rows.configTimesRow.laid) #[.agg #[.int .i64 0, .slice none 0 0, .int .i64 0, .int .i64 0, .int .i64 0, .int .i64 0, .int .i64 0, .int .i64 0, .int .i64 0, .int .i64 0, .int .i64 0, .int .i64 0, .int .i64 0, .slice none 0 0, .int .u64 0, .int .i64 0, .int .i64 0, .int .u64 0, .int .i64 0, .int .i64 0, .int .u64 0, .int .i64 0, .int .i64 0, .slice none 0 0, .int .i64 0], .int .i64 0, .int .i64 0] 12 (World.laidAll_os _ _ _)
        (World.shaped_of_ZipB (by kernel_rfl) (by kernel_rfl)) (by kernel_rfl) (by kernel_rfl) (by kernel_rfl)
        (by rw [MakeChecks.laidMetH_plain _ _ _ (by kernel_rfl)]; exact laidMet_laidAll _ (by kernel_rfl) (by kernel_rfl)))
      laidOut (by kernel_rfl) (by kernel_rfl) (rt := 4) (by kernel_rfl) (by kernel_rfl) rfl (fun H ds h => by
        match ds, h with
        | [_, _, _], _ => rfl) (law3 pure3)
set_option maxRecDepth 100000 in
theorem holds : Rows.ConfigTimesSaid :=
  OpenClaim.holds_of_wide 3 Tryd.f3 rfl rfl rfl rfl rfl rfl rfl ⟨rfl, rfl, rfl, rfl, rfl⟩ rfl rfl rfl rfl rfl (by kernel_rfl) Tryd.func3 (by kernel_rfl)
    (of_decide_eq_true (by kernel_rfl)) (by unfold Func.isWrapper; first | (rw [if_pos (by decide +kernel)]; kernel_rfl) | (rw [if_neg (by decide +kernel)]; exact ⟨rfl, rfl⟩))
    (fun os started H enc _ => lift os started H enc)
theorem card : Rows.ConfigTimesCardSaid :=
  Claim7.holds_tied_plain_at .later [] [.data] true (true, "2616e5f05c0325fe3488679b90427d5dc802debd97847b97aa0c6450199a36d0") false holds (fun _ h => by cases h) (by kernel_rfl) (fun _ h => by cases h) configTimes_row_tie rfl ⟨rfl, rfl⟩ (by kernel_rfl) rfl
    (fun f fn hf hfn => by
      obtain rfl : f = 3 := Option.some.inj ((show Tryd.prog.funcNamed Rows.configTimesRow.func = some 3 by kernel_rfl).symm.trans hf) |>.symm
      obtain rfl : fn = Tryd.f3 := (Option.some.inj (Tryd.func3.symm.trans hfn)).symm
      exact ⟨by kernel_rfl, fun j t ht => by
        rw [Tryd.params3] at ht
        have hm : t ∈ ([29, 3, 3] : List TypeId) := by simpa using Array.mem_of_getElem? ht
        have hall : (([29, 3, 3] : List TypeId).all fun u => !Tryd.prog.wantsStandIn u) = true := by kernel_rfl
        exact (show Tryd.prog.wantsStandIn t = false by simpa using List.all_eq_true.1 hall t hm)⟩)
    (by kernel_rfl)
end Go.Proofs.YthemdclmlcblbaaDoor.configTimes
