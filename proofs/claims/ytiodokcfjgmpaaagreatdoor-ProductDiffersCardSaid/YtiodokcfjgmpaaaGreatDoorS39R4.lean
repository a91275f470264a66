/- For every input ProductDiffers returns true, and each argument reads behind the call as it read before. -/
import Derived.Test.YtiodokcfjgmpaaaGreatDoorSP
import Derived.Test.YtiodokcfjgmpaaaGreatDoorSX
import Derived.Test.YtiodokcfjgmpaaaGreatDoorRows
import Derived.LaidOnce
import Derived.LaidMore
import Derived.Test.YtiodokcfjgmpaaaGreatDoorTie
import Derived.Test.YtiodokcfjgmpaaaGreatDoorCards
import Derived.Lay
import Derived.Stop.Joined
import Derived.SevenTiedAt
set_option linter.unusedVariables false
namespace Go.Proofs.YtiodokcfjgmpaaaGreatDoor.productDiffers
open Go Go.Det Go.RowKit
theorem own : ownKnob Tryz.prog.godebug = none := by kernel_rfl
theorem laidOut : laidOutB Tryz.prog = true := by kernel_rfl
theorem known' {W : World} (h : laidMetH Tryz.prog Rows.productDiffersRow.laid W) (hs : W.ShapedOpen Tryz.prog) : Laid W W.heap.size := knownF (List.mem_cons_self ..) h
theorem door_met (os : Os) (args : Array Value) : laidMetH Tryz.prog Rows.productDiffersRow.laid ((World.doorLaid Tryz.prog 600 os).forCall (fun _ _ => 0) ⟨#[], args, []⟩).memory :=
  laidMetH_of_parts3 (fuel := 8) (laidMet_of_run' 8 (by kernel_rfl) (by kernel_rfl)) (by kernel_rfl) (by kernel_rfl)
set_option maxRecDepth 100000 in
theorem lift (os : Os) (started : os.Started) (H : Type) (enc : TypeId × Value → H) :
    ReturnsInHanded {} Tryz.checked os 4 .any (fun w args => (Rows.productDiffersSpec.pre enc Tryz.prog Tryz.f4 [] false w args ∧ laidMetH Tryz.prog Rows.productDiffersRow.laid w) ∧ sizedMet enc Tryz.prog Tryz.f4 (OpenSpec.ofChange Rows.productDiffersSpec) false w args)
      (Rows.productDiffersSpec.post enc Tryz.prog Tryz.f4 false true false false) :=
  liftedX (C := Tryz.checked) (s := Rows.productDiffersSpec) (n := 12) (X := fun w => laidMetH Tryz.prog Rows.productDiffersRow.laid w) (fun _ _ hh h => h.of_heap hh) (fun _ h hs => known' h hs) own started (by kernel_rfl) Tryz.func4
      (ChangeSpec.witness_shaped (enc := enc) (C := Tryz.checked) (os := os) (X := fun w _ => laidMetH Tryz.prog Rows.productDiffersRow.laid w) false (World.doorLaid Tryz.prog 600 os) #[.slice none 0 0, .slice none 0 0] 12 rfl
        (World.shaped_of_RefB (by kernel_rfl) (by kernel_rfl)) (by kernel_rfl) (by kernel_rfl) (by kernel_rfl)
        (door_met os _))
      laidOut (by kernel_rfl) (by kernel_rfl) (rt := 4) (by kernel_rfl) (by kernel_rfl) rfl (fun H ds h => by
        match ds, h with
        | [_, _], _ => rfl) (law4 pure4)
set_option maxRecDepth 100000 in
theorem holds : Rows.ProductDiffersSaid :=
  OpenClaim.holds_of_wide 4 Tryz.f4 rfl rfl rfl rfl rfl rfl rfl ⟨rfl, rfl, rfl, rfl, rfl⟩ rfl rfl rfl rfl rfl (by kernel_rfl) Tryz.func4 (by kernel_rfl)
    (of_decide_eq_true (by kernel_rfl)) (by unfold Func.isWrapper; first | (rw [if_pos (by decide +kernel)]; kernel_rfl) | (rw [if_neg (by decide +kernel)]; exact ⟨rfl, rfl⟩))
    (fun os started H enc _ => lift os started H enc)
theorem card : Rows.ProductDiffersCardSaid :=
  Claim7.holds_tied_plain_at .later [] [.funcs, .handle] true (true, "70c6139d5ac87c8b21b48831b2cec2859e6bc895496b28f8134313cfbdccc23d") true holds (fun _ h => by cases h) (by kernel_rfl) (fun _ h => by cases h) productDiffers_row_tie rfl ⟨rfl, rfl⟩ (by kernel_rfl) rfl
    (fun f fn hf hfn => by
      obtain rfl : f = 4 := Option.some.inj ((show Tryz.prog.funcNamed Rows.productDiffersRow.func = some 4 by kernel_rfl).symm.trans hf) |>.symm
      obtain rfl : fn = Tryz.f4 := (Option.some.inj (Tryz.func4.symm.trans hfn)).symm
      exact ⟨by kernel_rfl, fun j t ht => by
        rw [Tryz.params4] at ht
        have hm : t ∈ ([52, 52] : List TypeId) := by simpa using Array.mem_of_getElem? ht
        have hall : (([52, 52] : List TypeId).all fun u => !Tryz.prog.wantsStandIn u) = true := by kernel_rfl
        exact (show Tryz.prog.wantsStandIn t = false by simpa using List.all_eq_true.1 hall t hm)⟩)
    (by kernel_rfl)
end Go.Proofs.YtiodokcfjgmpaaaGreatDoor.productDiffers
