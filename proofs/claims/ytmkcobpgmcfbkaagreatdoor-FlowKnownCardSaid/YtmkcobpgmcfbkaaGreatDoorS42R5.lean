/- FlowKnown returns true. -/
import Derived.Test.YtmkcobpgmcfbkaaGreatDoorSK
import Derived.Test.YtmkcobpgmcfbkaaGreatDoorSX
import Derived.Test.YtmkcobpgmcfbkaaGreatDoorRows
import Derived.LaidOnce
import Derived.LaidMore
import Derived.Test.YtmkcobpgmcfbkaaGreatDoorTie
import Derived.Test.YtmkcobpgmcfbkaaGreatDoorCards
import Derived.Lay
import Derived.Stop.Joined
import Derived.SevenTiedAt
set_option linter.unusedVariables false
namespace Go.Proofs.YtmkcobpgmcfbkaaGreatDoor.flowKnown
open Go Go.Det Go.RowKit
theorem own : ownKnob Tryz.prog.godebug = none := by kernel_rfl
theorem laidOut : laidOutB Tryz.prog = true := by kernel_rfl
theorem known' {W : World} (h : laidMetH Tryz.prog Rows.flowKnownRow.laid W) (hs : W.ShapedOpen Tryz.prog) : Laid W W.heap.size := knownF (List.mem_cons_self ..) h
theorem door_met (os : Os) (args : Array Value) : laidMetH Tryz.prog Rows.flowKnownRow.laid ((World.doorLaid Tryz.prog 600 os).forCall (fun _ _ => 0) ⟨#[], args, []⟩).memory :=
  laidMetH_of_parts3 (fuel := 8) (laidMet_of_run' 8 (by kernel_rfl) (by kernel_rfl)) (by kernel_rfl) (by kernel_rfl)
set_option maxRecDepth 100000 in
theorem lift (os : Os) (started : os.Started) (H : Type) (enc : TypeId × Value → H) :
    ReturnsInHanded {} Tryz.checked os 5 .any (fun w args => (Rows.flowKnownSpec.pre enc Tryz.prog Tryz.f5 [] false w args ∧ laidMetH Tryz.prog Rows.flowKnownRow.laid w) ∧ sizedMet enc Tryz.prog Tryz.f5 (OpenSpec.ofChange Rows.flowKnownSpec) false w args)
      (Rows.flowKnownSpec.post enc Tryz.prog Tryz.f5 false true false false) :=
  liftedX (C := Tryz.checked) (s := Rows.flowKnownSpec) (n := 12) (X := fun w => laidMetH Tryz.prog Rows.flowKnownRow.laid w) (fun _ _ hh h => h.of_heap hh) (fun _ h hs => known' h hs) own started (by kernel_rfl) Tryz.func5
      (ChangeSpec.witness_shaped (enc := enc) (C := Tryz.checked) (os := os) (X := fun w _ => laidMetH Tryz.prog Rows.flowKnownRow.laid w) false (World.doorLaid Tryz.prog 600 os) #[] 12 rfl
        (World.shaped_of_RefB (by kernel_rfl) (by kernel_rfl)) (by kernel_rfl) (by kernel_rfl) (by kernel_rfl)
        (door_met os _))
      laidOut (by kernel_rfl) (by kernel_rfl) (rt := 4) (by kernel_rfl) (by kernel_rfl) rfl (fun H ds h => by
        match ds, h with
        | [], _ => rfl) (law5)
set_option maxRecDepth 100000 in
theorem holds : Rows.FlowKnownSaid :=
  OpenClaim.holds_of_wide 5 Tryz.f5 rfl rfl rfl rfl rfl rfl rfl ⟨rfl, rfl, rfl, rfl, rfl⟩ rfl rfl rfl rfl rfl (by kernel_rfl) Tryz.func5 (by kernel_rfl)
    (of_decide_eq_true (by kernel_rfl)) (by unfold Func.isWrapper; first | (rw [if_pos (by decide +kernel)]; kernel_rfl) | (rw [if_neg (by decide +kernel)]; exact ⟨rfl, rfl⟩))
    (fun os started H enc _ => lift os started H enc)
theorem card : Rows.FlowKnownCardSaid :=
  Claim7.holds_tied_plain_at .later [] [.funcs, .handle] true (true, "f183f01ae2d98ca56a85aaff4451a90a9e2e95dfa99a0105bd1ab654c70cfc35") true holds (fun _ h => by cases h) (by kernel_rfl) (fun _ h => by cases h) flowKnown_row_tie rfl ⟨rfl, rfl⟩ (by kernel_rfl) rfl
    (fun f fn hf hfn => by
      obtain rfl : f = 5 := Option.some.inj ((show Tryz.prog.funcNamed Rows.flowKnownRow.func = some 5 by kernel_rfl).symm.trans hf) |>.symm
      obtain rfl : fn = Tryz.f5 := (Option.some.inj (Tryz.func5.symm.trans hfn)).symm
      exact ⟨by kernel_rfl, fun j t ht => by
        rw [Tryz.params5] at ht
        simp at ht⟩)
    (by kernel_rfl)
end Go.Proofs.YtmkcobpgmcfbkaaGreatDoor.flowKnown
