/- TraceKnown returns true. -/
import Derived.Test.YtppedainpmjbmaaGreatDoorSK
import Derived.Test.YtppedainpmjbmaaGreatDoorSX
import Derived.Test.YtppedainpmjbmaaGreatDoorRows
import Derived.Test.YtppedainpmjbmaaGreatDoorTie
import Derived.Test.YtppedainpmjbmaaGreatDoorCards
import Derived.Lay
import Derived.Stop.Joined
import Derived.SevenTiedAt
set_option linter.unusedVariables false
namespace Go.Proofs.YtppedainpmjbmaaGreatDoor.traceKnown
open Go Go.Det Go.RowKit
theorem own : ownKnob Tryz.prog.godebug = none := by kernel_rfl
theorem laidOut : laidOutB Tryz.prog = true := by kernel_rfl
theorem known' {W : World} (h : laidMetH Tryz.prog Rows.traceKnownRow.laid W) (hs : W.ShapedOpen Tryz.prog) : Laid W W.heap.size := by
  rw [MakeChecks.laidMetH_plain _ _ _ (by kernel_rfl)] at h
  exact known h hs
set_option maxRecDepth 100000 in
theorem lift (os : Os) (started : os.Started) (H : Type) (enc : TypeId × Value → H) :
    ReturnsInHanded {} Tryz.checked os 10 .any (fun w args => (Rows.traceKnownSpec.pre enc Tryz.prog Tryz.f10 [] false w args ∧ laidMetH Tryz.prog Rows.traceKnownRow.laid w) ∧ sizedMet enc Tryz.prog Tryz.f10 (OpenSpec.ofChange Rows.traceKnownSpec) false w args)
      (Rows.traceKnownSpec.post enc Tryz.prog Tryz.f10 false true false false) :=
  liftedX (C := Tryz.checked) (s := Rows.traceKnownSpec) (n := 12) (X := fun w => laidMetH Tryz.prog Rows.traceKnownRow.laid w) (fun _ _ hh h => h.of_heap hh) (fun _ h hs => known' h hs) own started (by kernel_rfl) Tryz.func10
      (ChangeSpec.witness_shaped (enc := enc) (C := Tryz.checked) (os := os) (X := fun w _ => laidMetH Tryz.prog Rows.traceKnownRow.laid w) false (World.laidAll Tryz.prog os Rows.traceKnownRow.laid) #[] 12 (World.laidAll_os _ _ _)
        (World.shaped_of_ZipB (by kernel_rfl) (by kernel_rfl)) (by kernel_rfl) (by kernel_rfl) (by kernel_rfl)
        (by rw [MakeChecks.laidMetH_plain _ _ _ (by kernel_rfl)]; exact laidMet_laidAll _ (by kernel_rfl) (by kernel_rfl)))
      laidOut (by kernel_rfl) (by kernel_rfl) (rt := 4) (by kernel_rfl) (by kernel_rfl) rfl (fun H ds h => by
        match ds, h with
        | [], _ => rfl) (law10)
set_option maxRecDepth 100000 in
theorem holds : Rows.TraceKnownSaid :=
  OpenClaim.holds_of_wide 10 Tryz.f10 rfl rfl rfl rfl rfl rfl rfl ⟨rfl, rfl, rfl, rfl, rfl⟩ rfl rfl rfl rfl rfl (by kernel_rfl) Tryz.func10 (by kernel_rfl)
    (of_decide_eq_true (by kernel_rfl)) (by unfold Func.isWrapper; first | (rw [if_pos (by decide +kernel)]; kernel_rfl) | (rw [if_neg (by decide +kernel)]; exact ⟨rfl, rfl⟩))
    (fun os started H enc _ => lift os started H enc)
theorem card : Rows.TraceKnownCardSaid :=
  Claim7.holds_tied_plain_at .later [] [.data, .data, .data, .data, .sentinel, .sentinel, .pinned] true (true, "7d0a360de51f2e8490d36ba5c918cf2f347f6869ab77f92239b95ee3a8996fba") true holds (fun _ h => by cases h) (by kernel_rfl) (fun _ h => by cases h) traceKnown_row_tie rfl ⟨rfl, rfl⟩ (by kernel_rfl) rfl
    (fun f fn hf hfn => by
      obtain rfl : f = 10 := Option.some.inj ((show Tryz.prog.funcNamed Rows.traceKnownRow.func = some 10 by kernel_rfl).symm.trans hf) |>.symm
      obtain rfl : fn = Tryz.f10 := (Option.some.inj (Tryz.func10.symm.trans hfn)).symm
      exact ⟨by kernel_rfl, fun j t ht => by
        rw [Tryz.params10] at ht
        simp at ht⟩)
    (by kernel_rfl)
end Go.Proofs.YtppedainpmjbmaaGreatDoor.traceKnown
