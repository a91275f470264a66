/- For every input RowAgain returns true, and each argument reads behind the call as it read before. -/
import Derived.Test.YtgmejigjajcbfaaGreatDoorSF
import Derived.Test.YtgmejigjajcbfaaGreatDoorSP
import Derived.Test.YtgmejigjajcbfaaGreatDoorRows
import Derived.Test.YtgmejigjajcbfaaGreatDoorTie
import Derived.Test.YtgmejigjajcbfaaGreatDoorCards
import Derived.Lay
import Derived.Stop.Joined
import Derived.SevenTiedAt
set_option linter.unusedVariables false
namespace Go.Proofs.YtgmejigjajcbfaaGreatDoor.rowAgain
open Go Go.Det Go.RowKit
theorem own : ownKnob Tryz.prog.godebug = none := by kernel_rfl
theorem laidOut : laidOutB Tryz.prog = true := by kernel_rfl
theorem known' {W : World} (h : laidMetH Tryz.prog Rows.rowAgainRow.laid W) (hs : W.ShapedOpen Tryz.prog) : Laid W W.heap.size := by
  rw [MakeChecks.laidMetH_plain _ _ _ (by kernel_rfl)] at h
  exact known h hs
set_option maxRecDepth 100000 in
theorem lift (os : Os) (started : os.Started) (H : Type) (enc : TypeId × Value → H) :
    ReturnsInHanded {} Tryz.checked os 7 .any (fun w args => (Rows.rowAgainSpec.pre enc Tryz.prog Tryz.f7 [] false w args ∧ laidMetH Tryz.prog Rows.rowAgainRow.laid w) ∧ sizedMet enc Tryz.prog Tryz.f7 (OpenSpec.ofChange Rows.rowAgainSpec) false w args)
      (Rows.rowAgainSpec.post enc Tryz.prog Tryz.f7 false true false false) :=
  liftedX (C := Tryz.checked) (s := Rows.rowAgainSpec) (n := 12) (X := fun w => laidMetH Tryz.prog Rows.rowAgainRow.laid w) (fun _ _ hh h => h.of_heap hh) (fun _ h hs => known' h hs) own started (by kernel_rfl) Tryz.func7
      (ChangeSpec.witness_shaped (enc := enc) (C := Tryz.checked) (os := os) (X := fun w _ => laidMetH Tryz.prog Rows.rowAgainRow.laid w) false (World.laidAll Tryz.prog os Rows.rowAgainRow.laid) #[.string ⟨#[]⟩] 12 (World.laidAll_os _ _ _)
        (World.shaped_of_ZipB (by kernel_rfl) (by kernel_rfl)) (by kernel_rfl) (by kernel_rfl) (by kernel_rfl)
        (by rw [MakeChecks.laidMetH_plain _ _ _ (by kernel_rfl)]; exact laidMet_laidAll _ (by kernel_rfl) (by kernel_rfl)))
      laidOut (by kernel_rfl) (by kernel_rfl) (rt := 4) (by kernel_rfl) (by kernel_rfl) rfl (fun H ds h => by
        match ds, h with
        | [_], _ => rfl) (law7 pure7)
set_option maxRecDepth 100000 in
theorem holds : Rows.RowAgainSaid :=
  OpenClaim.holds_of_wide 7 Tryz.f7 rfl rfl rfl rfl rfl rfl rfl ⟨rfl, rfl, rfl, rfl, rfl⟩ rfl rfl rfl rfl rfl (by kernel_rfl) Tryz.func7 (by kernel_rfl)
    (of_decide_eq_true (by kernel_rfl)) (by unfold Func.isWrapper; first | (rw [if_pos (by decide +kernel)]; kernel_rfl) | (rw [if_neg (by decide +kernel)]; exact ⟨rfl, rfl⟩))
    (fun os started H enc _ => lift os started H enc)
theorem card : Rows.RowAgainCardSaid :=
  Claim7.holds_tied_plain_at .later [] [.data, .data, .data, .data, .sentinel, .sentinel, .pinned] true (true, "ccbe6b87a3cb77e02972df0d4e9247e017696e615091a2d7963004dddfbd85da") true holds (fun _ h => by cases h) (by kernel_rfl) (fun _ h => by cases h) rowAgain_row_tie rfl ⟨rfl, rfl⟩ (by kernel_rfl) rfl
    (fun f fn hf hfn => by
      obtain rfl : f = 7 := Option.some.inj ((show Tryz.prog.funcNamed Rows.rowAgainRow.func = some 7 by kernel_rfl).symm.trans hf) |>.symm
      obtain rfl : fn = Tryz.f7 := (Option.some.inj (Tryz.func7.symm.trans hfn)).symm
      exact ⟨by kernel_rfl, fun j t ht => by
        rw [Tryz.params7] at ht
        have hm : t ∈ ([9] : List TypeId) := by simpa using Array.mem_of_getElem? ht
        have hall : (([9] : List TypeId).all fun u => !Tryz.prog.wantsStandIn u) = true := by kernel_rfl
        exact (show Tryz.prog.wantsStandIn t = false by simpa using List.all_eq_true.1 hall t hm)⟩)
    (by kernel_rfl)
end Go.Proofs.YtgmejigjajcbfaaGreatDoor.rowAgain
