import Derived.Test.YtcephcgnfmcdhaaDoorSM
import Derived.Test.YtcephcgnfmcdhaaDoorD58
set_option linter.unusedVariables false
set_option linter.unusedSimpArgs false
namespace Go.Proofs.YtcephcgnfmcdhaaDoor
open Go Go.Det Go.RowKit
noncomputable section
/-! 34 tipstaff/mask.List -/
def f34_l1 : Nat → (List Int) → Int → Option (List Int)
  | 0, _, _ => none
  | n + 1, l2_h4, v1_0_h4 =>
    if v1_0_h4 = 0 then
      some ((l2_h4 : List Int))
    else
      (f41 v1_0_h4).bind fun t11u6 =>
      (apd 8 l2_h4 ([t11u6])).bind fun l11u7 =>
      f34_l1 n l11u7 (bits .and .u64 v1_0_h4 (IntKind.u64.wrap (v1_0_h4 - 1)))

def f34 (k : Nat) (x0 : Int) : Option (List Int) :=
  (f34_l1 k ([]) x0).bind fun st =>
    some st
set_option maxRecDepth 20000 in
theorem f34_ok {k : Nat} {H : Hp} {x0 : Int} {r : List Int} (hp : f34 k x0 = some r) :
    SCall Tryd.prog 34 [.int .u64 x0] H (Ret fun v H' => Ext H H' ∧ R_40 r H.next H' v) := by
  unfold f34 at hp
  replace hp := topS hp
  refine SCall.g Tryd.func34 rfl rfl rfl rfl rfl (l := [(0, .v (.int .u64 x0))]) (fun _ => rfl) (fun B abB => ?_)
  refine WJ.adv 7 rfl ?_
  refine WJ.liftS (loc := []) rfl rfl (fun bv0 => ?_)
  refine WJ.inl 205 rfl rfl Tryd.func47 rfl rfl rfl rfl rfl (lc := [(0, .v (.int .u64 x0))]) (fun _ => rfl) ?_
  refine WJ.adv 3 rfl ?_
  refine WJ.liftS (loc := []) rfl rfl (fun bv1 => ?_)
  refine WJ.adv 5 rfl ?_
  refine WJ.nf ?_
  refine WJ.inlR 202 rfl rfl rfl rfl ?_
  refine WJ.adv 2 rfl ?_
  refine WJ.rf rfl rfl rfl rfl Tryd.func55 rfl rfl (ga := 2) rfl rfl rfl (lc := fun lpf55 => [(0, .v (.func (.yield lpf55) ⟨[]⟩ ⟨[]⟩)), (1, .v (.pointer (some ⟨bv1, 0, none⟩)))]) (fun _ _ => rfl) ?_
  rintro lpf55 B1 Cf55 hCf55 ⟨abB1, ivB1⟩ h0f55 hlf55
  refine WJ.adv 1 rfl ?_
  refine WJ.nw 1 ?_
  obtain ⟨K4, hK4, hp⟩ : ∃ K, K = _ ∧ Option.bind _ K = some r := ⟨_, rfl, cutS hp⟩
  refine WJ.lp 200 (α := Nat × (List Int) × Int × (Option Addr) × Nat × Hp) (fun y => [(0, .v (.func (.yield lpf55) ⟨[]⟩ ⟨[]⟩)), (1, .v (.pointer (some ⟨bv1, 0, none⟩)))]) (fun y => []) (fun y => [⟨some ⟨bv0, 0, none⟩, 1, 1, [.slice y.2.2.2.1 y.2.1.length y.2.2.2.2.1]⟩, ⟨some ⟨bv1, 0, none⟩, 1, 1, [.int .u64 y.2.2.1]⟩, ⟨y.2.2.2.1, y.2.2.2.2.1, 1, encL iE y.2.1⟩]) (fun y => y.2.2.2.2.2) (fun y => y.1) (fun y => Option.bind (f34_l1 y.1 y.2.1 y.2.2.1) K4 = some r ∧ y.2.2.2.2.2.get lpf55 = some (.loop (Cf55.rec_ .ready none))) (k, ([] : List Int), x0, none, 0, B1) rfl ⟨hp, hlf55⟩ (by exact ⟨rfl, rfl, trivial⟩) rfl rfl rfl ?_
  rintro ⟨n, l2_h4, v1_0_h4, a2_h4, c2_h4, B2⟩ ⟨hp, hlf55⟩ ih4
  show WJ _ _ _ B2 [⟨some ⟨bv0, 0, none⟩, 1, 1, [.slice a2_h4 l2_h4.length c2_h4]⟩, ⟨some ⟨bv1, 0, none⟩, 1, 1, [.int .u64 v1_0_h4]⟩, ⟨a2_h4, c2_h4, 1, encL iE l2_h4⟩] _ _ ⟨[(0, .v (.func (.yield lpf55) ⟨[]⟩ ⟨[]⟩)), (1, .v (.pointer (some ⟨bv1, 0, none⟩)))], [], true, 0⟩
  replace hp : Option.bind (f34_l1 n l2_h4 v1_0_h4) K4 = some r := hp
  cases n with
  | zero => rw [f34_l1] at hp; exact (noS hp).elim
  | succ n =>
    rw [f34_l1] at hp
    refine WJ.hd (v := .int .u64 v1_0_h4) 203 rfl rfl rfl rfl (fun ids H' fr => opD_load rfl (evV_eq _ _ _ _ _ rfl) (fr.ldOwn (j := 1) rfl rfl)) rfl ?_
    refine WJ.cn 200 hp rfl rfl rfl rfl rfl rfl rfl rfl rfl (fun hc4u6 hp => ?_) (fun hc4u6 hp => ?_)
    · refine WJ.hd (v := .int .u64 v1_0_h4) 208 rfl rfl rfl rfl (fun ids H' fr => opD_load rfl (evV_eq _ _ _ _ _ rfl) (fr.ldOwn (j := 1) rfl rfl)) rfl ?_
      obtain ⟨t11u6, e11u6, hp⟩ := bindS hp
      refine WJ.cl 200 (R := R_3 t11u6) (fun hm h k => R_3.mono hm h k) rfl (fun ids H' fr => f41_ok e11u6) ?_
      rintro v B3 ⟨abB3, ivB3⟩ rfl
      refine ⟨_, rfl, ?_⟩
      replace hlf55 := ivB3 _ _ hlf55
      refine WJ.yl (lr := [(3, .v (.pointer (some ⟨bv0, 0, none⟩))), (7, .v (.int .i64 t11u6))]) hCf55 rfl rfl rfl rfl rfl rfl rfl rfl rfl rfl rfl hlf55 rfl ⟨rfl, rfl, rfl, rfl, trivial⟩ ?_
      refine WJ.ylA 203 rfl hlf55 h0f55 (fun B4 abB4 kpB4 hnB4 => ?_) rfl
      replace hlf55 := hnB4
      refine WJ.hd (v := .slice a2_h4 l2_h4.length c2_h4) 202 rfl rfl rfl rfl (fun ids H' fr => opD_load rfl (evV_eq _ _ _ _ _ rfl) (fr.ldOwn (j := 0) rfl rfl)) rfl ?_
      refine WJ.bs (cs := encL iE [t11u6]) (sz := 1) (pl := [(0, .int .i64 t11u6)]) 201 rfl rfl rfl rfl rfl (fun _ _ => rfl) (fun _ => by rfl) rfl rfl ?_
      intro b10u7
      refine ⟨_, rfl, ?_⟩
      obtain ⟨l11u7, e11u7, hp⟩ := bindS hp
      obtain ⟨bd11u7, rfl⟩ := apd_some e11u7
      refine WJ.ap (L := l2_h4) (L2 := [t11u6]) 200 2 rfl rfl rfl rfl rfl rfl rfl rfl (el40 rfl) rfl (fun _ => rfl) (fun _ => rfl) rfl (fun ids H' fr => fr.srcOwn (enc := iE) (sz := 1) (j := 3) (fun _ => rfl) (by decide) rfl) bd11u7 ?_
      intro a11u7 c11u7
      refine ⟨_, rfl, ?_⟩
      refine WJ.pop [⟨some ⟨bv0, 0, none⟩, 1, 1, [.slice a2_h4 l2_h4.length c2_h4]⟩, ⟨some ⟨bv1, 0, none⟩, 1, 1, [.int .u64 v1_0_h4]⟩, ⟨a11u7, c11u7, 1, encL iE (l2_h4 ++ ([t11u6]))⟩] rfl ?_
      refine WJ.sb 200 (j := 0) rfl rfl rfl rfl rfl rfl rfl rfl rfl rfl ?_
      refine WJ.ylE 202 rfl hlf55 h0f55 (.inl ⟨rfl, rfl, rfl, rfl⟩) rfl (fun B5 abB5 kpB5 hnB5 => ?_)
      replace hlf55 := hnB5
      refine WJ.hd (v := .int .u64 v1_0_h4) 206 rfl rfl rfl rfl (fun ids H' fr => opD_load rfl (evV_eq _ _ _ _ _ rfl) (fr.ldOwn (j := 1) rfl rfl)) rfl ?_
      refine WJ.hd (v := .int .u64 v1_0_h4) 200 rfl rfl rfl rfl (fun ids H' fr => opD_load rfl (evV_eq _ _ _ _ _ rfl) (fr.ldOwn (j := 1) rfl rfl)) rfl ?_
      refine WJ.sb 202 (j := 1) rfl rfl rfl rfl rfl rfl rfl rfl rfl rfl ?_
      exact WJ.ag 201 rfl (by exact ⟨rfl, rfl, trivial⟩) rfl rfl rfl (ih4 (n, (l2_h4 ++ ([t11u6])), bits .and .u64 v1_0_h4 (IntKind.u64.wrap (v1_0_h4 - 1)), a11u7, c11u7, B5) ⟨hp, hlf55⟩ (Nat.lt_succ_self _))
    · refine WJ.rfR 203 (.inr rfl) rfl rfl hlf55 h0f55 (fun h => by cases h) (fun B6 abB6 kpB6 => ?_)
      refine WJ.hd (v := .slice a2_h4 l2_h4.length c2_h4) 203 rfl rfl rfl rfl (fun ids H' fr => opD_load rfl (evV_eq _ _ _ _ _ rfl) (fr.ldOwn (j := 0) rfl rfl)) rfl ?_
      subst hK4
      obtain rfl := endS (show some _ = some r from hp)
      exact WJ.rt 202 rfl rfl rfl (fun ids H' fr => ⟨fr.ext0, ⟨_, _, rfl, (fr.slOwn (j := 2) rfl rfl (Nat.le_refl _))⟩⟩)
end
end Go.Proofs.YtcephcgnfmcdhaaDoor
