import Derived.Test.YtppedainpmjbmaaGreatDoorST
set_option linter.unusedVariables false
set_option linter.unusedSimpArgs false
namespace Go.Proofs.YtppedainpmjbmaaGreatDoor
open Go Go.Det Go.RowKit
noncomputable section
/-! 18 tipstaff/tipstafflaw38.light -/
def f18_l1 (x0 : List ViewT) : Nat → Int → Option ((Bool) ⊕ (Unit))
 | 0, _ => none
 | n + 1, x3 =>
  if x3 < (x0.length : Int) then
   (rd x0 x3).bind fun t25 =>
   if (t25.Replies.length : Int) > 60 then
    some (Sum.inl (false : Bool))
   else
    (rd x0 x3).bind fun t33 =>
    if (t33.Sights.length : Int) > 12 then
     some (Sum.inl (false : Bool))
    else
     f18_l1 x0 n (IntKind.i64.wrap (x3 + 1))
  else
   some (Sum.inr ())
def f18 (k : Nat) (x0 : List ViewT) : Option Bool :=
 (if (x0.length : Int) > 60 then
  if (x0.length : Int) ≤ 5000 then
   some (Sum.inl (false : Bool))
  else
   if (x0.length : Int) > 5010 then
    some (Sum.inl (false : Bool))
   else
    some (Sum.inr ())
 else
  if (x0.length : Int) > 5010 then
   some (Sum.inl (false : Bool))
  else
   some (Sum.inr ())).bind fun s => match s with
  | .inl st => some st
  | .inr _ => 
   (f18_l1 x0 k 0).bind fun s => match s with
    | .inl st => some st
    | .inr _ => 
     some true
set_option maxHeartbeats 40000000 in
set_option maxRecDepth 20000 in
theorem f18_ok {k : Nat} {H : Hp} {a_x0 : Option Addr} {c_x0 : Nat} {x0 : List ViewT} {r : Bool} (g_x0 : SlF 0 H ViewTC a_x0 c_x0 x0) (hp : f18 k x0 = some r) :
  SCall Tryz.prog 18 [.slice a_x0 x0.length c_x0] H (Ret fun v H' => Ext H H' ∧ R_4 r H.next H' v) := by
 unfold f18 at hp
 replace hp := topS hp
 refine SCall.g Tryz.func18 rfl rfl rfl rfl rfl (l := [(0, .v (.slice a_x0 x0.length c_x0))]) (fun _ => rfl) (fun B abB => ?_)
 refine WJ.adv 6 rfl ?_
 obtain ⟨K1, hK1, hp⟩ : ∃ K, K = _ ∧ Option.bind _ K = some r := ⟨_, rfl, cutS hp⟩
 refine WJ.cut 2 (α := Unit) (fun y => [(0, .v (.slice a_x0 x0.length c_x0))]) (fun y => []) (fun y => []) (fun y => B) (fun y => K1 ((Sum.inr ())) = some r) ?_ (fun j1 => ?_)
 ·rintro u hp
  subst hK1
  show WJ _ _ _ B [] _ _ ⟨[(0, .v (.slice a_x0 x0.length c_x0))], [], true, 0⟩
  refine WJ.adv 6 rfl ?_
  obtain ⟨K2, hK2, hp⟩ : ∃ K, K = _ ∧ Option.bind _ K = some r := ⟨_, rfl, cutS hp⟩
  refine WJ.cut 2 (α := Unit) (fun y => []) (fun y => []) (fun y => []) (fun y => B) (fun y => K2 (Sum.inr ()) = some r) ?_ (fun j2 => ?_)
  ·rintro u hp
   subst hK2
   show WJ _ _ _ B [] _ _ ⟨[], [], true, 0⟩
   obtain rfl := endS (show some _ = some r from hp)
   exact WJ.rt 204 rfl rfl rfl (fun ids H' fr => ⟨fr.ext0, rfl⟩)
  ·refine WJ.lp 200 (α := Nat × Int) (fun y => [(0, .v (.slice a_x0 x0.length c_x0)), (3, .v (.int .i64 y.2))]) (fun y => []) (fun y => []) (fun y => B) (fun y => y.1) (fun y => Option.bind (f18_l1 x0 y.1 y.2) K2 = some r) (k, 0) rfl hp (by exact ⟨rfl, rfl, trivial⟩) rfl rfl rfl ?_
   rintro ⟨n, x3⟩ hp ih2
   show WJ _ _ _ B [] _ _ ⟨[(0, .v (.slice a_x0 x0.length c_x0)), (3, .v (.int .i64 x3))], [], true, 0⟩
   replace hp : Option.bind (f18_l1 x0 n x3) K2 = some r := hp
   cases n with
   | zero => rw [f18_l1] at hp; exact (noS hp).elim
   | succ n =>
    rw [f18_l1] at hp
    refine WJ.ci 206 hp rfl rfl rfl rfl rfl rfl rfl rfl rfl (fun hc20 hp => ?_) (fun hc20 hp => ?_)
    ·obtain ⟨⟨zgt, zfm, zgu, zgv, zgw, zgx⟩, e25, hp⟩ := bindS hp
     obtain ⟨b25, o25, cs25, i25, ⟨zfn, zfo, zgy, zgz, rfl, zg0, zg1⟩, p25⟩ := g_x0.at e25 u23 sz48
     refine WJ.hd (v := .pointer (some ⟨b25, o25, none⟩)) 209 rfl rfl rfl rfl (fun ids H' fr => opD_indexAddr rfl (evV_eq _ _ _ _ _ rfl) (evV_eq _ _ _ _ _ rfl) (i25 _)) rfl ?_
     refine WJ.hd (v := .slice zfn zfm.length zfo) 201 rfl rfl rfl rfl (fun ids H' fr => opD_load rfl (evV_eq _ _ _ _ _ rfl) ((p25.mono (Nat.zero_le _) fr.ext0.abv).load (d := 1) ag44 rfl)) rfl ?_
     refine WJ.ci 201 hp rfl rfl rfl rfl rfl rfl rfl rfl rfl (fun hc29 hp => ?_) (fun hc29 hp => ?_)
     ·subst hK2
      obtain rfl := endS (show some _ = some r from hp)
      exact WJ.rt 215 rfl rfl rfl (fun ids H' fr => ⟨fr.ext0, rfl⟩)
     ·obtain ⟨⟨zg2, zg3, zfp, zg4, zg5, zg6⟩, e33, hp⟩ := bindS hp
      obtain ⟨b33, o33, cs33, i33, ⟨zg7, zg8, zfq, zfr, rfl, zg9, zha⟩, p33⟩ := g_x0.at e33 u23 sz48
      refine WJ.hd (v := .pointer (some ⟨b33, o33, none⟩)) 203 rfl rfl rfl rfl (fun ids H' fr => opD_indexAddr rfl (evV_eq _ _ _ _ _ rfl) (evV_eq _ _ _ _ _ rfl) (i33 _)) rfl ?_
      refine WJ.hd (v := .slice zfq zfp.length zfr) 201 rfl rfl rfl rfl (fun ids H' fr => opD_load rfl (evV_eq _ _ _ _ _ rfl) ((p33.mono (Nat.zero_le _) fr.ext0.abv).load (d := 2) ag45 rfl)) rfl ?_
      refine WJ.ci 201 hp rfl rfl rfl rfl rfl rfl rfl rfl rfl (fun hc37 hp => ?_) (fun hc37 hp => ?_)
      ·subst hK2
       obtain rfl := endS (show some _ = some r from hp)
       exact WJ.rt 207 rfl rfl rfl (fun ids H' fr => ⟨fr.ext0, rfl⟩)
      ·exact WJ.ag 210 rfl (by exact ⟨rfl, rfl, trivial⟩) rfl rfl rfl (ih2 (n, IntKind.i64.wrap (x3 + 1)) hp (Nat.lt_succ_self _))
    ·exact WJ.goto 3 (j2 () hp) rfl rfl (by exact trivial) rfl rfl rfl
 ·refine WJ.ci 203 hp rfl rfl rfl rfl rfl rfl rfl rfl rfl (fun hc6 hp => ?_) (fun hc6 hp => ?_)
  ·refine WJ.ci 203 hp rfl rfl rfl rfl rfl rfl rfl rfl rfl (fun hc10 hp => ?_) (fun hc10 hp => ?_)
   ·subst hK1
    obtain rfl := endS (show some _ = some r from hp)
    exact WJ.rt 212 rfl rfl rfl (fun ids H' fr => ⟨fr.ext0, rfl⟩)
   ·refine WJ.ci 204 hp rfl rfl rfl rfl rfl rfl rfl rfl rfl (fun hc15 hp => ?_) (fun hc15 hp => ?_)
    ·subst hK1
     obtain rfl := endS (show some _ = some r from hp)
     exact WJ.rt 207 rfl rfl rfl (fun ids H' fr => ⟨fr.ext0, rfl⟩)
    ·exact WJ.goto 4 (j1 () hp) rfl rfl (by exact ⟨rfl, trivial⟩) rfl rfl rfl
  ·refine WJ.ci 208 hp rfl rfl rfl rfl rfl rfl rfl rfl rfl (fun hc15 hp => ?_) (fun hc15 hp => ?_)
   ·subst hK1
    obtain rfl := endS (show some _ = some r from hp)
    exact WJ.rt 207 rfl rfl rfl (fun ids H' fr => ⟨fr.ext0, rfl⟩)
   ·exact WJ.goto 4 (j1 () hp) rfl rfl (by exact ⟨rfl, trivial⟩) rfl rfl rfl
/-! 17 tipstaff/tipstafflaw38.own -/
def f17_l1 (x0 : List ViewT) : Nat → (List ViewT) → Int → Option ((List ViewT))
 | 0, _, _ => none
 | n + 1, l0_h6, zba =>
  if zba < (x0.length : Int) then
   (rd x0 zba).bind fun t14 =>
   (apd 16 ([] : List Reply) t14.Replies).bind fun l19 =>
   (apd 24 ([] : List Sight) t14.Sights).bind fun l23 =>
   (apd 80 l0_h6 ([(ViewT.mk t14.Tick l19 l23 t14.Up t14.Down t14.Word)] : List ViewT)).bind fun l29 =>
   f17_l1 x0 n l29 (IntKind.i64.wrap (zba + 1))
  else
   some (l0_h6)
def f17 (k : Nat) (x0 : List ViewT) : Option (List ViewT) :=
 (f17_l1 x0 k ([]) 0).bind fun l0_6 =>
  some l0_6
set_option maxHeartbeats 40000000 in
set_option maxRecDepth 20000 in
theorem f17_ok {k : Nat} {H : Hp} {a_x0 : Option Addr} {c_x0 : Nat} {x0 : List ViewT} {r : List ViewT} (g_x0 : SlF 0 H ViewTC a_x0 c_x0 x0) (hp : f17 k x0 = some r) :
  SCall Tryz.prog 17 [.slice a_x0 x0.length c_x0] H (Ret fun v H' => Ext H H' ∧ R_23 r H.next H' v) := by
 unfold f17 at hp
 replace hp := topS hp
 refine SCall.g Tryz.func17 rfl rfl rfl rfl rfl (l := [(0, .v (.slice a_x0 x0.length c_x0))]) (fun _ => rfl) (fun B abB => ?_)
 have gbg_x0 := g_x0.mono (Nat.le_refl _) abB
 refine WJ.adv 14 rfl ?_
 refine WJ.nw 6 ?_
 have rn0 : RepL ViewTC H.next B [] ([] : List ViewT) := rfl
 obtain ⟨K6, hK6, hp⟩ : ∃ K, K = _ ∧ Option.bind _ K = some r := ⟨_, rfl, cutS hp⟩
 refine WJ.cut 2 (α := (List ViewT) × (Option Addr) × Nat × (List Value) × Hp) (fun y => [(3, .v (.slice y.2.1 y.1.length y.2.2.1))]) (fun y => []) (fun y => [⟨y.2.1, y.2.2.1, 6, y.2.2.2.1⟩]) (fun y => y.2.2.2.2) (fun y => K6 (y.1) = some r ∧ SlF 0 y.2.2.2.2 ViewTC a_x0 c_x0 x0 ∧ RepL ViewTC H.next y.2.2.2.2 [] ([] : List ViewT) ∧ RepL ViewTC H.next y.2.2.2.2 y.2.2.2.1 y.1) ?_ (fun j6 => ?_)
 ·rintro ⟨l0_6, a0_6, c0_6, cs0_6, B5⟩ ⟨hp, gbg_x0, rn0, r0_6⟩
  subst hK6
  show WJ _ _ _ B5 [⟨a0_6, c0_6, 6, cs0_6⟩] _ _ ⟨[(3, .v (.slice a0_6 l0_6.length c0_6))], [], true, 0⟩
  obtain rfl := endS (show some _ = some r from hp)
  exact WJ.rt 205 rfl rfl rfl (fun ids H' fr => ⟨fr.ext0, ⟨_, _, rfl, (fr.slN (j := 0) rfl rfl rfl r0_6 (Nat.le_refl _))⟩⟩)
 ·refine WJ.lp 200 (α := Nat × (List ViewT) × Int × (Option Addr) × Nat × (List Value) × Hp) (fun y => [(0, .v (.slice a_x0 x0.length c_x0)), (3, .v (.slice y.2.2.2.1 y.2.1.length y.2.2.2.2.1)), (4, .v (.int .i64 y.2.2.1))]) (fun y => []) (fun y => [⟨y.2.2.2.1, y.2.2.2.2.1, 6, y.2.2.2.2.2.1⟩]) (fun y => y.2.2.2.2.2.2) (fun y => y.1) (fun y => Option.bind (f17_l1 x0 y.1 y.2.1 y.2.2.1) K6 = some r ∧ SlF 0 y.2.2.2.2.2.2 ViewTC a_x0 c_x0 x0 ∧ RepL ViewTC H.next y.2.2.2.2.2.2 [] ([] : List ViewT) ∧ RepL ViewTC H.next y.2.2.2.2.2.2 y.2.2.2.2.2.1 y.2.1) (k, ([] : List ViewT), 0, none, 0, [], B) rfl ⟨hp, gbg_x0, rn0, rn0⟩ (by exact ⟨rfl, rfl, rfl, trivial⟩) rfl rfl rfl ?_
  rintro ⟨n, l0_h6, zba, a0_h6, c0_h6, cs0_h6, B1⟩ ⟨hp, gbg_x0, rn0, r0_h6⟩ ih6
  show WJ _ _ _ B1 [⟨a0_h6, c0_h6, 6, cs0_h6⟩] _ _ ⟨[(0, .v (.slice a_x0 x0.length c_x0)), (3, .v (.slice a0_h6 l0_h6.length c0_h6)), (4, .v (.int .i64 zba))], [], true, 0⟩
  replace hp : Option.bind (f17_l1 x0 n l0_h6 zba) K6 = some r := hp
  cases n with
  | zero => rw [f17_l1] at hp; exact (noS hp).elim
  | succ n =>
   rw [f17_l1] at hp
   refine WJ.ci 206 hp rfl rfl rfl rfl rfl rfl rfl rfl rfl (fun hc9 hp => ?_) (fun hc9 hp => ?_)
   ·obtain ⟨⟨zj, zb, za, zk, zl, zi⟩, e14, hp⟩ := bindS hp
    obtain ⟨b14, o14, cs14, i14, ⟨zg, zh, ze, zf, rfl, zc, zd⟩, p14⟩ := gbg_x0.at e14 u23 sz48
    refine WJ.hd (v := .pointer (some ⟨b14, o14, none⟩)) 209 rfl rfl rfl rfl (fun ids H' fr => opD_indexAddr rfl (evV_eq _ _ _ _ _ rfl) (evV_eq _ _ _ _ _ rfl) (i14 _)) rfl ?_
    refine WJ.hd (v := .agg ⟨[.int .i64 zj, .slice zg zb.length zh, .slice ze za.length zf, .int .u64 zk, .int .u64 zl, .int .i64 zi]⟩) 200 rfl rfl rfl rfl (fun ids H' fr => opD_load rfl (evV_eq _ _ _ _ _ rfl) ((p14.mono (Nat.zero_le _) (fr.abv.le (Nat.zero_le _))).loadN (d := 0) ag48 sz48 rfl rfl)) rfl ?_
    refine WJ.adv 1 rfl ?_
    refine WJ.liftS (loc := []) rfl rfl (fun bv0 => ?_)
    refine WJ.sb 200 (j := 1) rfl rfl rfl rfl rfl rfl rfl rfl rfl rfl ?_
    refine WJ.drCG (c := 7) (m := 5) 202 rfl gmix (by kernel_rfl) (by kernel_rfl) rfl rfl (fun D2 eD2 abD2 obD2 => ?_)
    have o_gbg_x0 := gbg_x0
    have o_rn0 := rn0
    have o_r0_h6 := r0_h6
    have zhb := zc
    have zhc := zd
    have o_p14 := p14
    refine WD.bs (cs := encL Reply.cs ([] : List Reply)) (sz := 2) (pl := []) rfl rfl rfl rfl rfl (fun _ _ => rfl) (fun _ => by rfl) rfl rfl ?_
    intro b16
    refine ⟨_, rfl, ?_⟩
    refine WD.hd (v := .slice zg zb.length zh) rfl rfl rfl rfl (fun ids H' s0 h0 f => side_load rfl rfl rfl (obD2 1 _ _ rfl rfl) h0 f) (fun ids H' fr => opD_load rfl (evV_eq _ _ _ _ _ rfl) (fr.ldOwn (j := 1) rfl rfl)) rfl ?_
    obtain ⟨l19, e19, hp⟩ := bindS hp
    obtain ⟨bd19, rfl⟩ := apd_some e19
    refine WD.ap0 (L2 := zb) 2 rfl rfl rfl rfl rfl rfl rfl rfl (el44 rfl) rfl (fun _ => rfl) (fun _ => rfl) rfl (fun ids H' fr => (zc.mono (Nat.zero_le _) (fr.abv.le (Nat.zero_le _))).srcF) bd19 ?_
    intro a19 c19
    refine ⟨_, rfl, ?_⟩
    refine WD.bs (cs := encL Sight.cs ([] : List Sight)) (sz := 3) (pl := []) rfl rfl rfl rfl rfl (fun _ _ => rfl) (fun _ => by rfl) rfl rfl ?_
    intro b20
    refine ⟨_, rfl, ?_⟩
    refine WD.hd (v := .slice ze za.length zf) rfl rfl rfl rfl (fun ids H' s0 h0 f => side_load rfl rfl rfl (obD2 1 _ _ rfl rfl) h0 f) (fun ids H' fr => opD_load rfl (evV_eq _ _ _ _ _ rfl) (fr.ldOwn (j := 1) rfl rfl)) rfl ?_
    refine WD.done rfl ?_
    refine WJ.ph2 ?_
    obtain ⟨l23, e23, hp⟩ := bindS hp
    obtain ⟨bd23, rfl⟩ := apd_some e23
    refine WD.ap (L := ([] : List Sight)) (L2 := za) 3 rfl rfl rfl rfl rfl rfl rfl rfl (el45 rfl) rfl (fun _ => rfl) (fun _ => rfl) rfl (fun ids H' fr => (zd.mono (Nat.zero_le _) (fr.abv.le (Nat.zero_le _))).srcF) bd23 ?_
    intro a23 c23
    refine ⟨_, rfl, ?_⟩
    refine WD.sb (j := 1) rfl rfl rfl rfl rfl rfl rfl rfl rfl rfl ?_
    refine WD.sb (j := 1) rfl rfl rfl rfl rfl rfl rfl rfl rfl rfl ?_
    refine WD.done rfl ?_
    refine WJ.hd (v := .agg ⟨[.int .i64 zj, .slice a19 (([] : List Reply) ++ zb).length c19, .slice a23 (([] : List Sight) ++ za).length c23, .int .u64 zk, .int .u64 zl, .int .i64 zi]⟩) 202 rfl rfl rfl rfl (fun ids H' fr => opD_load rfl (evV_eq _ _ _ _ _ rfl) (fr.ldOwn (j := 1) rfl rfl)) rfl ?_
    refine WJ.fz (c := ReplyC) (j := 2) rfl rfl rfl (repL_flat.2 rfl) ?_
    rintro B3 ⟨abB3, ivB3⟩ gz2
    replace gbg_x0 := gbg_x0.mono (Nat.le_refl _) (abB3.le (Nat.zero_le _))
    replace rn0 := rn0.mono (Nat.le_refl _) (abB3.le (Nat.zero_le _))
    replace r0_h6 := r0_h6.mono (Nat.le_refl _) (abB3.le (Nat.zero_le _))
    replace zc := zc.mono (Nat.le_refl _) (abB3.le (Nat.zero_le _))
    replace zd := zd.mono (Nat.le_refl _) (abB3.le (Nat.zero_le _))
    replace p14 := p14.mono (Nat.le_refl _) (abB3.le (Nat.zero_le _))
    refine WJ.fz (c := SightC) (j := 3) rfl rfl rfl (repL_flat.2 rfl) ?_
    rintro B4 ⟨abB4, ivB4⟩ gz3
    replace gbg_x0 := gbg_x0.mono (Nat.le_refl _) (abB4.le (Nat.zero_le _))
    replace rn0 := rn0.mono (Nat.le_refl _) (abB4.le (Nat.zero_le _))
    replace r0_h6 := r0_h6.mono (Nat.le_refl _) (abB4.le (Nat.zero_le _))
    replace zc := zc.mono (Nat.le_refl _) (abB4.le (Nat.zero_le _))
    replace zd := zd.mono (Nat.le_refl _) (abB4.le (Nat.zero_le _))
    replace p14 := p14.mono (Nat.le_refl _) (abB4.le (Nat.zero_le _))
    replace gz2 := gz2.mono (Nat.le_refl _) (abB4.le (Nat.zero_le _))
    refine WJ.bs (cs := [.int .i64 zj, .slice a19 (([] : List Reply) ++ zb).length c19, .slice a23 (([] : List Sight) ++ za).length c23, .int .u64 zk, .int .u64 zl, .int .i64 zi]) (sz := 6) (pl := [(0, .agg ⟨[.int .i64 zj, .slice a19 (([] : List Reply) ++ zb).length c19, .slice a23 (([] : List Sight) ++ za).length c23, .int .u64 zk, .int .u64 zl, .int .i64 zi]⟩)]) 200 rfl rfl rfl rfl rfl (fun _ _ => rfl) (fun _ => by rfl) rfl rfl ?_
    intro b28
    refine ⟨_, rfl, ?_⟩
    obtain ⟨l29, e29, hp⟩ := bindS hp
    obtain ⟨bd29, rfl⟩ := apd_some e29
    refine WJ.apN (cs := cs0_h6) (new := [.int .i64 zj, .slice a19 (([] : List Reply) ++ zb).length c19, .slice a23 (([] : List Sight) ++ za).length c23, .int .u64 zk, .int .u64 zl, .int .i64 zi]) (L := l0_h6) (L2 := ([(ViewT.mk zj (([] : List Reply) ++ zb) (([] : List Sight) ++ za) zk zl zi)] : List ViewT)) 200 0 rfl rfl rfl rfl rfl rfl rfl rfl r0_h6.len (el23 rfl) rfl rfl (fun ids H' fr => fr.srcBox (j := 4) rfl rfl (by decide)) rfl rfl bd29 ?_
    intro a29 c29
    refine ⟨_, rfl, ?_⟩
    have rp29 : RepL ViewTC H.next B4 (cs0_h6 ++ [.int .i64 zj, .slice a19 (([] : List Reply) ++ zb).length c19, .slice a23 (([] : List Sight) ++ za).length c23, .int .u64 zk, .int .u64 zl, .int .i64 zi]) (l0_h6 ++ ([(ViewT.mk zj (([] : List Reply) ++ zb) (([] : List Sight) ++ za) zk zl zi)] : List ViewT)) := r0_h6.append ⟨[.int .i64 zj, .slice a19 (([] : List Reply) ++ zb).length c19, .slice a23 (([] : List Sight) ++ za).length c23, .int .u64 zk, .int .u64 zl, .int .i64 zi], [], rfl, ⟨_, _, _, _, rfl, gz2, gz3⟩, rfl⟩
    refine WJ.pop [⟨a29, c29, 6, (cs0_h6 ++ [.int .i64 zj, .slice a19 (([] : List Reply) ++ zb).length c19, .slice a23 (([] : List Sight) ++ za).length c23, .int .u64 zk, .int .u64 zl, .int .i64 zi])⟩, ⟨some ⟨bv0, 0, none⟩, 6, 1, [.int .i64 zj, .slice a19 (([] : List Reply) ++ zb).length c19, .slice a23 (([] : List Sight) ++ za).length c23, .int .u64 zk, .int .u64 zl, .int .i64 zi]⟩, ⟨none, 0, 2, []⟩, ⟨none, 0, 3, []⟩] rfl ?_
    exact WJ.ag 208 rfl (by exact ⟨rfl, rfl, rfl, trivial⟩) rfl rfl rfl (ih6 (n, (l0_h6 ++ ([(ViewT.mk zj (([] : List Reply) ++ zb) (([] : List Sight) ++ za) zk zl zi)] : List ViewT)), IntKind.i64.wrap (zba + 1), a29, c29, (cs0_h6 ++ [.int .i64 zj, .slice a19 (([] : List Reply) ++ zb).length c19, .slice a23 (([] : List Sight) ++ za).length c23, .int .u64 zk, .int .u64 zl, .int .i64 zi]), B4) ⟨hp, gbg_x0, rn0, rp29⟩ (Nat.lt_succ_self _))
   ·exact WJ.goto 3 (j6 (l0_h6, a0_h6, c0_h6, cs0_h6, B1) ⟨hp, gbg_x0, rn0, r0_h6⟩) rfl rfl (by exact ⟨rfl, trivial⟩) rfl rfl rfl
/-! 50 tipstaff/trace.in -/
def f50 (x0 : Int) (x1 : Int) (x2 : Int) : Option Bool :=
 if x0 ≥ x1 then
  (some (decide (x0 ≤ x2))).bind fun t13 =>
  some t13
 else
  some false
set_option maxHeartbeats 40000000 in
set_option maxRecDepth 20000 in
theorem f50_ok {H : Hp} {x0 : Int} {x1 : Int} {x2 : Int} {r : Bool} (hp : f50 x0 x1 x2 = some r) :
  SCall Tryz.prog 50 [.int .i64 x0, .int .i64 x1, .int .i64 x2] H (Ret fun v H' => Ext H H' ∧ R_4 r H.next H' v) := by
 unfold f50 at hp
 replace hp := topS hp
 refine SCall.g Tryz.func50 rfl rfl rfl rfl rfl (l := [(0, .v (.int .i64 x0)), (1, .v (.int .i64 x1)), (2, .v (.int .i64 x2))]) (fun _ => rfl) (fun B abB => ?_)
 refine WJ.ci 208 hp rfl rfl rfl rfl rfl rfl rfl rfl rfl (fun hc9 hp => ?_) (fun hc9 hp => ?_)
 ·obtain ⟨t13, e13, hp⟩ := bindS hp
  refine WJ.cv 203 (b := t13) (H0 := ⟨.nil, 0, 0⟩) rfl rfl rfl rfl rfl rfl (by rw [← endS e13]; exact rfl) rfl ?_
  obtain rfl := endS (show some _ = some r from hp)
  exact WJ.rt 203 rfl rfl rfl (fun ids H' fr => ⟨fr.ext0, rfl⟩)
 ·obtain rfl := endS (show some _ = some r from hp)
  exact WJ.rt 207 rfl rfl rfl (fun ids H' fr => ⟨fr.ext0, rfl⟩)
/-! 52 tipstaff/trace.replyOf -/
def f52 (x0 : Reply) : Option Bool :=
 (f50 x0.Port 0 23).bind fun t5 =>
 if t5 then
  (f50 x0.Code 1 6).bind fun t9 =>
  some t9
 else
  some false
set_option maxHeartbeats 40000000 in
set_option maxRecDepth 20000 in
theorem f52_ok {H : Hp} {x0 : Reply} {r : Bool} (hp : f52 x0 = some r) :
  SCall Tryz.prog 52 [.agg ⟨[.int .i64 x0.Port, .int .i64 x0.Code]⟩] H (Ret fun v H' => Ext H H' ∧ R_4 r H.next H' v) := by
 obtain ⟨zfs, zft⟩ := x0
 unfold f52 at hp
 replace hp := topS hp
 refine SCall.g Tryz.func52 rfl rfl rfl rfl rfl (l := [(0, .v (.agg ⟨[.int .i64 zfs, .int .i64 zft]⟩))]) (fun _ => rfl) (fun B abB => ?_)
 obtain ⟨t5, e5, hp⟩ := bindS hp
 refine WJ.cl 209 (R := R_4 t5) (fun hm h k => R_4.mono hm h k) rfl (fun ids H' fr => f50_ok e5) ?_
 rintro v B1 ⟨abB1, ivB1⟩ rfl
 refine ⟨_, rfl, ?_⟩
 cases t5
 ·replace hp := (itS hp).2 Bool.false_ne_true
  obtain rfl := endS (show some _ = some r from hp)
  exact WJ.rt 207 rfl rfl rfl (fun ids H' fr => ⟨fr.ext0, rfl⟩)
 ·replace hp := (itS hp).1 rfl
  obtain ⟨t9, e9, hp⟩ := bindS hp
  refine WJ.cl 203 (R := R_4 t9) (fun hm h k => R_4.mono hm h k) rfl (fun ids H' fr => f50_ok e9) ?_
  rintro v B2 ⟨abB2, ivB2⟩ rfl
  refine ⟨_, rfl, ?_⟩
  obtain rfl := endS (show some _ = some r from hp)
  exact WJ.rt 203 rfl rfl rfl (fun ids H' fr => ⟨fr.ext0, rfl⟩)
/-! 54 tipstaff/trace.sightOf -/
def f54 (x0 : Sight) : Option Bool :=
 (f50 x0.Floor (-1) 63).bind fun t5 =>
 if t5 then
  (f50 x0.Panel 0 20).bind fun t9 =>
  some t9
 else
  some false
set_option maxHeartbeats 40000000 in
set_option maxRecDepth 20000 in
theorem f54_ok {H : Hp} {x0 : Sight} {r : Bool} (hp : f54 x0 = some r) :
  SCall Tryz.prog 54 [.agg ⟨[.int .i64 x0.Floor, .int .i64 x0.Panel, .bool x0.Out]⟩] H (Ret fun v H' => Ext H H' ∧ R_4 r H.next H' v) := by
 obtain ⟨zfu, zfv, zfw⟩ := x0
 unfold f54 at hp
 replace hp := topS hp
 refine SCall.g Tryz.func54 rfl rfl rfl rfl rfl (l := [(0, .v (.agg ⟨[.int .i64 zfu, .int .i64 zfv, .bool zfw]⟩))]) (fun _ => rfl) (fun B abB => ?_)
 obtain ⟨t5, e5, hp⟩ := bindS hp
 refine WJ.cl 209 (R := R_4 t5) (fun hm h k => R_4.mono hm h k) rfl (fun ids H' fr => f50_ok e5) ?_
 rintro v B1 ⟨abB1, ivB1⟩ rfl
 refine ⟨_, rfl, ?_⟩
 cases t5
 ·replace hp := (itS hp).2 Bool.false_ne_true
  obtain rfl := endS (show some _ = some r from hp)
  exact WJ.rt 207 rfl rfl rfl (fun ids H' fr => ⟨fr.ext0, rfl⟩)
 ·replace hp := (itS hp).1 rfl
  obtain ⟨t9, e9, hp⟩ := bindS hp
  refine WJ.cl 203 (R := R_4 t9) (fun hm h k => R_4.mono hm h k) rfl (fun ids H' fr => f50_ok e9) ?_
  rintro v B2 ⟨abB2, ivB2⟩ rfl
  refine ⟨_, rfl, ?_⟩
  obtain rfl := endS (show some _ = some r from hp)
  exact WJ.rt 203 rfl rfl rfl (fun ids H' fr => ⟨fr.ext0, rfl⟩)
end
end Go.Proofs.YtppedainpmjbmaaGreatDoor
set_option linter.unusedVariables false
set_option linter.unusedSimpArgs false
namespace Go.Proofs.YtppedainpmjbmaaGreatDoor
open Go Go.Det Go.RowKit
noncomputable section
/-! 19 tipstaff/trace.Check -/
def f19_l2 (zb : List Reply) : Nat → Int → Option ((Unit) ⊕ (Int))
 | 0, _ => none
 | n + 1, zay =>
  (some (decide (zay < (zb.length : Int)))).bind fun t9u1 =>
  if t9u1 then
   (rd zb zay).bind fun t14u1 =>
   (f52 (Reply.mk t14u1.Port t14u1.Code)).bind fun t6u4 =>
   if t6u4 then
    f19_l2 zb n (IntKind.i64.wrap (zay + 1))
   else
    some (Sum.inr zay)
  else
   some (Sum.inl ())
def f19_l3 (za : List Sight) : Nat → Int → Option ((Unit) ⊕ (Int))
 | 0, _ => none
 | n + 1, zaz =>
  (some (decide (zaz < (za.length : Int)))).bind fun t9u2 =>
  if t9u2 then
   (rd za zaz).bind fun t14u2 =>
   (f54 (Sight.mk t14u2.Floor t14u2.Panel t14u2.Out)).bind fun t6u8 =>
   if t6u8 then
    f19_l3 za n (IntKind.i64.wrap (zaz + 1))
   else
    some (Sum.inr zaz)
  else
   some (Sum.inl ())
def f19_l4 (zb : List Reply) : Nat → Int → Option ((Unit) ⊕ (Int))
 | 0, _ => none
 | n + 1, za0 =>
  (some (decide (za0 < (zb.length : Int)))).bind fun t9u3 =>
  if t9u3 then
   (rd zb za0).bind fun t14u3 =>
   (f52 (Reply.mk t14u3.Port t14u3.Code)).bind fun t6u12 =>
   if t6u12 then
    f19_l4 zb n (IntKind.i64.wrap (za0 + 1))
   else
    some (Sum.inr za0)
  else
   some (Sum.inl ())
def f19_l5 (za : List Sight) : Nat → Int → Option ((Unit) ⊕ (Int))
 | 0, _ => none
 | n + 1, za1 =>
  (some (decide (za1 < (za.length : Int)))).bind fun t9u4 =>
  if t9u4 then
   (rd za za1).bind fun t14u4 =>
   (f54 (Sight.mk t14u4.Floor t14u4.Panel t14u4.Out)).bind fun t6u16 =>
   if t6u16 then
    f19_l5 za n (IntKind.i64.wrap (za1 + 1))
   else
    some (Sum.inr za1)
  else
   some (Sum.inl ())
def f19_l6 (zb : List Reply) : Nat → Int → Option ((Unit) ⊕ (Int))
 | 0, _ => none
 | n + 1, za2 =>
  (some (decide (za2 < (zb.length : Int)))).bind fun t9u5 =>
  if t9u5 then
   (rd zb za2).bind fun t14u5 =>
   (f52 (Reply.mk t14u5.Port t14u5.Code)).bind fun t6u20 =>
   if t6u20 then
    f19_l6 zb n (IntKind.i64.wrap (za2 + 1))
   else
    some (Sum.inr za2)
  else
   some (Sum.inl ())
def f19_l7 (za : List Sight) : Nat → Int → Option ((Unit) ⊕ (Int))
 | 0, _ => none
 | n + 1, za3 =>
  (some (decide (za3 < (za.length : Int)))).bind fun t9u6 =>
  if t9u6 then
   (rd za za3).bind fun t14u6 =>
   (f54 (Sight.mk t14u6.Floor t14u6.Panel t14u6.Out)).bind fun t6u24 =>
   if t6u24 then
    f19_l7 za n (IntKind.i64.wrap (za3 + 1))
   else
    some (Sum.inr za3)
  else
   some (Sum.inl ())
def f19_l8 (zb : List Reply) : Nat → Int → Option ((Unit) ⊕ (Int))
 | 0, _ => none
 | n + 1, za4 =>
  (some (decide (za4 < (zb.length : Int)))).bind fun t9u7 =>
  if t9u7 then
   (rd zb za4).bind fun t14u7 =>
   (f52 (Reply.mk t14u7.Port t14u7.Code)).bind fun t6u28 =>
   if t6u28 then
    f19_l8 zb n (IntKind.i64.wrap (za4 + 1))
   else
    some (Sum.inr za4)
  else
   some (Sum.inl ())
def f19_l9 (za : List Sight) : Nat → Int → Option ((Unit) ⊕ (Int))
 | 0, _ => none
 | n + 1, za5 =>
  (some (decide (za5 < (za.length : Int)))).bind fun t9u8 =>
  if t9u8 then
   (rd za za5).bind fun t14u8 =>
   (f54 (Sight.mk t14u8.Floor t14u8.Panel t14u8.Out)).bind fun t6u32 =>
   if t6u32 then
    f19_l9 za n (IntKind.i64.wrap (za5 + 1))
   else
    some (Sum.inr za5)
  else
   some (Sum.inl ())
def f19_l1 (k : Nat) (x0 : List ViewT) : Nat → Int → Option ((Unit) ⊕ (Int × Int))
 | 0, _ => none
 | n + 1, zm =>
  (some (decide (zm < (x0.length : Int)))).bind fun t12 =>
  if t12 then
   (rd x0 zm).bind fun t14 =>
   if zm = 0 then
    (f50 t14.Tick 0 1099511622776).bind fun t22 =>
    if t22 then
     (if zm > 0 then
      (rd x0 (IntKind.i64.wrap (zm - 1))).bind fun t35 =>
      if t14.Tick = (IntKind.i64.wrap (t35.Tick + 1)) then
       (f50 (t14.Sights.length : Int) 1 8).bind fun t46 =>
       if t46 then
        (rd x0 0).bind fun t53 =>
        if (t14.Sights.length : Int) = (t53.Sights.length : Int) then
         if (t14.Replies.length : Int) > 50 then
          some (Sum.inl ((4, zm) : Int × Int))
         else
          ((f19_l2 t14.Replies k 0).bind fun s => match s with
           | .inl _ => 
            some (((-1) : Int))
           | .inr st => some (st)).bind fun x7_11 =>
           (some (decide (x7_11 ≥ 0))).bind fun t8u3 =>
           if t8u3 then
            some (Sum.inl ((2, zm) : Int × Int))
           else
            ((f19_l3 t14.Sights k 0).bind fun s => match s with
             | .inl _ => 
              some (((-1) : Int))
             | .inr st => some (st)).bind fun x7_13 =>
             (some (decide (x7_13 ≥ 0))).bind fun t8u8 =>
             if t8u8 then
              some (Sum.inl ((2, zm) : Int × Int))
             else
              (f50 t14.Word (-1) 255).bind fun t80 =>
              if t80 then
               some (Sum.inr ())
              else
               some (Sum.inl ((2, zm) : Int × Int))
        else
         some (Sum.inl ((3, zm) : Int × Int))
       else
        some (Sum.inl ((3, zm) : Int × Int))
      else
       some (Sum.inl ((8, zm) : Int × Int))
     else
      (f50 (t14.Sights.length : Int) 1 8).bind fun t46u1 =>
      if t46u1 then
       (rd x0 0).bind fun t53u1 =>
       if (t14.Sights.length : Int) = (t53u1.Sights.length : Int) then
        if (t14.Replies.length : Int) > 50 then
         some (Sum.inl ((4, zm) : Int × Int))
        else
         ((f19_l4 t14.Replies k 0).bind fun s => match s with
          | .inl _ => 
           some (((-1) : Int))
          | .inr st => some (st)).bind fun x7_15 =>
          (some (decide (x7_15 ≥ 0))).bind fun t8u15 =>
          if t8u15 then
           some (Sum.inl ((2, zm) : Int × Int))
          else
           ((f19_l5 t14.Sights k 0).bind fun s => match s with
            | .inl _ => 
             some (((-1) : Int))
            | .inr st => some (st)).bind fun x7_17 =>
            (some (decide (x7_17 ≥ 0))).bind fun t8u20 =>
            if t8u20 then
             some (Sum.inl ((2, zm) : Int × Int))
            else
             (f50 t14.Word (-1) 255).bind fun t80u1 =>
             if t80u1 then
              some (Sum.inr ())
             else
              some (Sum.inl ((2, zm) : Int × Int))
       else
        some (Sum.inl ((3, zm) : Int × Int))
      else
       some (Sum.inl ((3, zm) : Int × Int))).bind fun s => match s with
      | .inl st => some (Sum.inr st)
      | .inr _ => 
       f19_l1 k x0 n (IntKind.i64.wrap (zm + 1))
    else
     some (Sum.inr ((2, zm) : Int × Int))
   else
    (if zm > 0 then
     (rd x0 (IntKind.i64.wrap (zm - 1))).bind fun t35u1 =>
     if t14.Tick = (IntKind.i64.wrap (t35u1.Tick + 1)) then
      (f50 (t14.Sights.length : Int) 1 8).bind fun t46u2 =>
      if t46u2 then
       (rd x0 0).bind fun t53u2 =>
       if (t14.Sights.length : Int) = (t53u2.Sights.length : Int) then
        if (t14.Replies.length : Int) > 50 then
         some (Sum.inl ((4, zm) : Int × Int))
        else
         ((f19_l6 t14.Replies k 0).bind fun s => match s with
          | .inl _ => 
           some (((-1) : Int))
          | .inr st => some (st)).bind fun x7_20 =>
          (some (decide (x7_20 ≥ 0))).bind fun t8u27 =>
          if t8u27 then
           some (Sum.inl ((2, zm) : Int × Int))
          else
           ((f19_l7 t14.Sights k 0).bind fun s => match s with
            | .inl _ => 
             some (((-1) : Int))
            | .inr st => some (st)).bind fun x7_22 =>
            (some (decide (x7_22 ≥ 0))).bind fun t8u32 =>
            if t8u32 then
             some (Sum.inl ((2, zm) : Int × Int))
            else
             (f50 t14.Word (-1) 255).bind fun t80u2 =>
             if t80u2 then
              some (Sum.inr ())
             else
              some (Sum.inl ((2, zm) : Int × Int))
       else
        some (Sum.inl ((3, zm) : Int × Int))
      else
       some (Sum.inl ((3, zm) : Int × Int))
     else
      some (Sum.inl ((8, zm) : Int × Int))
    else
     (f50 (t14.Sights.length : Int) 1 8).bind fun t46u3 =>
     if t46u3 then
      (rd x0 0).bind fun t53u3 =>
      if (t14.Sights.length : Int) = (t53u3.Sights.length : Int) then
       if (t14.Replies.length : Int) > 50 then
        some (Sum.inl ((4, zm) : Int × Int))
       else
        ((f19_l8 t14.Replies k 0).bind fun s => match s with
         | .inl _ => 
          some (((-1) : Int))
         | .inr st => some (st)).bind fun x7_24 =>
         (some (decide (x7_24 ≥ 0))).bind fun t8u39 =>
         if t8u39 then
          some (Sum.inl ((2, zm) : Int × Int))
         else
          ((f19_l9 t14.Sights k 0).bind fun s => match s with
           | .inl _ => 
            some (((-1) : Int))
           | .inr st => some (st)).bind fun x7_26 =>
           (some (decide (x7_26 ≥ 0))).bind fun t8u44 =>
           if t8u44 then
            some (Sum.inl ((2, zm) : Int × Int))
           else
            (f50 t14.Word (-1) 255).bind fun t80u3 =>
            if t80u3 then
             some (Sum.inr ())
            else
             some (Sum.inl ((2, zm) : Int × Int))
      else
       some (Sum.inl ((3, zm) : Int × Int))
     else
      some (Sum.inl ((3, zm) : Int × Int))).bind fun s => match s with
     | .inl st => some (Sum.inr st)
     | .inr _ => 
      f19_l1 k x0 n (IntKind.i64.wrap (zm + 1))
  else
   some (Sum.inl ())
def f19 (k : Nat) (x0 : List ViewT) : Option (Int × Int) :=
 if (x0.length : Int) > 5000 then
  some (4, 0)
 else
  (f19_l1 k x0 k 0).bind fun s => match s with
   | .inl _ => 
    some (0, 0)
   | .inr st => some st
set_option maxHeartbeats 40000000 in
set_option maxRecDepth 20000 in
theorem f19_ok {k : Nat} {H : Hp} {a_x0 : Option Addr} {c_x0 : Nat} {x0 : List ViewT} {r : Int × Int} (g_x0 : SlF 0 H ViewTC a_x0 c_x0 x0) (hp : f19 k x0 = some r) :
  SCall Tryz.prog 19 [.slice a_x0 x0.length c_x0] H (Ret fun v H' => Ext H H' ∧ R_24_3 r H.next H' v) := by
 unfold f19 at hp
 replace hp := topS hp
 refine SCall.g Tryz.func19 rfl rfl rfl rfl rfl (l := [(0, .v (.slice a_x0 x0.length c_x0))]) (fun _ => rfl) (fun B abB => ?_)
 have gbg_x0 := g_x0.mono (Nat.le_refl _) abB
 refine WJ.ci 210 hp rfl rfl rfl rfl rfl rfl rfl rfl rfl (fun hc8 hp => ?_) (fun hc8 hp => ?_)
 ·obtain rfl := endS (show some _ = some r from hp)
  exact WJ.rt 207 rfl rfl rfl (fun ids H' fr => ⟨fr.ext0, rfl⟩)
 ·refine WJ.adv 11 rfl ?_
  obtain ⟨K9, hK9, hp⟩ : ∃ K, K = _ ∧ Option.bind _ K = some r := ⟨_, rfl, cutS hp⟩
  refine WJ.cut 2 (α := Hp) (fun y => []) (fun y => []) (fun y => []) (fun y => y) (fun y => K9 (Sum.inl ()) = some r ∧ SlF 0 y ViewTC a_x0 c_x0 x0) ?_ (fun j9 => ?_)
  ·rintro B45 ⟨hp, gbg_x0⟩
   subst hK9
   show WJ _ _ _ B45 [] _ _ ⟨[], [], true, 0⟩
   obtain rfl := endS (show some _ = some r from hp)
   exact WJ.rt 205 rfl rfl rfl (fun ids H' fr => ⟨fr.ext0, rfl⟩)
  ·refine WJ.lp 200 (α := Nat × Int × Hp) (fun y => [(0, .v (.slice a_x0 x0.length c_x0)), (9, .v (.slice a_x0 x0.length c_x0)), (10, .v (.int .i64 ((x0.length : Nat) : Int))), (11, .v (.int .i64 y.2.1))]) (fun y => []) (fun y => []) (fun y => y.2.2) (fun y => y.1) (fun y => Option.bind (f19_l1 k x0 y.1 y.2.1) K9 = some r ∧ SlF 0 y.2.2 ViewTC a_x0 c_x0 x0) (k, 0, B) rfl ⟨hp, gbg_x0⟩ (by exact ⟨rfl, rfl, rfl, rfl, trivial⟩) rfl rfl rfl ?_
   rintro ⟨n, zm, B1⟩ ⟨hp, gbg_x0⟩ ih9
   show WJ _ _ _ B1 [] _ _ ⟨[(0, .v (.slice a_x0 x0.length c_x0)), (9, .v (.slice a_x0 x0.length c_x0)), (10, .v (.int .i64 ((x0.length : Nat) : Int))), (11, .v (.int .i64 zm))], [], true, 0⟩
   replace hp : Option.bind (f19_l1 k x0 n zm) K9 = some r := hp
   cases n with
   | zero => rw [f19_l1] at hp; exact (noS hp).elim
   | succ n =>
    rw [f19_l1] at hp
    obtain ⟨t12, e12, hp⟩ := bindS hp
    refine WJ.cv 202 (b := t12) (H0 := ⟨.nil, 0, 0⟩) rfl rfl rfl rfl rfl rfl (by rw [← endS e12]; exact rfl) rfl ?_
    cases t12
    ·replace hp := (itS hp).2 Bool.false_ne_true
     exact WJ.goto 4 (j9 B1 ⟨hp, gbg_x0⟩) rfl rfl (by exact trivial) rfl rfl rfl
    ·replace hp := (itS hp).1 rfl
     obtain ⟨⟨zj, zb, za, zk, zl, zi⟩, e14, hp⟩ := bindS hp
     obtain ⟨b14, o14, cs14, i14, ⟨zg, zh, ze, zf, rfl, zc, zd⟩, p14⟩ := gbg_x0.at e14 u23 sz48
     refine WJ.hd (v := .pointer (some ⟨b14, o14, none⟩)) 209 rfl rfl rfl rfl (fun ids H' fr => opD_indexAddr rfl (evV_eq _ _ _ _ _ rfl) (evV_eq _ _ _ _ _ rfl) (i14 _)) rfl ?_
     refine WJ.hd (v := .agg ⟨[.int .i64 zj, .slice zg zb.length zh, .slice ze za.length zf, .int .u64 zk, .int .u64 zl, .int .i64 zi]⟩) 200 rfl rfl rfl rfl (fun ids H' fr => opD_load rfl (evV_eq _ _ _ _ _ rfl) ((p14.mono (Nat.zero_le _) (fr.abv.le (Nat.zero_le _))).loadN (d := 0) ag48 sz48 rfl rfl)) rfl ?_
     refine WJ.adv 1 rfl ?_
     refine WJ.liftS (loc := []) rfl rfl (fun bv0 => ?_)
     refine WJ.sb 201 (j := 0) rfl rfl rfl rfl rfl rfl rfl rfl rfl rfl ?_
     refine WJ.ci 205 hp rfl rfl rfl rfl rfl rfl rfl rfl rfl (fun hc18 hp => ?_) (fun hc18 hp => ?_)
     ·refine WJ.hd (v := .int .i64 zj) 202 rfl rfl rfl rfl (fun ids H' fr => opD_load rfl (evV_eq _ _ _ _ _ rfl) (fr.ldOwn (j := 0) rfl rfl)) rfl ?_
      obtain ⟨t22, e22, hp⟩ := bindS hp
      refine WJ.cl 200 (R := R_4 t22) (fun hm h k => R_4.mono hm h k) rfl (fun ids H' fr => f50_ok e22) ?_
      rintro v B2 ⟨abB2, ivB2⟩ rfl
      refine ⟨_, rfl, ?_⟩
      replace gbg_x0 := gbg_x0.mono (Nat.le_refl _) (abB2.le (Nat.zero_le _))
      replace zc := zc.mono (Nat.le_refl _) (abB2.le (Nat.zero_le _))
      replace zd := zd.mono (Nat.le_refl _) (abB2.le (Nat.zero_le _))
      replace p14 := p14.mono (Nat.le_refl _) (abB2.le (Nat.zero_le _))
      cases t22
      ·replace hp := (itS hp).2 Bool.false_ne_true
       subst hK9
       obtain rfl := endS (show some _ = some r from hp)
       exact WJ.rt 211 rfl rfl rfl (fun ids H' fr => ⟨fr.ext0, rfl⟩)
      ·replace hp := (itS hp).1 rfl
       refine WJ.adv 6 rfl ?_
       obtain ⟨K10, hK10, hp⟩ : ∃ K, K = _ ∧ Option.bind _ K = some r := ⟨_, rfl, cutS hp⟩
       refine WJ.cut 4 (α := Hp) (fun y => [(0, .v (.slice a_x0 x0.length c_x0)), (9, .v (.slice a_x0 x0.length c_x0)), (10, .v (.int .i64 ((x0.length : Nat) : Int))), (11, .v (.int .i64 zm))]) (fun y => []) (fun y => [⟨some ⟨bv0, 0, none⟩, 6, 1, [.int .i64 zj, .slice zg zb.length zh, .slice ze za.length zf, .int .u64 zk, .int .u64 zl, .int .i64 zi]⟩]) (fun y => y) (fun y => K10 ((Sum.inr ())) = some r ∧ SlF 0 y ViewTC a_x0 c_x0 x0 ∧ SlF 0 y ReplyC zg zh zb ∧ SlF 0 y SightC ze zf za) ?_ (fun j10 => ?_)
       ·rintro B23 ⟨hp, gbg_x0, zc, zd⟩
        subst hK10
        show WJ _ _ _ B23 [⟨some ⟨bv0, 0, none⟩, 6, 1, [.int .i64 zj, .slice zg zb.length zh, .slice ze za.length zf, .int .u64 zk, .int .u64 zl, .int .i64 zi]⟩] _ _ ⟨[(0, .v (.slice a_x0 x0.length c_x0)), (9, .v (.slice a_x0 x0.length c_x0)), (10, .v (.int .i64 ((x0.length : Nat) : Int))), (11, .v (.int .i64 zm))], [], true, 0⟩
        exact WJ.ag 204 rfl (by exact ⟨rfl, rfl, rfl, rfl, trivial⟩) rfl rfl rfl (ih9 (n, IntKind.i64.wrap (zm + 1), B23) ⟨hp, gbg_x0⟩ (Nat.lt_succ_self _))
       ·refine WJ.dr 200 rfl gmix (by kernel_rfl) (by kernel_rfl) rfl ?_
        refine WD.ci hp rfl rfl rfl rfl rfl rfl rfl rfl rfl (fun hc28 hp => ?_) (fun hc28 hp => ?_)
        ·refine WD.hd (v := .int .i64 zj) rfl rfl rfl rfl (fun _ _ _ _ _ => side_no) (fun ids H' fr => opD_load rfl (evV_eq _ _ _ _ _ rfl) (fr.ldOwn (j := 0) rfl rfl)) rfl ?_
         obtain ⟨⟨zcs, zbb, zbc, zfx, zfy, zfz⟩, e35, hp⟩ := bindS hp
         obtain ⟨b35, o35, cs35, i35, ⟨zbd, zbe, zbf, zbg, rfl, zt, zu⟩, p35⟩ := gbg_x0.at e35 u23 sz48
         refine WD.hd (v := .pointer (some ⟨b35, o35, none⟩)) rfl rfl rfl rfl (fun _ _ _ _ _ => side_no) (fun ids H' fr => opD_indexAddr rfl (evV_eq _ _ _ _ _ rfl) (evV_eq _ _ _ _ _ rfl) (i35 _)) rfl ?_
         refine WD.hd (v := .int .i64 zcs) rfl rfl rfl rfl (fun _ _ _ _ _ => side_no) (fun ids H' fr => opD_load rfl (evV_eq _ _ _ _ _ rfl) ((p35.mono (Nat.zero_le _) (fr.abv.le (Nat.zero_le _))).load (d := 0) ag3 rfl)) rfl ?_
         refine WD.cn hp rfl rfl rfl rfl rfl rfl rfl rfl rfl (fun hc39 hp => ?_) (fun hc39 hp => ?_)
         ·refine WD.done rfl ?_
          subst hK10
          subst hK9
          obtain rfl := endS (show some _ = some r from hp)
          exact WJ.rt 207 rfl rfl rfl (fun ids H' fr => ⟨fr.ext0, rfl⟩)
         ·refine WD.done rfl ?_
          refine WJ.dr 202 rfl gmix (by kernel_rfl) (by kernel_rfl) rfl ?_
          refine WD.hd (v := .slice ze za.length zf) rfl rfl rfl rfl (fun _ _ _ _ _ => side_no) (fun ids H' fr => opD_load rfl (evV_eq _ _ _ _ _ rfl) (fr.ldOwn (j := 0) rfl rfl)) rfl ?_
          obtain ⟨t46, e46, hp⟩ := bindS hp
          refine WD.cl (R := R_4 t46) (fun hm h k => R_4.mono hm h k) rfl (fun ids H' fr => f50_ok e46) ?_
          rintro v B3 ⟨abB3, ivB3⟩ rfl
          refine ⟨_, rfl, ?_⟩
          replace gbg_x0 := gbg_x0.mono (Nat.le_refl _) (abB3.le (Nat.zero_le _))
          replace zc := zc.mono (Nat.le_refl _) (abB3.le (Nat.zero_le _))
          replace zd := zd.mono (Nat.le_refl _) (abB3.le (Nat.zero_le _))
          replace p14 := p14.mono (Nat.le_refl _) (abB3.le (Nat.zero_le _))
          replace zt := zt.mono (Nat.le_refl _) (abB3.le (Nat.zero_le _))
          replace zu := zu.mono (Nat.le_refl _) (abB3.le (Nat.zero_le _))
          replace p35 := p35.mono (Nat.le_refl _) (abB3.le (Nat.zero_le _))
          cases t46
          ·replace hp := (itS hp).2 Bool.false_ne_true
           refine WD.done rfl ?_
           subst hK10
           subst hK9
           obtain rfl := endS (show some _ = some r from hp)
           exact WJ.rt 207 rfl rfl rfl (fun ids H' fr => ⟨fr.ext0, rfl⟩)
          ·replace hp := (itS hp).1 rfl
           refine WD.hd (v := .slice ze za.length zf) rfl rfl rfl rfl (fun _ _ _ _ _ => side_no) (fun ids H' fr => opD_load rfl (evV_eq _ _ _ _ _ rfl) (fr.ldOwn (j := 0) rfl rfl)) rfl ?_
           obtain ⟨⟨zhd, zbx, zbh, zhe, zhf, zhg⟩, e53, hp⟩ := bindS hp
           obtain ⟨b53, o53, cs53, i53, ⟨zby, zbz, zbi, zbj, rfl, z4, z5⟩, p53⟩ := gbg_x0.at e53 u23 sz48
           refine WD.hd (v := .pointer (some ⟨b53, o53, none⟩)) rfl rfl rfl rfl (fun _ _ _ _ _ => side_no) (fun ids H' fr => opD_indexAddr rfl (evV_eq _ _ _ _ _ rfl) (evV_eq _ _ _ _ _ rfl) (i53 _)) rfl ?_
           refine WD.hd (v := .slice zbi zbh.length zbj) rfl rfl rfl rfl (fun _ _ _ _ _ => side_no) (fun ids H' fr => opD_load rfl (evV_eq _ _ _ _ _ rfl) ((p53.mono (Nat.zero_le _) (fr.abv.le (Nat.zero_le _))).load (d := 2) ag45 rfl)) rfl ?_
           refine WD.cn hp rfl rfl rfl rfl rfl rfl rfl rfl rfl (fun hc57 hp => ?_) (fun hc57 hp => ?_)
           ·refine WD.done rfl ?_
            subst hK10
            subst hK9
            obtain rfl := endS (show some _ = some r from hp)
            exact WJ.rt 207 rfl rfl rfl (fun ids H' fr => ⟨fr.ext0, rfl⟩)
           ·refine WD.done rfl ?_
            refine WJ.hd (v := .slice zg zb.length zh) 204 rfl rfl rfl rfl (fun ids H' fr => opD_load rfl (evV_eq _ _ _ _ _ rfl) (fr.ldOwn (j := 0) rfl rfl)) rfl ?_
            refine WJ.ci 201 hp rfl rfl rfl rfl rfl rfl rfl rfl rfl (fun hc64 hp => ?_) (fun hc64 hp => ?_)
            ·subst hK10
             subst hK9
             obtain rfl := endS (show some _ = some r from hp)
             exact WJ.rt 209 rfl rfl rfl (fun ids H' fr => ⟨fr.ext0, rfl⟩)
            ·refine WJ.hd (v := .slice zg zb.length zh) 206 rfl rfl rfl rfl (fun ids H' fr => opD_load rfl (evV_eq _ _ _ _ _ rfl) (fr.ldOwn (j := 0) rfl rfl)) rfl ?_
             refine WJ.inl 200 rfl rfl Tryz.func51 rfl rfl rfl rfl rfl (lc := [(0, .v (.slice zg zb.length zh)), (1, .v (.func (.func 52) ⟨[]⟩ ⟨[]⟩))]) (fun _ => rfl) ?_
             refine WJ.adv 3 rfl ?_
             refine WJ.liftS (loc := []) rfl rfl (fun bv1 => ?_)
             refine WJ.adv 6 rfl ?_
             refine WJ.nf ?_
             refine WJ.inl 200 rfl rfl Tryz.func93 rfl rfl rfl rfl rfl (lc := [(0, .v (.slice zg zb.length zh)), (1, .v (.func (.func 94) ⟨[]⟩ ⟨[.pointer (some ⟨bv1, 0, none⟩)]⟩))]) (fun _ => rfl) ?_
             obtain ⟨K11, hK11, hp⟩ : ∃ K, K = _ ∧ Option.bind _ K = some r := ⟨_, rfl, cutS hp⟩
             refine WJ.inlC 208 (α := Int × Hp) (fun y => [(7, .v (.int .i64 y.1))]) (fun y => [⟨some ⟨bv0, 0, none⟩, 6, 1, [.int .i64 zj, .slice zg zb.length zh, .slice ze za.length zf, .int .u64 zk, .int .u64 zl, .int .i64 zi]⟩, ⟨some ⟨bv1, 0, none⟩, 1, 1, [.func (.func 52) ⟨[]⟩ ⟨[]⟩]⟩]) (fun y => y.2) (fun y => K11 ((y.1)) = some r ∧ SlF 0 y.2 ViewTC a_x0 c_x0 x0 ∧ SlF 0 y.2 ReplyC zg zh zb ∧ SlF 0 y.2 SightC ze zf za ∧ SlF 0 y.2 ReplyC zbd zbe zbb ∧ SlF 0 y.2 SightC zbf zbg zbc ∧ SlF 0 y.2 ReplyC zby zbz zbx ∧ SlF 0 y.2 SightC zbi zbj zbh) rfl rfl Tryz.func125 rfl rfl rfl rfl rfl (lc := [(0, .v (.slice zg zb.length zh)), (1, .v (.func (.func 94) ⟨[]⟩ ⟨[.pointer (some ⟨bv1, 0, none⟩)]⟩))]) (fun _ => rfl) ?_ (fun j11 => ?_)
             ·rintro ⟨x7_11, B7⟩ ⟨hp, gbg_x0, zc, zd, zt, zu, z4, z5⟩
              subst hK11
              show WJ _ _ _ B7 [⟨some ⟨bv0, 0, none⟩, 6, 1, [.int .i64 zj, .slice zg zb.length zh, .slice ze za.length zf, .int .u64 zk, .int .u64 zl, .int .i64 zi]⟩, ⟨some ⟨bv1, 0, none⟩, 1, 1, [.func (.func 52) ⟨[]⟩ ⟨[]⟩]⟩] _ _ ⟨[(7, .v (.int .i64 x7_11))], [], true, 0⟩
              obtain ⟨t8u3, e8u3, hp⟩ := bindS hp
              refine WJ.cv 200 (b := t8u3) (H0 := ⟨.nil, 0, 0⟩) rfl rfl rfl rfl rfl rfl (by rw [← endS e8u3]; exact rfl) rfl ?_
              refine WJ.inlR 202 rfl rfl rfl rfl ?_
              cases t8u3
              ·replace hp := (itS hp).2 Bool.false_ne_true
               refine WJ.inlR 203 rfl rfl rfl rfl ?_
               refine WJ.hd (v := .slice ze za.length zf) 203 rfl rfl rfl rfl (fun ids H' fr => opD_load rfl (evV_eq _ _ _ _ _ rfl) (fr.ldOwn (j := 0) rfl rfl)) rfl ?_
               refine WJ.inl 200 rfl rfl Tryz.func53 rfl rfl rfl rfl rfl (lc := [(0, .v (.slice ze za.length zf)), (1, .v (.func (.func 54) ⟨[]⟩ ⟨[]⟩))]) (fun _ => rfl) ?_
               refine WJ.adv 3 rfl ?_
               refine WJ.liftS (loc := []) rfl rfl (fun bv2u1 => ?_)
               refine WJ.adv 6 rfl ?_
               refine WJ.nf ?_
               refine WJ.inl 200 rfl rfl Tryz.func95 rfl rfl rfl rfl rfl (lc := [(0, .v (.slice ze za.length zf)), (1, .v (.func (.func 96) ⟨[]⟩ ⟨[.pointer (some ⟨bv2u1, 0, none⟩)]⟩))]) (fun _ => rfl) ?_
               obtain ⟨K13, hK13, hp⟩ : ∃ K, K = _ ∧ Option.bind _ K = some r := ⟨_, rfl, cutS hp⟩
               refine WJ.inlC 208 (α := Int × Hp) (fun y => [(7, .v (.int .i64 y.1))]) (fun y => [⟨some ⟨bv0, 0, none⟩, 6, 1, [.int .i64 zj, .slice zg zb.length zh, .slice ze za.length zf, .int .u64 zk, .int .u64 zl, .int .i64 zi]⟩, ⟨some ⟨bv1, 0, none⟩, 1, 1, [.func (.func 52) ⟨[]⟩ ⟨[]⟩]⟩, ⟨some ⟨bv2u1, 0, none⟩, 1, 1, [.func (.func 54) ⟨[]⟩ ⟨[]⟩]⟩]) (fun y => y.2) (fun y => K13 ((y.1)) = some r ∧ SlF 0 y.2 ViewTC a_x0 c_x0 x0 ∧ SlF 0 y.2 ReplyC zg zh zb ∧ SlF 0 y.2 SightC ze zf za ∧ SlF 0 y.2 ReplyC zbd zbe zbb ∧ SlF 0 y.2 SightC zbf zbg zbc ∧ SlF 0 y.2 ReplyC zby zbz zbx ∧ SlF 0 y.2 SightC zbi zbj zbh) rfl rfl Tryz.func126 rfl rfl rfl rfl rfl (lc := [(0, .v (.slice ze za.length zf)), (1, .v (.func (.func 96) ⟨[]⟩ ⟨[.pointer (some ⟨bv2u1, 0, none⟩)]⟩))]) (fun _ => rfl) ?_ (fun j13 => ?_)
               ·rintro ⟨x7_13, B11⟩ ⟨hp, gbg_x0, zc, zd, zt, zu, z4, z5⟩
                subst hK13
                show WJ _ _ _ B11 [⟨some ⟨bv0, 0, none⟩, 6, 1, [.int .i64 zj, .slice zg zb.length zh, .slice ze za.length zf, .int .u64 zk, .int .u64 zl, .int .i64 zi]⟩, ⟨some ⟨bv1, 0, none⟩, 1, 1, [.func (.func 52) ⟨[]⟩ ⟨[]⟩]⟩, ⟨some ⟨bv2u1, 0, none⟩, 1, 1, [.func (.func 54) ⟨[]⟩ ⟨[]⟩]⟩] _ _ ⟨[(7, .v (.int .i64 x7_13))], [], true, 0⟩
                obtain ⟨t8u8, e8u8, hp⟩ := bindS hp
                refine WJ.cv 200 (b := t8u8) (H0 := ⟨.nil, 0, 0⟩) rfl rfl rfl rfl rfl rfl (by rw [← endS e8u8]; exact rfl) rfl ?_
                refine WJ.inlR 202 rfl rfl rfl rfl ?_
                cases t8u8
                ·replace hp := (itS hp).2 Bool.false_ne_true
                 refine WJ.inlR 203 rfl rfl rfl rfl ?_
                 refine WJ.hd (v := .int .i64 zi) 204 rfl rfl rfl rfl (fun ids H' fr => opD_load rfl (evV_eq _ _ _ _ _ rfl) (fr.ldOwn (j := 0) rfl rfl)) rfl ?_
                 obtain ⟨t80, e80, hp⟩ := bindS hp
                 refine WJ.cl 200 (R := R_4 t80) (fun hm h k => R_4.mono hm h k) rfl (fun ids H' fr => f50_ok e80) ?_
                 rintro v B12 ⟨abB12, ivB12⟩ rfl
                 refine ⟨_, rfl, ?_⟩
                 replace gbg_x0 := gbg_x0.mono (Nat.le_refl _) (abB12.le (Nat.zero_le _))
                 replace zc := zc.mono (Nat.le_refl _) (abB12.le (Nat.zero_le _))
                 replace zd := zd.mono (Nat.le_refl _) (abB12.le (Nat.zero_le _))
                 replace zt := zt.mono (Nat.le_refl _) (abB12.le (Nat.zero_le _))
                 replace zu := zu.mono (Nat.le_refl _) (abB12.le (Nat.zero_le _))
                 replace z4 := z4.mono (Nat.le_refl _) (abB12.le (Nat.zero_le _))
                 replace z5 := z5.mono (Nat.le_refl _) (abB12.le (Nat.zero_le _))
                 cases t80
                 ·replace hp := (itS hp).2 Bool.false_ne_true
                  subst hK10
                  subst hK9
                  obtain rfl := endS (show some _ = some r from hp)
                  exact WJ.rt 211 rfl rfl rfl (fun ids H' fr => ⟨fr.ext0, rfl⟩)
                 ·replace hp := (itS hp).1 rfl
                  exact WJ.goto 8 (j10 B12 ⟨hp, gbg_x0, zc, zd⟩) rfl rfl (by exact ⟨rfl, rfl, rfl, rfl, trivial⟩) rfl rfl rfl
                ·replace hp := (itS hp).1 rfl
                 refine WJ.inlR 203 rfl rfl rfl rfl ?_
                 subst hK10
                 subst hK9
                 obtain rfl := endS (show some _ = some r from hp)
                 exact WJ.rt 217 rfl rfl rfl (fun ids H' fr => ⟨fr.ext0, rfl⟩)
               ·refine WJ.adv 12 rfl ?_
                obtain ⟨K14, hK14, hp⟩ : ∃ K, K = _ ∧ Option.bind _ K = some r := ⟨_, rfl, cutS hp⟩
                refine WJ.cut 2 (α := Hp) (fun y => []) (fun y => []) (fun y => [⟨some ⟨bv0, 0, none⟩, 6, 1, [.int .i64 zj, .slice zg zb.length zh, .slice ze za.length zf, .int .u64 zk, .int .u64 zl, .int .i64 zi]⟩, ⟨some ⟨bv1, 0, none⟩, 1, 1, [.func (.func 52) ⟨[]⟩ ⟨[]⟩]⟩, ⟨some ⟨bv2u1, 0, none⟩, 1, 1, [.func (.func 54) ⟨[]⟩ ⟨[]⟩]⟩]) (fun y => y) (fun y => K14 (Sum.inl ()) = some r ∧ SlF 0 y ViewTC a_x0 c_x0 x0 ∧ SlF 0 y ReplyC zg zh zb ∧ SlF 0 y SightC ze zf za ∧ SlF 0 y ReplyC zbd zbe zbb ∧ SlF 0 y SightC zbf zbg zbc ∧ SlF 0 y ReplyC zby zbz zbx ∧ SlF 0 y SightC zbi zbj zbh) ?_ (fun j14 => ?_)
                ·rintro B10 ⟨hp, gbg_x0, zc, zd, zt, zu, z4, z5⟩
                 subst hK14
                 show WJ _ _ _ B10 [⟨some ⟨bv0, 0, none⟩, 6, 1, [.int .i64 zj, .slice zg zb.length zh, .slice ze za.length zf, .int .u64 zk, .int .u64 zl, .int .i64 zi]⟩, ⟨some ⟨bv1, 0, none⟩, 1, 1, [.func (.func 52) ⟨[]⟩ ⟨[]⟩]⟩, ⟨some ⟨bv2u1, 0, none⟩, 1, 1, [.func (.func 54) ⟨[]⟩ ⟨[]⟩]⟩] _ _ ⟨[], [], true, 0⟩
                 refine WJ.inlR 204 rfl rfl rfl rfl ?_
                 exact WJ.gotoO (j13 ((-1), B10) ⟨hp, gbg_x0, zc, zd, zt, zu, z4, z5⟩) (by exact ⟨rfl, trivial⟩) rfl rfl
                ·refine WJ.lp 200 (α := Nat × Int × Hp) (fun y => [(0, .v (.slice ze za.length zf)), (1, .v (.func (.func 96) ⟨[]⟩ ⟨[.pointer (some ⟨bv2u1, 0, none⟩)]⟩)), (7, .v (.int .i64 ((za.length : Nat) : Int))), (8, .v (.int .i64 y.2.1))]) (fun y => []) (fun y => [⟨some ⟨bv0, 0, none⟩, 6, 1, [.int .i64 zj, .slice zg zb.length zh, .slice ze za.length zf, .int .u64 zk, .int .u64 zl, .int .i64 zi]⟩, ⟨some ⟨bv1, 0, none⟩, 1, 1, [.func (.func 52) ⟨[]⟩ ⟨[]⟩]⟩, ⟨some ⟨bv2u1, 0, none⟩, 1, 1, [.func (.func 54) ⟨[]⟩ ⟨[]⟩]⟩]) (fun y => y.2.2) (fun y => y.1) (fun y => Option.bind (f19_l3 za y.1 y.2.1) K14 = some r ∧ SlF 0 y.2.2 ViewTC a_x0 c_x0 x0 ∧ SlF 0 y.2.2 ReplyC zg zh zb ∧ SlF 0 y.2.2 SightC ze zf za ∧ SlF 0 y.2.2 ReplyC zbd zbe zbb ∧ SlF 0 y.2.2 SightC zbf zbg zbc ∧ SlF 0 y.2.2 ReplyC zby zbz zbx ∧ SlF 0 y.2.2 SightC zbi zbj zbh) (k, 0, B7) rfl ⟨hp, gbg_x0, zc, zd, zt, zu, z4, z5⟩ (by exact ⟨rfl, rfl, rfl, rfl, trivial⟩) rfl rfl rfl ?_
                 rintro ⟨n14, zaz, B8⟩ ⟨hp, gbg_x0, zc, zd, zt, zu, z4, z5⟩ ih14
                 show WJ _ _ _ B8 [⟨some ⟨bv0, 0, none⟩, 6, 1, [.int .i64 zj, .slice zg zb.length zh, .slice ze za.length zf, .int .u64 zk, .int .u64 zl, .int .i64 zi]⟩, ⟨some ⟨bv1, 0, none⟩, 1, 1, [.func (.func 52) ⟨[]⟩ ⟨[]⟩]⟩, ⟨some ⟨bv2u1, 0, none⟩, 1, 1, [.func (.func 54) ⟨[]⟩ ⟨[]⟩]⟩] _ _ ⟨[(0, .v (.slice ze za.length zf)), (1, .v (.func (.func 96) ⟨[]⟩ ⟨[.pointer (some ⟨bv2u1, 0, none⟩)]⟩)), (7, .v (.int .i64 ((za.length : Nat) : Int))), (8, .v (.int .i64 zaz))], [], true, 0⟩
                 replace hp : Option.bind (f19_l3 za n14 zaz) K14 = some r := hp
                 cases n14 with
                 | zero => rw [f19_l3] at hp; exact (noS hp).elim
                 | succ n14 =>
                  rw [f19_l3] at hp
                  obtain ⟨t9u2, e9u2, hp⟩ := bindS hp
                  refine WJ.cv 202 (b := t9u2) (H0 := ⟨.nil, 0, 0⟩) rfl rfl rfl rfl rfl rfl (by rw [← endS e9u2]; exact rfl) rfl ?_
                  cases t9u2
                  ·replace hp := (itS hp).2 Bool.false_ne_true
                   exact WJ.goto 4 (j14 B8 ⟨hp, gbg_x0, zc, zd, zt, zu, z4, z5⟩) rfl rfl (by exact trivial) rfl rfl rfl
                  ·replace hp := (itS hp).1 rfl
                   obtain ⟨⟨t14u2_Floor, t14u2_Panel, t14u2_Out⟩, e14u2, hp⟩ := bindS hp
                   obtain ⟨b14u2, o14u2, cs14u2, i14u2, rfl, p14u2⟩ := zd.at e14u2 u45 sz84
                   refine WJ.hd (v := .pointer (some ⟨b14u2, o14u2, none⟩)) 216 rfl rfl rfl rfl (fun ids H' fr => opD_indexAddr rfl (evV_eq _ _ _ _ _ rfl) (evV_eq _ _ _ _ _ rfl) (i14u2 _)) rfl ?_
                   refine WJ.hd (v := .agg ⟨[.int .i64 t14u2_Floor, .int .i64 t14u2_Panel, .bool t14u2_Out]⟩) 200 rfl rfl rfl rfl (fun ids H' fr => opD_load rfl (evV_eq _ _ _ _ _ rfl) ((p14u2.mono (Nat.zero_le _) (fr.abv.le (Nat.zero_le _))).loadN (d := 0) ag84 sz84 rfl rfl)) rfl ?_
                   refine WJ.inl 200 rfl rfl Tryz.func96 rfl rfl rfl rfl rfl (lc := [(0, .v (.agg ⟨[.int .i64 t14u2_Floor, .int .i64 t14u2_Panel, .bool t14u2_Out]⟩)), (1, .v (.pointer (some ⟨bv2u1, 0, none⟩)))]) (fun _ => rfl) ?_
                   refine WJ.adv 3 rfl ?_
                   refine WJ.liftS (loc := []) rfl rfl (fun bv3 => ?_)
                   refine WJ.hd (v := .func (.func 54) ⟨[]⟩ ⟨[]⟩) 204 rfl rfl rfl rfl (fun ids H' fr => opD_load rfl (evV_eq _ _ _ _ _ rfl) (fr.ldOwn (j := 2) rfl rfl)) rfl ?_
                   refine WJ.hd (v := .agg ⟨[.int .i64 t14u2_Floor, .int .i64 t14u2_Panel, .bool t14u2_Out]⟩) 200 rfl rfl rfl rfl (fun ids H' fr => opD_load rfl (evV_eq _ _ _ _ _ rfl) (fr.ldOwn (j := 3) rfl rfl)) rfl ?_
                   obtain ⟨t6u8, e6u8, hp⟩ := bindS hp
                   refine WJ.cl 200 (R := R_4 t6u8) (fun hm h k => R_4.mono hm h k) rfl (fun ids H' fr => f54_ok (x0 := (Sight.mk t14u2_Floor t14u2_Panel t14u2_Out)) e6u8) ?_
                   rintro v B9 ⟨abB9, ivB9⟩ rfl
                   refine ⟨_, rfl, ?_⟩
                   replace gbg_x0 := gbg_x0.mono (Nat.le_refl _) (abB9.le (Nat.zero_le _))
                   replace zc := zc.mono (Nat.le_refl _) (abB9.le (Nat.zero_le _))
                   replace zd := zd.mono (Nat.le_refl _) (abB9.le (Nat.zero_le _))
                   replace zt := zt.mono (Nat.le_refl _) (abB9.le (Nat.zero_le _))
                   replace zu := zu.mono (Nat.le_refl _) (abB9.le (Nat.zero_le _))
                   replace z4 := z4.mono (Nat.le_refl _) (abB9.le (Nat.zero_le _))
                   replace z5 := z5.mono (Nat.le_refl _) (abB9.le (Nat.zero_le _))
                   replace p14u2 := p14u2.mono (Nat.le_refl _) (abB9.le (Nat.zero_le _))
                   cases t6u8
                   ·replace hp := (itS hp).2 Bool.false_ne_true
                    refine WJ.inlR 203 rfl rfl rfl rfl ?_
                    refine WJ.inlR 207 rfl rfl rfl rfl ?_
                    subst hK14
                    exact WJ.gotoO (j13 (zaz, B9) ⟨hp, gbg_x0, zc, zd, zt, zu, z4, z5⟩) (by exact ⟨rfl, trivial⟩) rfl rfl
                   ·replace hp := (itS hp).1 rfl
                    refine WJ.inlR 203 rfl rfl rfl rfl ?_
                    exact WJ.ag 208 rfl (by exact ⟨rfl, rfl, rfl, rfl, trivial⟩) rfl rfl rfl (ih14 (n14, IntKind.i64.wrap (zaz + 1), B9) ⟨hp, gbg_x0, zc, zd, zt, zu, z4, z5⟩ (Nat.lt_succ_self _))
              ·replace hp := (itS hp).1 rfl
               refine WJ.inlR 203 rfl rfl rfl rfl ?_
               subst hK10
               subst hK9
               obtain rfl := endS (show some _ = some r from hp)
               exact WJ.rt 222 rfl rfl rfl (fun ids H' fr => ⟨fr.ext0, rfl⟩)
             ·refine WJ.adv 12 rfl ?_
              obtain ⟨K12, hK12, hp⟩ : ∃ K, K = _ ∧ Option.bind _ K = some r := ⟨_, rfl, cutS hp⟩
              refine WJ.cut 2 (α := Hp) (fun y => []) (fun y => []) (fun y => [⟨some ⟨bv0, 0, none⟩, 6, 1, [.int .i64 zj, .slice zg zb.length zh, .slice ze za.length zf, .int .u64 zk, .int .u64 zl, .int .i64 zi]⟩, ⟨some ⟨bv1, 0, none⟩, 1, 1, [.func (.func 52) ⟨[]⟩ ⟨[]⟩]⟩]) (fun y => y) (fun y => K12 (Sum.inl ()) = some r ∧ SlF 0 y ViewTC a_x0 c_x0 x0 ∧ SlF 0 y ReplyC zg zh zb ∧ SlF 0 y SightC ze zf za ∧ SlF 0 y ReplyC zbd zbe zbb ∧ SlF 0 y SightC zbf zbg zbc ∧ SlF 0 y ReplyC zby zbz zbx ∧ SlF 0 y SightC zbi zbj zbh) ?_ (fun j12 => ?_)
              ·rintro B6 ⟨hp, gbg_x0, zc, zd, zt, zu, z4, z5⟩
               subst hK12
               show WJ _ _ _ B6 [⟨some ⟨bv0, 0, none⟩, 6, 1, [.int .i64 zj, .slice zg zb.length zh, .slice ze za.length zf, .int .u64 zk, .int .u64 zl, .int .i64 zi]⟩, ⟨some ⟨bv1, 0, none⟩, 1, 1, [.func (.func 52) ⟨[]⟩ ⟨[]⟩]⟩] _ _ ⟨[], [], true, 0⟩
               refine WJ.inlR 204 rfl rfl rfl rfl ?_
               exact WJ.gotoO (j11 ((-1), B6) ⟨hp, gbg_x0, zc, zd, zt, zu, z4, z5⟩) (by exact ⟨rfl, trivial⟩) rfl rfl
              ·refine WJ.lp 200 (α := Nat × Int × Hp) (fun y => [(0, .v (.slice zg zb.length zh)), (1, .v (.func (.func 94) ⟨[]⟩ ⟨[.pointer (some ⟨bv1, 0, none⟩)]⟩)), (7, .v (.int .i64 ((zb.length : Nat) : Int))), (8, .v (.int .i64 y.2.1))]) (fun y => []) (fun y => [⟨some ⟨bv0, 0, none⟩, 6, 1, [.int .i64 zj, .slice zg zb.length zh, .slice ze za.length zf, .int .u64 zk, .int .u64 zl, .int .i64 zi]⟩, ⟨some ⟨bv1, 0, none⟩, 1, 1, [.func (.func 52) ⟨[]⟩ ⟨[]⟩]⟩]) (fun y => y.2.2) (fun y => y.1) (fun y => Option.bind (f19_l2 zb y.1 y.2.1) K12 = some r ∧ SlF 0 y.2.2 ViewTC a_x0 c_x0 x0 ∧ SlF 0 y.2.2 ReplyC zg zh zb ∧ SlF 0 y.2.2 SightC ze zf za ∧ SlF 0 y.2.2 ReplyC zbd zbe zbb ∧ SlF 0 y.2.2 SightC zbf zbg zbc ∧ SlF 0 y.2.2 ReplyC zby zbz zbx ∧ SlF 0 y.2.2 SightC zbi zbj zbh) (k, 0, B3) rfl ⟨hp, gbg_x0, zc, zd, zt, zu, z4, z5⟩ (by exact ⟨rfl, rfl, rfl, rfl, trivial⟩) rfl rfl rfl ?_
               rintro ⟨n12, zay, B4⟩ ⟨hp, gbg_x0, zc, zd, zt, zu, z4, z5⟩ ih12
               show WJ _ _ _ B4 [⟨some ⟨bv0, 0, none⟩, 6, 1, [.int .i64 zj, .slice zg zb.length zh, .slice ze za.length zf, .int .u64 zk, .int .u64 zl, .int .i64 zi]⟩, ⟨some ⟨bv1, 0, none⟩, 1, 1, [.func (.func 52) ⟨[]⟩ ⟨[]⟩]⟩] _ _ ⟨[(0, .v (.slice zg zb.length zh)), (1, .v (.func (.func 94) ⟨[]⟩ ⟨[.pointer (some ⟨bv1, 0, none⟩)]⟩)), (7, .v (.int .i64 ((zb.length : Nat) : Int))), (8, .v (.int .i64 zay))], [], true, 0⟩
               replace hp : Option.bind (f19_l2 zb n12 zay) K12 = some r := hp
               cases n12 with
               | zero => rw [f19_l2] at hp; exact (noS hp).elim
               | succ n12 =>
                rw [f19_l2] at hp
                obtain ⟨t9u1, e9u1, hp⟩ := bindS hp
                refine WJ.cv 202 (b := t9u1) (H0 := ⟨.nil, 0, 0⟩) rfl rfl rfl rfl rfl rfl (by rw [← endS e9u1]; exact rfl) rfl ?_
                cases t9u1
                ·replace hp := (itS hp).2 Bool.false_ne_true
                 exact WJ.goto 4 (j12 B4 ⟨hp, gbg_x0, zc, zd, zt, zu, z4, z5⟩) rfl rfl (by exact trivial) rfl rfl rfl
                ·replace hp := (itS hp).1 rfl
                 obtain ⟨⟨t14u1_Port, t14u1_Code⟩, e14u1, hp⟩ := bindS hp
                 obtain ⟨b14u1, o14u1, cs14u1, i14u1, rfl, p14u1⟩ := zc.at e14u1 u44 sz87
                 refine WJ.hd (v := .pointer (some ⟨b14u1, o14u1, none⟩)) 216 rfl rfl rfl rfl (fun ids H' fr => opD_indexAddr rfl (evV_eq _ _ _ _ _ rfl) (evV_eq _ _ _ _ _ rfl) (i14u1 _)) rfl ?_
                 refine WJ.hd (v := .agg ⟨[.int .i64 t14u1_Port, .int .i64 t14u1_Code]⟩) 200 rfl rfl rfl rfl (fun ids H' fr => opD_load rfl (evV_eq _ _ _ _ _ rfl) ((p14u1.mono (Nat.zero_le _) (fr.abv.le (Nat.zero_le _))).loadN (d := 0) ag87 sz87 rfl rfl)) rfl ?_
                 refine WJ.inl 200 rfl rfl Tryz.func94 rfl rfl rfl rfl rfl (lc := [(0, .v (.agg ⟨[.int .i64 t14u1_Port, .int .i64 t14u1_Code]⟩)), (1, .v (.pointer (some ⟨bv1, 0, none⟩)))]) (fun _ => rfl) ?_
                 refine WJ.adv 3 rfl ?_
                 refine WJ.liftS (loc := []) rfl rfl (fun bv2 => ?_)
                 refine WJ.hd (v := .func (.func 52) ⟨[]⟩ ⟨[]⟩) 204 rfl rfl rfl rfl (fun ids H' fr => opD_load rfl (evV_eq _ _ _ _ _ rfl) (fr.ldOwn (j := 1) rfl rfl)) rfl ?_
                 refine WJ.hd (v := .agg ⟨[.int .i64 t14u1_Port, .int .i64 t14u1_Code]⟩) 200 rfl rfl rfl rfl (fun ids H' fr => opD_load rfl (evV_eq _ _ _ _ _ rfl) (fr.ldOwn (j := 2) rfl rfl)) rfl ?_
                 obtain ⟨t6u4, e6u4, hp⟩ := bindS hp
                 refine WJ.cl 200 (R := R_4 t6u4) (fun hm h k => R_4.mono hm h k) rfl (fun ids H' fr => f52_ok (x0 := (Reply.mk t14u1_Port t14u1_Code)) e6u4) ?_
                 rintro v B5 ⟨abB5, ivB5⟩ rfl
                 refine ⟨_, rfl, ?_⟩
                 replace gbg_x0 := gbg_x0.mono (Nat.le_refl _) (abB5.le (Nat.zero_le _))
                 replace zc := zc.mono (Nat.le_refl _) (abB5.le (Nat.zero_le _))
                 replace zd := zd.mono (Nat.le_refl _) (abB5.le (Nat.zero_le _))
                 replace zt := zt.mono (Nat.le_refl _) (abB5.le (Nat.zero_le _))
                 replace zu := zu.mono (Nat.le_refl _) (abB5.le (Nat.zero_le _))
                 replace z4 := z4.mono (Nat.le_refl _) (abB5.le (Nat.zero_le _))
                 replace z5 := z5.mono (Nat.le_refl _) (abB5.le (Nat.zero_le _))
                 replace p14u1 := p14u1.mono (Nat.le_refl _) (abB5.le (Nat.zero_le _))
                 cases t6u4
                 ·replace hp := (itS hp).2 Bool.false_ne_true
                  refine WJ.inlR 203 rfl rfl rfl rfl ?_
                  refine WJ.inlR 207 rfl rfl rfl rfl ?_
                  subst hK12
                  exact WJ.gotoO (j11 (zay, B5) ⟨hp, gbg_x0, zc, zd, zt, zu, z4, z5⟩) (by exact ⟨rfl, trivial⟩) rfl rfl
                 ·replace hp := (itS hp).1 rfl
                  refine WJ.inlR 203 rfl rfl rfl rfl ?_
                  exact WJ.ag 208 rfl (by exact ⟨rfl, rfl, rfl, rfl, trivial⟩) rfl rfl rfl (ih12 (n12, IntKind.i64.wrap (zay + 1), B5) ⟨hp, gbg_x0, zc, zd, zt, zu, z4, z5⟩ (Nat.lt_succ_self _))
        ·refine WD.done rfl ?_
         refine WJ.dr 202 rfl gmix (by kernel_rfl) (by kernel_rfl) rfl ?_
         refine WD.hd (v := .slice ze za.length zf) rfl rfl rfl rfl (fun _ _ _ _ _ => side_no) (fun ids H' fr => opD_load rfl (evV_eq _ _ _ _ _ rfl) (fr.ldOwn (j := 0) rfl rfl)) rfl ?_
         obtain ⟨t46u1, e46u1, hp⟩ := bindS hp
         refine WD.cl (R := R_4 t46u1) (fun hm h k => R_4.mono hm h k) rfl (fun ids H' fr => f50_ok e46u1) ?_
         rintro v B13 ⟨abB13, ivB13⟩ rfl
         refine ⟨_, rfl, ?_⟩
         replace gbg_x0 := gbg_x0.mono (Nat.le_refl _) (abB13.le (Nat.zero_le _))
         replace zc := zc.mono (Nat.le_refl _) (abB13.le (Nat.zero_le _))
         replace zd := zd.mono (Nat.le_refl _) (abB13.le (Nat.zero_le _))
         replace p14 := p14.mono (Nat.le_refl _) (abB13.le (Nat.zero_le _))
         cases t46u1
         ·replace hp := (itS hp).2 Bool.false_ne_true
          refine WD.done rfl ?_
          subst hK10
          subst hK9
          obtain rfl := endS (show some _ = some r from hp)
          exact WJ.rt 207 rfl rfl rfl (fun ids H' fr => ⟨fr.ext0, rfl⟩)
         ·replace hp := (itS hp).1 rfl
          refine WD.hd (v := .slice ze za.length zf) rfl rfl rfl rfl (fun _ _ _ _ _ => side_no) (fun ids H' fr => opD_load rfl (evV_eq _ _ _ _ _ rfl) (fr.ldOwn (j := 0) rfl rfl)) rfl ?_
          obtain ⟨⟨t53u1_Tick, t53u1_Replies, t53u1_Sights, t53u1_Up, t53u1_Down, t53u1_Word⟩, e53u1, hp⟩ := bindS hp
          obtain ⟨b53u1, o53u1, cs53u1, i53u1, ⟨a_t53u1_Replies, c_t53u1_Replies, a_t53u1_Sights, c_t53u1_Sights, rfl, g_t53u1_Replies, g_t53u1_Sights⟩, p53u1⟩ := gbg_x0.at e53u1 u23 sz48
          refine WD.hd (v := .pointer (some ⟨b53u1, o53u1, none⟩)) rfl rfl rfl rfl (fun _ _ _ _ _ => side_no) (fun ids H' fr => opD_indexAddr rfl (evV_eq _ _ _ _ _ rfl) (evV_eq _ _ _ _ _ rfl) (i53u1 _)) rfl ?_
          refine WD.hd (v := .slice a_t53u1_Sights t53u1_Sights.length c_t53u1_Sights) rfl rfl rfl rfl (fun _ _ _ _ _ => side_no) (fun ids H' fr => opD_load rfl (evV_eq _ _ _ _ _ rfl) ((p53u1.mono (Nat.zero_le _) (fr.abv.le (Nat.zero_le _))).load (d := 2) ag45 rfl)) rfl ?_
          refine WD.cn hp rfl rfl rfl rfl rfl rfl rfl rfl rfl (fun hc57u1 hp => ?_) (fun hc57u1 hp => ?_)
          ·refine WD.done rfl ?_
           subst hK10
           subst hK9
           obtain rfl := endS (show some _ = some r from hp)
           exact WJ.rt 207 rfl rfl rfl (fun ids H' fr => ⟨fr.ext0, rfl⟩)
          ·refine WD.done rfl ?_
           refine WJ.hd (v := .slice zg zb.length zh) 204 rfl rfl rfl rfl (fun ids H' fr => opD_load rfl (evV_eq _ _ _ _ _ rfl) (fr.ldOwn (j := 0) rfl rfl)) rfl ?_
           refine WJ.ci 201 hp rfl rfl rfl rfl rfl rfl rfl rfl rfl (fun hc64u1 hp => ?_) (fun hc64u1 hp => ?_)
           ·subst hK10
            subst hK9
            obtain rfl := endS (show some _ = some r from hp)
            exact WJ.rt 209 rfl rfl rfl (fun ids H' fr => ⟨fr.ext0, rfl⟩)
           ·refine WJ.hd (v := .slice zg zb.length zh) 206 rfl rfl rfl rfl (fun ids H' fr => opD_load rfl (evV_eq _ _ _ _ _ rfl) (fr.ldOwn (j := 0) rfl rfl)) rfl ?_
            refine WJ.inl 200 rfl rfl Tryz.func51 rfl rfl rfl rfl rfl (lc := [(0, .v (.slice zg zb.length zh)), (1, .v (.func (.func 52) ⟨[]⟩ ⟨[]⟩))]) (fun _ => rfl) ?_
            refine WJ.adv 3 rfl ?_
            refine WJ.liftS (loc := []) rfl rfl (fun bv1u1 => ?_)
            refine WJ.adv 6 rfl ?_
            refine WJ.nf ?_
            refine WJ.inl 200 rfl rfl Tryz.func93 rfl rfl rfl rfl rfl (lc := [(0, .v (.slice zg zb.length zh)), (1, .v (.func (.func 94) ⟨[]⟩ ⟨[.pointer (some ⟨bv1u1, 0, none⟩)]⟩))]) (fun _ => rfl) ?_
            obtain ⟨K15, hK15, hp⟩ : ∃ K, K = _ ∧ Option.bind _ K = some r := ⟨_, rfl, cutS hp⟩
            refine WJ.inlC 208 (α := Int × Hp) (fun y => [(7, .v (.int .i64 y.1))]) (fun y => [⟨some ⟨bv0, 0, none⟩, 6, 1, [.int .i64 zj, .slice zg zb.length zh, .slice ze za.length zf, .int .u64 zk, .int .u64 zl, .int .i64 zi]⟩, ⟨some ⟨bv1u1, 0, none⟩, 1, 1, [.func (.func 52) ⟨[]⟩ ⟨[]⟩]⟩]) (fun y => y.2) (fun y => K15 ((y.1)) = some r ∧ SlF 0 y.2 ViewTC a_x0 c_x0 x0 ∧ SlF 0 y.2 ReplyC zg zh zb ∧ SlF 0 y.2 SightC ze zf za ∧ SlF 0 y.2 ReplyC a_t53u1_Replies c_t53u1_Replies t53u1_Replies ∧ SlF 0 y.2 SightC a_t53u1_Sights c_t53u1_Sights t53u1_Sights) rfl rfl Tryz.func125 rfl rfl rfl rfl rfl (lc := [(0, .v (.slice zg zb.length zh)), (1, .v (.func (.func 94) ⟨[]⟩ ⟨[.pointer (some ⟨bv1u1, 0, none⟩)]⟩))]) (fun _ => rfl) ?_ (fun j15 => ?_)
            ·rintro ⟨x7_15, B17⟩ ⟨hp, gbg_x0, zc, zd, g_t53u1_Replies, g_t53u1_Sights⟩
             subst hK15
             show WJ _ _ _ B17 [⟨some ⟨bv0, 0, none⟩, 6, 1, [.int .i64 zj, .slice zg zb.length zh, .slice ze za.length zf, .int .u64 zk, .int .u64 zl, .int .i64 zi]⟩, ⟨some ⟨bv1u1, 0, none⟩, 1, 1, [.func (.func 52) ⟨[]⟩ ⟨[]⟩]⟩] _ _ ⟨[(7, .v (.int .i64 x7_15))], [], true, 0⟩
             obtain ⟨t8u15, e8u15, hp⟩ := bindS hp
             refine WJ.cv 200 (b := t8u15) (H0 := ⟨.nil, 0, 0⟩) rfl rfl rfl rfl rfl rfl (by rw [← endS e8u15]; exact rfl) rfl ?_
             refine WJ.inlR 202 rfl rfl rfl rfl ?_
             cases t8u15
             ·replace hp := (itS hp).2 Bool.false_ne_true
              refine WJ.inlR 203 rfl rfl rfl rfl ?_
              refine WJ.hd (v := .slice ze za.length zf) 203 rfl rfl rfl rfl (fun ids H' fr => opD_load rfl (evV_eq _ _ _ _ _ rfl) (fr.ldOwn (j := 0) rfl rfl)) rfl ?_
              refine WJ.inl 200 rfl rfl Tryz.func53 rfl rfl rfl rfl rfl (lc := [(0, .v (.slice ze za.length zf)), (1, .v (.func (.func 54) ⟨[]⟩ ⟨[]⟩))]) (fun _ => rfl) ?_
              refine WJ.adv 3 rfl ?_
              refine WJ.liftS (loc := []) rfl rfl (fun bv2u3 => ?_)
              refine WJ.adv 6 rfl ?_
              refine WJ.nf ?_
              refine WJ.inl 200 rfl rfl Tryz.func95 rfl rfl rfl rfl rfl (lc := [(0, .v (.slice ze za.length zf)), (1, .v (.func (.func 96) ⟨[]⟩ ⟨[.pointer (some ⟨bv2u3, 0, none⟩)]⟩))]) (fun _ => rfl) ?_
              obtain ⟨K17, hK17, hp⟩ : ∃ K, K = _ ∧ Option.bind _ K = some r := ⟨_, rfl, cutS hp⟩
              refine WJ.inlC 208 (α := Int × Hp) (fun y => [(7, .v (.int .i64 y.1))]) (fun y => [⟨some ⟨bv0, 0, none⟩, 6, 1, [.int .i64 zj, .slice zg zb.length zh, .slice ze za.length zf, .int .u64 zk, .int .u64 zl, .int .i64 zi]⟩, ⟨some ⟨bv1u1, 0, none⟩, 1, 1, [.func (.func 52) ⟨[]⟩ ⟨[]⟩]⟩, ⟨some ⟨bv2u3, 0, none⟩, 1, 1, [.func (.func 54) ⟨[]⟩ ⟨[]⟩]⟩]) (fun y => y.2) (fun y => K17 ((y.1)) = some r ∧ SlF 0 y.2 ViewTC a_x0 c_x0 x0 ∧ SlF 0 y.2 ReplyC zg zh zb ∧ SlF 0 y.2 SightC ze zf za ∧ SlF 0 y.2 ReplyC a_t53u1_Replies c_t53u1_Replies t53u1_Replies ∧ SlF 0 y.2 SightC a_t53u1_Sights c_t53u1_Sights t53u1_Sights) rfl rfl Tryz.func126 rfl rfl rfl rfl rfl (lc := [(0, .v (.slice ze za.length zf)), (1, .v (.func (.func 96) ⟨[]⟩ ⟨[.pointer (some ⟨bv2u3, 0, none⟩)]⟩))]) (fun _ => rfl) ?_ (fun j17 => ?_)
              ·rintro ⟨x7_17, B21⟩ ⟨hp, gbg_x0, zc, zd, g_t53u1_Replies, g_t53u1_Sights⟩
               subst hK17
               show WJ _ _ _ B21 [⟨some ⟨bv0, 0, none⟩, 6, 1, [.int .i64 zj, .slice zg zb.length zh, .slice ze za.length zf, .int .u64 zk, .int .u64 zl, .int .i64 zi]⟩, ⟨some ⟨bv1u1, 0, none⟩, 1, 1, [.func (.func 52) ⟨[]⟩ ⟨[]⟩]⟩, ⟨some ⟨bv2u3, 0, none⟩, 1, 1, [.func (.func 54) ⟨[]⟩ ⟨[]⟩]⟩] _ _ ⟨[(7, .v (.int .i64 x7_17))], [], true, 0⟩
               obtain ⟨t8u20, e8u20, hp⟩ := bindS hp
               refine WJ.cv 200 (b := t8u20) (H0 := ⟨.nil, 0, 0⟩) rfl rfl rfl rfl rfl rfl (by rw [← endS e8u20]; exact rfl) rfl ?_
               refine WJ.inlR 202 rfl rfl rfl rfl ?_
               cases t8u20
               ·replace hp := (itS hp).2 Bool.false_ne_true
                refine WJ.inlR 203 rfl rfl rfl rfl ?_
                refine WJ.hd (v := .int .i64 zi) 204 rfl rfl rfl rfl (fun ids H' fr => opD_load rfl (evV_eq _ _ _ _ _ rfl) (fr.ldOwn (j := 0) rfl rfl)) rfl ?_
                obtain ⟨t80u1, e80u1, hp⟩ := bindS hp
                refine WJ.cl 200 (R := R_4 t80u1) (fun hm h k => R_4.mono hm h k) rfl (fun ids H' fr => f50_ok e80u1) ?_
                rintro v B22 ⟨abB22, ivB22⟩ rfl
                refine ⟨_, rfl, ?_⟩
                replace gbg_x0 := gbg_x0.mono (Nat.le_refl _) (abB22.le (Nat.zero_le _))
                replace zc := zc.mono (Nat.le_refl _) (abB22.le (Nat.zero_le _))
                replace zd := zd.mono (Nat.le_refl _) (abB22.le (Nat.zero_le _))
                replace g_t53u1_Replies := g_t53u1_Replies.mono (Nat.le_refl _) (abB22.le (Nat.zero_le _))
                replace g_t53u1_Sights := g_t53u1_Sights.mono (Nat.le_refl _) (abB22.le (Nat.zero_le _))
                cases t80u1
                ·replace hp := (itS hp).2 Bool.false_ne_true
                 subst hK10
                 subst hK9
                 obtain rfl := endS (show some _ = some r from hp)
                 exact WJ.rt 211 rfl rfl rfl (fun ids H' fr => ⟨fr.ext0, rfl⟩)
                ·replace hp := (itS hp).1 rfl
                 exact WJ.goto 8 (j10 B22 ⟨hp, gbg_x0, zc, zd⟩) rfl rfl (by exact ⟨rfl, rfl, rfl, rfl, trivial⟩) rfl rfl rfl
               ·replace hp := (itS hp).1 rfl
                refine WJ.inlR 203 rfl rfl rfl rfl ?_
                subst hK10
                subst hK9
                obtain rfl := endS (show some _ = some r from hp)
                exact WJ.rt 217 rfl rfl rfl (fun ids H' fr => ⟨fr.ext0, rfl⟩)
              ·refine WJ.adv 12 rfl ?_
               obtain ⟨K18, hK18, hp⟩ : ∃ K, K = _ ∧ Option.bind _ K = some r := ⟨_, rfl, cutS hp⟩
               refine WJ.cut 2 (α := Hp) (fun y => []) (fun y => []) (fun y => [⟨some ⟨bv0, 0, none⟩, 6, 1, [.int .i64 zj, .slice zg zb.length zh, .slice ze za.length zf, .int .u64 zk, .int .u64 zl, .int .i64 zi]⟩, ⟨some ⟨bv1u1, 0, none⟩, 1, 1, [.func (.func 52) ⟨[]⟩ ⟨[]⟩]⟩, ⟨some ⟨bv2u3, 0, none⟩, 1, 1, [.func (.func 54) ⟨[]⟩ ⟨[]⟩]⟩]) (fun y => y) (fun y => K18 (Sum.inl ()) = some r ∧ SlF 0 y ViewTC a_x0 c_x0 x0 ∧ SlF 0 y ReplyC zg zh zb ∧ SlF 0 y SightC ze zf za ∧ SlF 0 y ReplyC a_t53u1_Replies c_t53u1_Replies t53u1_Replies ∧ SlF 0 y SightC a_t53u1_Sights c_t53u1_Sights t53u1_Sights) ?_ (fun j18 => ?_)
               ·rintro B20 ⟨hp, gbg_x0, zc, zd, g_t53u1_Replies, g_t53u1_Sights⟩
                subst hK18
                show WJ _ _ _ B20 [⟨some ⟨bv0, 0, none⟩, 6, 1, [.int .i64 zj, .slice zg zb.length zh, .slice ze za.length zf, .int .u64 zk, .int .u64 zl, .int .i64 zi]⟩, ⟨some ⟨bv1u1, 0, none⟩, 1, 1, [.func (.func 52) ⟨[]⟩ ⟨[]⟩]⟩, ⟨some ⟨bv2u3, 0, none⟩, 1, 1, [.func (.func 54) ⟨[]⟩ ⟨[]⟩]⟩] _ _ ⟨[], [], true, 0⟩
                refine WJ.inlR 204 rfl rfl rfl rfl ?_
                exact WJ.gotoO (j17 ((-1), B20) ⟨hp, gbg_x0, zc, zd, g_t53u1_Replies, g_t53u1_Sights⟩) (by exact ⟨rfl, trivial⟩) rfl rfl
               ·refine WJ.lp 200 (α := Nat × Int × Hp) (fun y => [(0, .v (.slice ze za.length zf)), (1, .v (.func (.func 96) ⟨[]⟩ ⟨[.pointer (some ⟨bv2u3, 0, none⟩)]⟩)), (7, .v (.int .i64 ((za.length : Nat) : Int))), (8, .v (.int .i64 y.2.1))]) (fun y => []) (fun y => [⟨some ⟨bv0, 0, none⟩, 6, 1, [.int .i64 zj, .slice zg zb.length zh, .slice ze za.length zf, .int .u64 zk, .int .u64 zl, .int .i64 zi]⟩, ⟨some ⟨bv1u1, 0, none⟩, 1, 1, [.func (.func 52) ⟨[]⟩ ⟨[]⟩]⟩, ⟨some ⟨bv2u3, 0, none⟩, 1, 1, [.func (.func 54) ⟨[]⟩ ⟨[]⟩]⟩]) (fun y => y.2.2) (fun y => y.1) (fun y => Option.bind (f19_l5 za y.1 y.2.1) K18 = some r ∧ SlF 0 y.2.2 ViewTC a_x0 c_x0 x0 ∧ SlF 0 y.2.2 ReplyC zg zh zb ∧ SlF 0 y.2.2 SightC ze zf za ∧ SlF 0 y.2.2 ReplyC a_t53u1_Replies c_t53u1_Replies t53u1_Replies ∧ SlF 0 y.2.2 SightC a_t53u1_Sights c_t53u1_Sights t53u1_Sights) (k, 0, B17) rfl ⟨hp, gbg_x0, zc, zd, g_t53u1_Replies, g_t53u1_Sights⟩ (by exact ⟨rfl, rfl, rfl, rfl, trivial⟩) rfl rfl rfl ?_
                rintro ⟨n18, za1, B18⟩ ⟨hp, gbg_x0, zc, zd, g_t53u1_Replies, g_t53u1_Sights⟩ ih18
                show WJ _ _ _ B18 [⟨some ⟨bv0, 0, none⟩, 6, 1, [.int .i64 zj, .slice zg zb.length zh, .slice ze za.length zf, .int .u64 zk, .int .u64 zl, .int .i64 zi]⟩, ⟨some ⟨bv1u1, 0, none⟩, 1, 1, [.func (.func 52) ⟨[]⟩ ⟨[]⟩]⟩, ⟨some ⟨bv2u3, 0, none⟩, 1, 1, [.func (.func 54) ⟨[]⟩ ⟨[]⟩]⟩] _ _ ⟨[(0, .v (.slice ze za.length zf)), (1, .v (.func (.func 96) ⟨[]⟩ ⟨[.pointer (some ⟨bv2u3, 0, none⟩)]⟩)), (7, .v (.int .i64 ((za.length : Nat) : Int))), (8, .v (.int .i64 za1))], [], true, 0⟩
                replace hp : Option.bind (f19_l5 za n18 za1) K18 = some r := hp
                cases n18 with
                | zero => rw [f19_l5] at hp; exact (noS hp).elim
                | succ n18 =>
                 rw [f19_l5] at hp
                 obtain ⟨t9u4, e9u4, hp⟩ := bindS hp
                 refine WJ.cv 202 (b := t9u4) (H0 := ⟨.nil, 0, 0⟩) rfl rfl rfl rfl rfl rfl (by rw [← endS e9u4]; exact rfl) rfl ?_
                 cases t9u4
                 ·replace hp := (itS hp).2 Bool.false_ne_true
                  exact WJ.goto 4 (j18 B18 ⟨hp, gbg_x0, zc, zd, g_t53u1_Replies, g_t53u1_Sights⟩) rfl rfl (by exact trivial) rfl rfl rfl
                 ·replace hp := (itS hp).1 rfl
                  obtain ⟨⟨t14u4_Floor, t14u4_Panel, t14u4_Out⟩, e14u4, hp⟩ := bindS hp
                  obtain ⟨b14u4, o14u4, cs14u4, i14u4, rfl, p14u4⟩ := zd.at e14u4 u45 sz84
                  refine WJ.hd (v := .pointer (some ⟨b14u4, o14u4, none⟩)) 216 rfl rfl rfl rfl (fun ids H' fr => opD_indexAddr rfl (evV_eq _ _ _ _ _ rfl) (evV_eq _ _ _ _ _ rfl) (i14u4 _)) rfl ?_
                  refine WJ.hd (v := .agg ⟨[.int .i64 t14u4_Floor, .int .i64 t14u4_Panel, .bool t14u4_Out]⟩) 200 rfl rfl rfl rfl (fun ids H' fr => opD_load rfl (evV_eq _ _ _ _ _ rfl) ((p14u4.mono (Nat.zero_le _) (fr.abv.le (Nat.zero_le _))).loadN (d := 0) ag84 sz84 rfl rfl)) rfl ?_
                  refine WJ.inl 200 rfl rfl Tryz.func96 rfl rfl rfl rfl rfl (lc := [(0, .v (.agg ⟨[.int .i64 t14u4_Floor, .int .i64 t14u4_Panel, .bool t14u4_Out]⟩)), (1, .v (.pointer (some ⟨bv2u3, 0, none⟩)))]) (fun _ => rfl) ?_
                  refine WJ.adv 3 rfl ?_
                  refine WJ.liftS (loc := []) rfl rfl (fun bv3u1 => ?_)
                  refine WJ.hd (v := .func (.func 54) ⟨[]⟩ ⟨[]⟩) 204 rfl rfl rfl rfl (fun ids H' fr => opD_load rfl (evV_eq _ _ _ _ _ rfl) (fr.ldOwn (j := 2) rfl rfl)) rfl ?_
                  refine WJ.hd (v := .agg ⟨[.int .i64 t14u4_Floor, .int .i64 t14u4_Panel, .bool t14u4_Out]⟩) 200 rfl rfl rfl rfl (fun ids H' fr => opD_load rfl (evV_eq _ _ _ _ _ rfl) (fr.ldOwn (j := 3) rfl rfl)) rfl ?_
                  obtain ⟨t6u16, e6u16, hp⟩ := bindS hp
                  refine WJ.cl 200 (R := R_4 t6u16) (fun hm h k => R_4.mono hm h k) rfl (fun ids H' fr => f54_ok (x0 := (Sight.mk t14u4_Floor t14u4_Panel t14u4_Out)) e6u16) ?_
                  rintro v B19 ⟨abB19, ivB19⟩ rfl
                  refine ⟨_, rfl, ?_⟩
                  replace gbg_x0 := gbg_x0.mono (Nat.le_refl _) (abB19.le (Nat.zero_le _))
                  replace zc := zc.mono (Nat.le_refl _) (abB19.le (Nat.zero_le _))
                  replace zd := zd.mono (Nat.le_refl _) (abB19.le (Nat.zero_le _))
                  replace g_t53u1_Replies := g_t53u1_Replies.mono (Nat.le_refl _) (abB19.le (Nat.zero_le _))
                  replace g_t53u1_Sights := g_t53u1_Sights.mono (Nat.le_refl _) (abB19.le (Nat.zero_le _))
                  replace p14u4 := p14u4.mono (Nat.le_refl _) (abB19.le (Nat.zero_le _))
                  cases t6u16
                  ·replace hp := (itS hp).2 Bool.false_ne_true
                   refine WJ.inlR 203 rfl rfl rfl rfl ?_
                   refine WJ.inlR 207 rfl rfl rfl rfl ?_
                   subst hK18
                   exact WJ.gotoO (j17 (za1, B19) ⟨hp, gbg_x0, zc, zd, g_t53u1_Replies, g_t53u1_Sights⟩) (by exact ⟨rfl, trivial⟩) rfl rfl
                  ·replace hp := (itS hp).1 rfl
                   refine WJ.inlR 203 rfl rfl rfl rfl ?_
                   exact WJ.ag 208 rfl (by exact ⟨rfl, rfl, rfl, rfl, trivial⟩) rfl rfl rfl (ih18 (n18, IntKind.i64.wrap (za1 + 1), B19) ⟨hp, gbg_x0, zc, zd, g_t53u1_Replies, g_t53u1_Sights⟩ (Nat.lt_succ_self _))
             ·replace hp := (itS hp).1 rfl
              refine WJ.inlR 203 rfl rfl rfl rfl ?_
              subst hK10
              subst hK9
              obtain rfl := endS (show some _ = some r from hp)
              exact WJ.rt 222 rfl rfl rfl (fun ids H' fr => ⟨fr.ext0, rfl⟩)
            ·refine WJ.adv 12 rfl ?_
             obtain ⟨K16, hK16, hp⟩ : ∃ K, K = _ ∧ Option.bind _ K = some r := ⟨_, rfl, cutS hp⟩
             refine WJ.cut 2 (α := Hp) (fun y => []) (fun y => []) (fun y => [⟨some ⟨bv0, 0, none⟩, 6, 1, [.int .i64 zj, .slice zg zb.length zh, .slice ze za.length zf, .int .u64 zk, .int .u64 zl, .int .i64 zi]⟩, ⟨some ⟨bv1u1, 0, none⟩, 1, 1, [.func (.func 52) ⟨[]⟩ ⟨[]⟩]⟩]) (fun y => y) (fun y => K16 (Sum.inl ()) = some r ∧ SlF 0 y ViewTC a_x0 c_x0 x0 ∧ SlF 0 y ReplyC zg zh zb ∧ SlF 0 y SightC ze zf za ∧ SlF 0 y ReplyC a_t53u1_Replies c_t53u1_Replies t53u1_Replies ∧ SlF 0 y SightC a_t53u1_Sights c_t53u1_Sights t53u1_Sights) ?_ (fun j16 => ?_)
             ·rintro B16 ⟨hp, gbg_x0, zc, zd, g_t53u1_Replies, g_t53u1_Sights⟩
              subst hK16
              show WJ _ _ _ B16 [⟨some ⟨bv0, 0, none⟩, 6, 1, [.int .i64 zj, .slice zg zb.length zh, .slice ze za.length zf, .int .u64 zk, .int .u64 zl, .int .i64 zi]⟩, ⟨some ⟨bv1u1, 0, none⟩, 1, 1, [.func (.func 52) ⟨[]⟩ ⟨[]⟩]⟩] _ _ ⟨[], [], true, 0⟩
              refine WJ.inlR 204 rfl rfl rfl rfl ?_
              exact WJ.gotoO (j15 ((-1), B16) ⟨hp, gbg_x0, zc, zd, g_t53u1_Replies, g_t53u1_Sights⟩) (by exact ⟨rfl, trivial⟩) rfl rfl
             ·refine WJ.lp 200 (α := Nat × Int × Hp) (fun y => [(0, .v (.slice zg zb.length zh)), (1, .v (.func (.func 94) ⟨[]⟩ ⟨[.pointer (some ⟨bv1u1, 0, none⟩)]⟩)), (7, .v (.int .i64 ((zb.length : Nat) : Int))), (8, .v (.int .i64 y.2.1))]) (fun y => []) (fun y => [⟨some ⟨bv0, 0, none⟩, 6, 1, [.int .i64 zj, .slice zg zb.length zh, .slice ze za.length zf, .int .u64 zk, .int .u64 zl, .int .i64 zi]⟩, ⟨some ⟨bv1u1, 0, none⟩, 1, 1, [.func (.func 52) ⟨[]⟩ ⟨[]⟩]⟩]) (fun y => y.2.2) (fun y => y.1) (fun y => Option.bind (f19_l4 zb y.1 y.2.1) K16 = some r ∧ SlF 0 y.2.2 ViewTC a_x0 c_x0 x0 ∧ SlF 0 y.2.2 ReplyC zg zh zb ∧ SlF 0 y.2.2 SightC ze zf za ∧ SlF 0 y.2.2 ReplyC a_t53u1_Replies c_t53u1_Replies t53u1_Replies ∧ SlF 0 y.2.2 SightC a_t53u1_Sights c_t53u1_Sights t53u1_Sights) (k, 0, B13) rfl ⟨hp, gbg_x0, zc, zd, g_t53u1_Replies, g_t53u1_Sights⟩ (by exact ⟨rfl, rfl, rfl, rfl, trivial⟩) rfl rfl rfl ?_
              rintro ⟨n16, za0, B14⟩ ⟨hp, gbg_x0, zc, zd, g_t53u1_Replies, g_t53u1_Sights⟩ ih16
              show WJ _ _ _ B14 [⟨some ⟨bv0, 0, none⟩, 6, 1, [.int .i64 zj, .slice zg zb.length zh, .slice ze za.length zf, .int .u64 zk, .int .u64 zl, .int .i64 zi]⟩, ⟨some ⟨bv1u1, 0, none⟩, 1, 1, [.func (.func 52) ⟨[]⟩ ⟨[]⟩]⟩] _ _ ⟨[(0, .v (.slice zg zb.length zh)), (1, .v (.func (.func 94) ⟨[]⟩ ⟨[.pointer (some ⟨bv1u1, 0, none⟩)]⟩)), (7, .v (.int .i64 ((zb.length : Nat) : Int))), (8, .v (.int .i64 za0))], [], true, 0⟩
              replace hp : Option.bind (f19_l4 zb n16 za0) K16 = some r := hp
              cases n16 with
              | zero => rw [f19_l4] at hp; exact (noS hp).elim
              | succ n16 =>
               rw [f19_l4] at hp
               obtain ⟨t9u3, e9u3, hp⟩ := bindS hp
               refine WJ.cv 202 (b := t9u3) (H0 := ⟨.nil, 0, 0⟩) rfl rfl rfl rfl rfl rfl (by rw [← endS e9u3]; exact rfl) rfl ?_
               cases t9u3
               ·replace hp := (itS hp).2 Bool.false_ne_true
                exact WJ.goto 4 (j16 B14 ⟨hp, gbg_x0, zc, zd, g_t53u1_Replies, g_t53u1_Sights⟩) rfl rfl (by exact trivial) rfl rfl rfl
               ·replace hp := (itS hp).1 rfl
                obtain ⟨⟨t14u3_Port, t14u3_Code⟩, e14u3, hp⟩ := bindS hp
                obtain ⟨b14u3, o14u3, cs14u3, i14u3, rfl, p14u3⟩ := zc.at e14u3 u44 sz87
                refine WJ.hd (v := .pointer (some ⟨b14u3, o14u3, none⟩)) 216 rfl rfl rfl rfl (fun ids H' fr => opD_indexAddr rfl (evV_eq _ _ _ _ _ rfl) (evV_eq _ _ _ _ _ rfl) (i14u3 _)) rfl ?_
                refine WJ.hd (v := .agg ⟨[.int .i64 t14u3_Port, .int .i64 t14u3_Code]⟩) 200 rfl rfl rfl rfl (fun ids H' fr => opD_load rfl (evV_eq _ _ _ _ _ rfl) ((p14u3.mono (Nat.zero_le _) (fr.abv.le (Nat.zero_le _))).loadN (d := 0) ag87 sz87 rfl rfl)) rfl ?_
                refine WJ.inl 200 rfl rfl Tryz.func94 rfl rfl rfl rfl rfl (lc := [(0, .v (.agg ⟨[.int .i64 t14u3_Port, .int .i64 t14u3_Code]⟩)), (1, .v (.pointer (some ⟨bv1u1, 0, none⟩)))]) (fun _ => rfl) ?_
                refine WJ.adv 3 rfl ?_
                refine WJ.liftS (loc := []) rfl rfl (fun bv2u2 => ?_)
                refine WJ.hd (v := .func (.func 52) ⟨[]⟩ ⟨[]⟩) 204 rfl rfl rfl rfl (fun ids H' fr => opD_load rfl (evV_eq _ _ _ _ _ rfl) (fr.ldOwn (j := 1) rfl rfl)) rfl ?_
                refine WJ.hd (v := .agg ⟨[.int .i64 t14u3_Port, .int .i64 t14u3_Code]⟩) 200 rfl rfl rfl rfl (fun ids H' fr => opD_load rfl (evV_eq _ _ _ _ _ rfl) (fr.ldOwn (j := 2) rfl rfl)) rfl ?_
                obtain ⟨t6u12, e6u12, hp⟩ := bindS hp
                refine WJ.cl 200 (R := R_4 t6u12) (fun hm h k => R_4.mono hm h k) rfl (fun ids H' fr => f52_ok (x0 := (Reply.mk t14u3_Port t14u3_Code)) e6u12) ?_
                rintro v B15 ⟨abB15, ivB15⟩ rfl
                refine ⟨_, rfl, ?_⟩
                replace gbg_x0 := gbg_x0.mono (Nat.le_refl _) (abB15.le (Nat.zero_le _))
                replace zc := zc.mono (Nat.le_refl _) (abB15.le (Nat.zero_le _))
                replace zd := zd.mono (Nat.le_refl _) (abB15.le (Nat.zero_le _))
                replace g_t53u1_Replies := g_t53u1_Replies.mono (Nat.le_refl _) (abB15.le (Nat.zero_le _))
                replace g_t53u1_Sights := g_t53u1_Sights.mono (Nat.le_refl _) (abB15.le (Nat.zero_le _))
                replace p14u3 := p14u3.mono (Nat.le_refl _) (abB15.le (Nat.zero_le _))
                cases t6u12
                ·replace hp := (itS hp).2 Bool.false_ne_true
                 refine WJ.inlR 203 rfl rfl rfl rfl ?_
                 refine WJ.inlR 207 rfl rfl rfl rfl ?_
                 subst hK16
                 exact WJ.gotoO (j15 (za0, B15) ⟨hp, gbg_x0, zc, zd, g_t53u1_Replies, g_t53u1_Sights⟩) (by exact ⟨rfl, trivial⟩) rfl rfl
                ·replace hp := (itS hp).1 rfl
                 refine WJ.inlR 203 rfl rfl rfl rfl ?_
                 exact WJ.ag 208 rfl (by exact ⟨rfl, rfl, rfl, rfl, trivial⟩) rfl rfl rfl (ih16 (n16, IntKind.i64.wrap (za0 + 1), B15) ⟨hp, gbg_x0, zc, zd, g_t53u1_Replies, g_t53u1_Sights⟩ (Nat.lt_succ_self _))
     ·refine WJ.adv 10 rfl ?_
      obtain ⟨K19, hK19, hp⟩ : ∃ K, K = _ ∧ Option.bind _ K = some r := ⟨_, rfl, cutS hp⟩
      refine WJ.cut 4 (α := Hp) (fun y => [(0, .v (.slice a_x0 x0.length c_x0)), (9, .v (.slice a_x0 x0.length c_x0)), (10, .v (.int .i64 ((x0.length : Nat) : Int))), (11, .v (.int .i64 zm))]) (fun y => []) (fun y => [⟨some ⟨bv0, 0, none⟩, 6, 1, [.int .i64 zj, .slice zg zb.length zh, .slice ze za.length zf, .int .u64 zk, .int .u64 zl, .int .i64 zi]⟩]) (fun y => y) (fun y => K19 ((Sum.inr ())) = some r ∧ SlF 0 y ViewTC a_x0 c_x0 x0 ∧ SlF 0 y ReplyC zg zh zb ∧ SlF 0 y SightC ze zf za) ?_ (fun j19 => ?_)
      ·rintro B44 ⟨hp, gbg_x0, zc, zd⟩
       subst hK19
       show WJ _ _ _ B44 [⟨some ⟨bv0, 0, none⟩, 6, 1, [.int .i64 zj, .slice zg zb.length zh, .slice ze za.length zf, .int .u64 zk, .int .u64 zl, .int .i64 zi]⟩] _ _ ⟨[(0, .v (.slice a_x0 x0.length c_x0)), (9, .v (.slice a_x0 x0.length c_x0)), (10, .v (.int .i64 ((x0.length : Nat) : Int))), (11, .v (.int .i64 zm))], [], true, 0⟩
       exact WJ.ag 204 rfl (by exact ⟨rfl, rfl, rfl, rfl, trivial⟩) rfl rfl rfl (ih9 (n, IntKind.i64.wrap (zm + 1), B44) ⟨hp, gbg_x0⟩ (Nat.lt_succ_self _))
      ·refine WJ.dr 200 rfl gmix (by kernel_rfl) (by kernel_rfl) rfl ?_
       refine WD.ci hp rfl rfl rfl rfl rfl rfl rfl rfl rfl (fun hc28u1 hp => ?_) (fun hc28u1 hp => ?_)
       ·refine WD.hd (v := .int .i64 zj) rfl rfl rfl rfl (fun _ _ _ _ _ => side_no) (fun ids H' fr => opD_load rfl (evV_eq _ _ _ _ _ rfl) (fr.ldOwn (j := 0) rfl rfl)) rfl ?_
        obtain ⟨⟨t35u1_Tick, t35u1_Replies, t35u1_Sights, t35u1_Up, t35u1_Down, t35u1_Word⟩, e35u1, hp⟩ := bindS hp
        obtain ⟨b35u1, o35u1, cs35u1, i35u1, ⟨a_t35u1_Replies, c_t35u1_Replies, a_t35u1_Sights, c_t35u1_Sights, rfl, g_t35u1_Replies, g_t35u1_Sights⟩, p35u1⟩ := gbg_x0.at e35u1 u23 sz48
        refine WD.hd (v := .pointer (some ⟨b35u1, o35u1, none⟩)) rfl rfl rfl rfl (fun _ _ _ _ _ => side_no) (fun ids H' fr => opD_indexAddr rfl (evV_eq _ _ _ _ _ rfl) (evV_eq _ _ _ _ _ rfl) (i35u1 _)) rfl ?_
        refine WD.hd (v := .int .i64 t35u1_Tick) rfl rfl rfl rfl (fun _ _ _ _ _ => side_no) (fun ids H' fr => opD_load rfl (evV_eq _ _ _ _ _ rfl) ((p35u1.mono (Nat.zero_le _) (fr.abv.le (Nat.zero_le _))).load (d := 0) ag3 rfl)) rfl ?_
        refine WD.cn hp rfl rfl rfl rfl rfl rfl rfl rfl rfl (fun hc39u1 hp => ?_) (fun hc39u1 hp => ?_)
        ·refine WD.done rfl ?_
         subst hK19
         subst hK9
         obtain rfl := endS (show some _ = some r from hp)
         exact WJ.rt 207 rfl rfl rfl (fun ids H' fr => ⟨fr.ext0, rfl⟩)
        ·refine WD.done rfl ?_
         refine WJ.dr 202 rfl gmix (by kernel_rfl) (by kernel_rfl) rfl ?_
         refine WD.hd (v := .slice ze za.length zf) rfl rfl rfl rfl (fun _ _ _ _ _ => side_no) (fun ids H' fr => opD_load rfl (evV_eq _ _ _ _ _ rfl) (fr.ldOwn (j := 0) rfl rfl)) rfl ?_
         obtain ⟨t46u2, e46u2, hp⟩ := bindS hp
         refine WD.cl (R := R_4 t46u2) (fun hm h k => R_4.mono hm h k) rfl (fun ids H' fr => f50_ok e46u2) ?_
         rintro v B24 ⟨abB24, ivB24⟩ rfl
         refine ⟨_, rfl, ?_⟩
         replace gbg_x0 := gbg_x0.mono (Nat.le_refl _) (abB24.le (Nat.zero_le _))
         replace zc := zc.mono (Nat.le_refl _) (abB24.le (Nat.zero_le _))
         replace zd := zd.mono (Nat.le_refl _) (abB24.le (Nat.zero_le _))
         replace p14 := p14.mono (Nat.le_refl _) (abB24.le (Nat.zero_le _))
         replace g_t35u1_Replies := g_t35u1_Replies.mono (Nat.le_refl _) (abB24.le (Nat.zero_le _))
         replace g_t35u1_Sights := g_t35u1_Sights.mono (Nat.le_refl _) (abB24.le (Nat.zero_le _))
         replace p35u1 := p35u1.mono (Nat.le_refl _) (abB24.le (Nat.zero_le _))
         cases t46u2
         ·replace hp := (itS hp).2 Bool.false_ne_true
          refine WD.done rfl ?_
          subst hK19
          subst hK9
          obtain rfl := endS (show some _ = some r from hp)
          exact WJ.rt 207 rfl rfl rfl (fun ids H' fr => ⟨fr.ext0, rfl⟩)
         ·replace hp := (itS hp).1 rfl
          refine WD.hd (v := .slice ze za.length zf) rfl rfl rfl rfl (fun _ _ _ _ _ => side_no) (fun ids H' fr => opD_load rfl (evV_eq _ _ _ _ _ rfl) (fr.ldOwn (j := 0) rfl rfl)) rfl ?_
          obtain ⟨⟨t53u2_Tick, t53u2_Replies, t53u2_Sights, t53u2_Up, t53u2_Down, t53u2_Word⟩, e53u2, hp⟩ := bindS hp
          obtain ⟨b53u2, o53u2, cs53u2, i53u2, ⟨a_t53u2_Replies, c_t53u2_Replies, a_t53u2_Sights, c_t53u2_Sights, rfl, g_t53u2_Replies, g_t53u2_Sights⟩, p53u2⟩ := gbg_x0.at e53u2 u23 sz48
          refine WD.hd (v := .pointer (some ⟨b53u2, o53u2, none⟩)) rfl rfl rfl rfl (fun _ _ _ _ _ => side_no) (fun ids H' fr => opD_indexAddr rfl (evV_eq _ _ _ _ _ rfl) (evV_eq _ _ _ _ _ rfl) (i53u2 _)) rfl ?_
          refine WD.hd (v := .slice a_t53u2_Sights t53u2_Sights.length c_t53u2_Sights) rfl rfl rfl rfl (fun _ _ _ _ _ => side_no) (fun ids H' fr => opD_load rfl (evV_eq _ _ _ _ _ rfl) ((p53u2.mono (Nat.zero_le _) (fr.abv.le (Nat.zero_le _))).load (d := 2) ag45 rfl)) rfl ?_
          refine WD.cn hp rfl rfl rfl rfl rfl rfl rfl rfl rfl (fun hc57u2 hp => ?_) (fun hc57u2 hp => ?_)
          ·refine WD.done rfl ?_
           subst hK19
           subst hK9
           obtain rfl := endS (show some _ = some r from hp)
           exact WJ.rt 207 rfl rfl rfl (fun ids H' fr => ⟨fr.ext0, rfl⟩)
          ·refine WD.done rfl ?_
           refine WJ.hd (v := .slice zg zb.length zh) 204 rfl rfl rfl rfl (fun ids H' fr => opD_load rfl (evV_eq _ _ _ _ _ rfl) (fr.ldOwn (j := 0) rfl rfl)) rfl ?_
           refine WJ.ci 201 hp rfl rfl rfl rfl rfl rfl rfl rfl rfl (fun hc64u2 hp => ?_) (fun hc64u2 hp => ?_)
           ·subst hK19
            subst hK9
            obtain rfl := endS (show some _ = some r from hp)
            exact WJ.rt 209 rfl rfl rfl (fun ids H' fr => ⟨fr.ext0, rfl⟩)
           ·refine WJ.hd (v := .slice zg zb.length zh) 206 rfl rfl rfl rfl (fun ids H' fr => opD_load rfl (evV_eq _ _ _ _ _ rfl) (fr.ldOwn (j := 0) rfl rfl)) rfl ?_
            refine WJ.inl 200 rfl rfl Tryz.func51 rfl rfl rfl rfl rfl (lc := [(0, .v (.slice zg zb.length zh)), (1, .v (.func (.func 52) ⟨[]⟩ ⟨[]⟩))]) (fun _ => rfl) ?_
            refine WJ.adv 3 rfl ?_
            refine WJ.liftS (loc := []) rfl rfl (fun bv1u2 => ?_)
            refine WJ.adv 6 rfl ?_
            refine WJ.nf ?_
            refine WJ.inl 200 rfl rfl Tryz.func93 rfl rfl rfl rfl rfl (lc := [(0, .v (.slice zg zb.length zh)), (1, .v (.func (.func 94) ⟨[]⟩ ⟨[.pointer (some ⟨bv1u2, 0, none⟩)]⟩))]) (fun _ => rfl) ?_
            obtain ⟨K20, hK20, hp⟩ : ∃ K, K = _ ∧ Option.bind _ K = some r := ⟨_, rfl, cutS hp⟩
            refine WJ.inlC 208 (α := Int × Hp) (fun y => [(7, .v (.int .i64 y.1))]) (fun y => [⟨some ⟨bv0, 0, none⟩, 6, 1, [.int .i64 zj, .slice zg zb.length zh, .slice ze za.length zf, .int .u64 zk, .int .u64 zl, .int .i64 zi]⟩, ⟨some ⟨bv1u2, 0, none⟩, 1, 1, [.func (.func 52) ⟨[]⟩ ⟨[]⟩]⟩]) (fun y => y.2) (fun y => K20 ((y.1)) = some r ∧ SlF 0 y.2 ViewTC a_x0 c_x0 x0 ∧ SlF 0 y.2 ReplyC zg zh zb ∧ SlF 0 y.2 SightC ze zf za ∧ SlF 0 y.2 ReplyC a_t35u1_Replies c_t35u1_Replies t35u1_Replies ∧ SlF 0 y.2 SightC a_t35u1_Sights c_t35u1_Sights t35u1_Sights ∧ SlF 0 y.2 ReplyC a_t53u2_Replies c_t53u2_Replies t53u2_Replies ∧ SlF 0 y.2 SightC a_t53u2_Sights c_t53u2_Sights t53u2_Sights) rfl rfl Tryz.func125 rfl rfl rfl rfl rfl (lc := [(0, .v (.slice zg zb.length zh)), (1, .v (.func (.func 94) ⟨[]⟩ ⟨[.pointer (some ⟨bv1u2, 0, none⟩)]⟩))]) (fun _ => rfl) ?_ (fun j20 => ?_)
            ·rintro ⟨x7_20, B28⟩ ⟨hp, gbg_x0, zc, zd, g_t35u1_Replies, g_t35u1_Sights, g_t53u2_Replies, g_t53u2_Sights⟩
             subst hK20
             show WJ _ _ _ B28 [⟨some ⟨bv0, 0, none⟩, 6, 1, [.int .i64 zj, .slice zg zb.length zh, .slice ze za.length zf, .int .u64 zk, .int .u64 zl, .int .i64 zi]⟩, ⟨some ⟨bv1u2, 0, none⟩, 1, 1, [.func (.func 52) ⟨[]⟩ ⟨[]⟩]⟩] _ _ ⟨[(7, .v (.int .i64 x7_20))], [], true, 0⟩
             obtain ⟨t8u27, e8u27, hp⟩ := bindS hp
             refine WJ.cv 200 (b := t8u27) (H0 := ⟨.nil, 0, 0⟩) rfl rfl rfl rfl rfl rfl (by rw [← endS e8u27]; exact rfl) rfl ?_
             refine WJ.inlR 202 rfl rfl rfl rfl ?_
             cases t8u27
             ·replace hp := (itS hp).2 Bool.false_ne_true
              refine WJ.inlR 203 rfl rfl rfl rfl ?_
              refine WJ.hd (v := .slice ze za.length zf) 203 rfl rfl rfl rfl (fun ids H' fr => opD_load rfl (evV_eq _ _ _ _ _ rfl) (fr.ldOwn (j := 0) rfl rfl)) rfl ?_
              refine WJ.inl 200 rfl rfl Tryz.func53 rfl rfl rfl rfl rfl (lc := [(0, .v (.slice ze za.length zf)), (1, .v (.func (.func 54) ⟨[]⟩ ⟨[]⟩))]) (fun _ => rfl) ?_
              refine WJ.adv 3 rfl ?_
              refine WJ.liftS (loc := []) rfl rfl (fun bv2u5 => ?_)
              refine WJ.adv 6 rfl ?_
              refine WJ.nf ?_
              refine WJ.inl 200 rfl rfl Tryz.func95 rfl rfl rfl rfl rfl (lc := [(0, .v (.slice ze za.length zf)), (1, .v (.func (.func 96) ⟨[]⟩ ⟨[.pointer (some ⟨bv2u5, 0, none⟩)]⟩))]) (fun _ => rfl) ?_
              obtain ⟨K22, hK22, hp⟩ : ∃ K, K = _ ∧ Option.bind _ K = some r := ⟨_, rfl, cutS hp⟩
              refine WJ.inlC 208 (α := Int × Hp) (fun y => [(7, .v (.int .i64 y.1))]) (fun y => [⟨some ⟨bv0, 0, none⟩, 6, 1, [.int .i64 zj, .slice zg zb.length zh, .slice ze za.length zf, .int .u64 zk, .int .u64 zl, .int .i64 zi]⟩, ⟨some ⟨bv1u2, 0, none⟩, 1, 1, [.func (.func 52) ⟨[]⟩ ⟨[]⟩]⟩, ⟨some ⟨bv2u5, 0, none⟩, 1, 1, [.func (.func 54) ⟨[]⟩ ⟨[]⟩]⟩]) (fun y => y.2) (fun y => K22 ((y.1)) = some r ∧ SlF 0 y.2 ViewTC a_x0 c_x0 x0 ∧ SlF 0 y.2 ReplyC zg zh zb ∧ SlF 0 y.2 SightC ze zf za ∧ SlF 0 y.2 ReplyC a_t35u1_Replies c_t35u1_Replies t35u1_Replies ∧ SlF 0 y.2 SightC a_t35u1_Sights c_t35u1_Sights t35u1_Sights ∧ SlF 0 y.2 ReplyC a_t53u2_Replies c_t53u2_Replies t53u2_Replies ∧ SlF 0 y.2 SightC a_t53u2_Sights c_t53u2_Sights t53u2_Sights) rfl rfl Tryz.func126 rfl rfl rfl rfl rfl (lc := [(0, .v (.slice ze za.length zf)), (1, .v (.func (.func 96) ⟨[]⟩ ⟨[.pointer (some ⟨bv2u5, 0, none⟩)]⟩))]) (fun _ => rfl) ?_ (fun j22 => ?_)
              ·rintro ⟨x7_22, B32⟩ ⟨hp, gbg_x0, zc, zd, g_t35u1_Replies, g_t35u1_Sights, g_t53u2_Replies, g_t53u2_Sights⟩
               subst hK22
               show WJ _ _ _ B32 [⟨some ⟨bv0, 0, none⟩, 6, 1, [.int .i64 zj, .slice zg zb.length zh, .slice ze za.length zf, .int .u64 zk, .int .u64 zl, .int .i64 zi]⟩, ⟨some ⟨bv1u2, 0, none⟩, 1, 1, [.func (.func 52) ⟨[]⟩ ⟨[]⟩]⟩, ⟨some ⟨bv2u5, 0, none⟩, 1, 1, [.func (.func 54) ⟨[]⟩ ⟨[]⟩]⟩] _ _ ⟨[(7, .v (.int .i64 x7_22))], [], true, 0⟩
               obtain ⟨t8u32, e8u32, hp⟩ := bindS hp
               refine WJ.cv 200 (b := t8u32) (H0 := ⟨.nil, 0, 0⟩) rfl rfl rfl rfl rfl rfl (by rw [← endS e8u32]; exact rfl) rfl ?_
               refine WJ.inlR 202 rfl rfl rfl rfl ?_
               cases t8u32
               ·replace hp := (itS hp).2 Bool.false_ne_true
                refine WJ.inlR 203 rfl rfl rfl rfl ?_
                refine WJ.hd (v := .int .i64 zi) 204 rfl rfl rfl rfl (fun ids H' fr => opD_load rfl (evV_eq _ _ _ _ _ rfl) (fr.ldOwn (j := 0) rfl rfl)) rfl ?_
                obtain ⟨t80u2, e80u2, hp⟩ := bindS hp
                refine WJ.cl 200 (R := R_4 t80u2) (fun hm h k => R_4.mono hm h k) rfl (fun ids H' fr => f50_ok e80u2) ?_
                rintro v B33 ⟨abB33, ivB33⟩ rfl
                refine ⟨_, rfl, ?_⟩
                replace gbg_x0 := gbg_x0.mono (Nat.le_refl _) (abB33.le (Nat.zero_le _))
                replace zc := zc.mono (Nat.le_refl _) (abB33.le (Nat.zero_le _))
                replace zd := zd.mono (Nat.le_refl _) (abB33.le (Nat.zero_le _))
                replace g_t35u1_Replies := g_t35u1_Replies.mono (Nat.le_refl _) (abB33.le (Nat.zero_le _))
                replace g_t35u1_Sights := g_t35u1_Sights.mono (Nat.le_refl _) (abB33.le (Nat.zero_le _))
                replace g_t53u2_Replies := g_t53u2_Replies.mono (Nat.le_refl _) (abB33.le (Nat.zero_le _))
                replace g_t53u2_Sights := g_t53u2_Sights.mono (Nat.le_refl _) (abB33.le (Nat.zero_le _))
                cases t80u2
                ·replace hp := (itS hp).2 Bool.false_ne_true
                 subst hK19
                 subst hK9
                 obtain rfl := endS (show some _ = some r from hp)
                 exact WJ.rt 211 rfl rfl rfl (fun ids H' fr => ⟨fr.ext0, rfl⟩)
                ·replace hp := (itS hp).1 rfl
                 exact WJ.goto 8 (j19 B33 ⟨hp, gbg_x0, zc, zd⟩) rfl rfl (by exact ⟨rfl, rfl, rfl, rfl, trivial⟩) rfl rfl rfl
               ·replace hp := (itS hp).1 rfl
                refine WJ.inlR 203 rfl rfl rfl rfl ?_
                subst hK19
                subst hK9
                obtain rfl := endS (show some _ = some r from hp)
                exact WJ.rt 217 rfl rfl rfl (fun ids H' fr => ⟨fr.ext0, rfl⟩)
              ·refine WJ.adv 12 rfl ?_
               obtain ⟨K23, hK23, hp⟩ : ∃ K, K = _ ∧ Option.bind _ K = some r := ⟨_, rfl, cutS hp⟩
               refine WJ.cut 2 (α := Hp) (fun y => []) (fun y => []) (fun y => [⟨some ⟨bv0, 0, none⟩, 6, 1, [.int .i64 zj, .slice zg zb.length zh, .slice ze za.length zf, .int .u64 zk, .int .u64 zl, .int .i64 zi]⟩, ⟨some ⟨bv1u2, 0, none⟩, 1, 1, [.func (.func 52) ⟨[]⟩ ⟨[]⟩]⟩, ⟨some ⟨bv2u5, 0, none⟩, 1, 1, [.func (.func 54) ⟨[]⟩ ⟨[]⟩]⟩]) (fun y => y) (fun y => K23 (Sum.inl ()) = some r ∧ SlF 0 y ViewTC a_x0 c_x0 x0 ∧ SlF 0 y ReplyC zg zh zb ∧ SlF 0 y SightC ze zf za ∧ SlF 0 y ReplyC a_t35u1_Replies c_t35u1_Replies t35u1_Replies ∧ SlF 0 y SightC a_t35u1_Sights c_t35u1_Sights t35u1_Sights ∧ SlF 0 y ReplyC a_t53u2_Replies c_t53u2_Replies t53u2_Replies ∧ SlF 0 y SightC a_t53u2_Sights c_t53u2_Sights t53u2_Sights) ?_ (fun j23 => ?_)
               ·rintro B31 ⟨hp, gbg_x0, zc, zd, g_t35u1_Replies, g_t35u1_Sights, g_t53u2_Replies, g_t53u2_Sights⟩
                subst hK23
                show WJ _ _ _ B31 [⟨some ⟨bv0, 0, none⟩, 6, 1, [.int .i64 zj, .slice zg zb.length zh, .slice ze za.length zf, .int .u64 zk, .int .u64 zl, .int .i64 zi]⟩, ⟨some ⟨bv1u2, 0, none⟩, 1, 1, [.func (.func 52) ⟨[]⟩ ⟨[]⟩]⟩, ⟨some ⟨bv2u5, 0, none⟩, 1, 1, [.func (.func 54) ⟨[]⟩ ⟨[]⟩]⟩] _ _ ⟨[], [], true, 0⟩
                refine WJ.inlR 204 rfl rfl rfl rfl ?_
                exact WJ.gotoO (j22 ((-1), B31) ⟨hp, gbg_x0, zc, zd, g_t35u1_Replies, g_t35u1_Sights, g_t53u2_Replies, g_t53u2_Sights⟩) (by exact ⟨rfl, trivial⟩) rfl rfl
               ·refine WJ.lp 200 (α := Nat × Int × Hp) (fun y => [(0, .v (.slice ze za.length zf)), (1, .v (.func (.func 96) ⟨[]⟩ ⟨[.pointer (some ⟨bv2u5, 0, none⟩)]⟩)), (7, .v (.int .i64 ((za.length : Nat) : Int))), (8, .v (.int .i64 y.2.1))]) (fun y => []) (fun y => [⟨some ⟨bv0, 0, none⟩, 6, 1, [.int .i64 zj, .slice zg zb.length zh, .slice ze za.length zf, .int .u64 zk, .int .u64 zl, .int .i64 zi]⟩, ⟨some ⟨bv1u2, 0, none⟩, 1, 1, [.func (.func 52) ⟨[]⟩ ⟨[]⟩]⟩, ⟨some ⟨bv2u5, 0, none⟩, 1, 1, [.func (.func 54) ⟨[]⟩ ⟨[]⟩]⟩]) (fun y => y.2.2) (fun y => y.1) (fun y => Option.bind (f19_l7 za y.1 y.2.1) K23 = some r ∧ SlF 0 y.2.2 ViewTC a_x0 c_x0 x0 ∧ SlF 0 y.2.2 ReplyC zg zh zb ∧ SlF 0 y.2.2 SightC ze zf za ∧ SlF 0 y.2.2 ReplyC a_t35u1_Replies c_t35u1_Replies t35u1_Replies ∧ SlF 0 y.2.2 SightC a_t35u1_Sights c_t35u1_Sights t35u1_Sights ∧ SlF 0 y.2.2 ReplyC a_t53u2_Replies c_t53u2_Replies t53u2_Replies ∧ SlF 0 y.2.2 SightC a_t53u2_Sights c_t53u2_Sights t53u2_Sights) (k, 0, B28) rfl ⟨hp, gbg_x0, zc, zd, g_t35u1_Replies, g_t35u1_Sights, g_t53u2_Replies, g_t53u2_Sights⟩ (by exact ⟨rfl, rfl, rfl, rfl, trivial⟩) rfl rfl rfl ?_
                rintro ⟨n23, za3, B29⟩ ⟨hp, gbg_x0, zc, zd, g_t35u1_Replies, g_t35u1_Sights, g_t53u2_Replies, g_t53u2_Sights⟩ ih23
                show WJ _ _ _ B29 [⟨some ⟨bv0, 0, none⟩, 6, 1, [.int .i64 zj, .slice zg zb.length zh, .slice ze za.length zf, .int .u64 zk, .int .u64 zl, .int .i64 zi]⟩, ⟨some ⟨bv1u2, 0, none⟩, 1, 1, [.func (.func 52) ⟨[]⟩ ⟨[]⟩]⟩, ⟨some ⟨bv2u5, 0, none⟩, 1, 1, [.func (.func 54) ⟨[]⟩ ⟨[]⟩]⟩] _ _ ⟨[(0, .v (.slice ze za.length zf)), (1, .v (.func (.func 96) ⟨[]⟩ ⟨[.pointer (some ⟨bv2u5, 0, none⟩)]⟩)), (7, .v (.int .i64 ((za.length : Nat) : Int))), (8, .v (.int .i64 za3))], [], true, 0⟩
                replace hp : Option.bind (f19_l7 za n23 za3) K23 = some r := hp
                cases n23 with
                | zero => rw [f19_l7] at hp; exact (noS hp).elim
                | succ n23 =>
                 rw [f19_l7] at hp
                 obtain ⟨t9u6, e9u6, hp⟩ := bindS hp
                 refine WJ.cv 202 (b := t9u6) (H0 := ⟨.nil, 0, 0⟩) rfl rfl rfl rfl rfl rfl (by rw [← endS e9u6]; exact rfl) rfl ?_
                 cases t9u6
                 ·replace hp := (itS hp).2 Bool.false_ne_true
                  exact WJ.goto 4 (j23 B29 ⟨hp, gbg_x0, zc, zd, g_t35u1_Replies, g_t35u1_Sights, g_t53u2_Replies, g_t53u2_Sights⟩) rfl rfl (by exact trivial) rfl rfl rfl
                 ·replace hp := (itS hp).1 rfl
                  obtain ⟨⟨t14u6_Floor, t14u6_Panel, t14u6_Out⟩, e14u6, hp⟩ := bindS hp
                  obtain ⟨b14u6, o14u6, cs14u6, i14u6, rfl, p14u6⟩ := zd.at e14u6 u45 sz84
                  refine WJ.hd (v := .pointer (some ⟨b14u6, o14u6, none⟩)) 216 rfl rfl rfl rfl (fun ids H' fr => opD_indexAddr rfl (evV_eq _ _ _ _ _ rfl) (evV_eq _ _ _ _ _ rfl) (i14u6 _)) rfl ?_
                  refine WJ.hd (v := .agg ⟨[.int .i64 t14u6_Floor, .int .i64 t14u6_Panel, .bool t14u6_Out]⟩) 200 rfl rfl rfl rfl (fun ids H' fr => opD_load rfl (evV_eq _ _ _ _ _ rfl) ((p14u6.mono (Nat.zero_le _) (fr.abv.le (Nat.zero_le _))).loadN (d := 0) ag84 sz84 rfl rfl)) rfl ?_
                  refine WJ.inl 200 rfl rfl Tryz.func96 rfl rfl rfl rfl rfl (lc := [(0, .v (.agg ⟨[.int .i64 t14u6_Floor, .int .i64 t14u6_Panel, .bool t14u6_Out]⟩)), (1, .v (.pointer (some ⟨bv2u5, 0, none⟩)))]) (fun _ => rfl) ?_
                  refine WJ.adv 3 rfl ?_
                  refine WJ.liftS (loc := []) rfl rfl (fun bv3u2 => ?_)
                  refine WJ.hd (v := .func (.func 54) ⟨[]⟩ ⟨[]⟩) 204 rfl rfl rfl rfl (fun ids H' fr => opD_load rfl (evV_eq _ _ _ _ _ rfl) (fr.ldOwn (j := 2) rfl rfl)) rfl ?_
                  refine WJ.hd (v := .agg ⟨[.int .i64 t14u6_Floor, .int .i64 t14u6_Panel, .bool t14u6_Out]⟩) 200 rfl rfl rfl rfl (fun ids H' fr => opD_load rfl (evV_eq _ _ _ _ _ rfl) (fr.ldOwn (j := 3) rfl rfl)) rfl ?_
                  obtain ⟨t6u24, e6u24, hp⟩ := bindS hp
                  refine WJ.cl 200 (R := R_4 t6u24) (fun hm h k => R_4.mono hm h k) rfl (fun ids H' fr => f54_ok (x0 := (Sight.mk t14u6_Floor t14u6_Panel t14u6_Out)) e6u24) ?_
                  rintro v B30 ⟨abB30, ivB30⟩ rfl
                  refine ⟨_, rfl, ?_⟩
                  replace gbg_x0 := gbg_x0.mono (Nat.le_refl _) (abB30.le (Nat.zero_le _))
                  replace zc := zc.mono (Nat.le_refl _) (abB30.le (Nat.zero_le _))
                  replace zd := zd.mono (Nat.le_refl _) (abB30.le (Nat.zero_le _))
                  replace g_t35u1_Replies := g_t35u1_Replies.mono (Nat.le_refl _) (abB30.le (Nat.zero_le _))
                  replace g_t35u1_Sights := g_t35u1_Sights.mono (Nat.le_refl _) (abB30.le (Nat.zero_le _))
                  replace g_t53u2_Replies := g_t53u2_Replies.mono (Nat.le_refl _) (abB30.le (Nat.zero_le _))
                  replace g_t53u2_Sights := g_t53u2_Sights.mono (Nat.le_refl _) (abB30.le (Nat.zero_le _))
                  replace p14u6 := p14u6.mono (Nat.le_refl _) (abB30.le (Nat.zero_le _))
                  cases t6u24
                  ·replace hp := (itS hp).2 Bool.false_ne_true
                   refine WJ.inlR 203 rfl rfl rfl rfl ?_
                   refine WJ.inlR 207 rfl rfl rfl rfl ?_
                   subst hK23
                   exact WJ.gotoO (j22 (za3, B30) ⟨hp, gbg_x0, zc, zd, g_t35u1_Replies, g_t35u1_Sights, g_t53u2_Replies, g_t53u2_Sights⟩) (by exact ⟨rfl, trivial⟩) rfl rfl
                  ·replace hp := (itS hp).1 rfl
                   refine WJ.inlR 203 rfl rfl rfl rfl ?_
                   exact WJ.ag 208 rfl (by exact ⟨rfl, rfl, rfl, rfl, trivial⟩) rfl rfl rfl (ih23 (n23, IntKind.i64.wrap (za3 + 1), B30) ⟨hp, gbg_x0, zc, zd, g_t35u1_Replies, g_t35u1_Sights, g_t53u2_Replies, g_t53u2_Sights⟩ (Nat.lt_succ_self _))
             ·replace hp := (itS hp).1 rfl
              refine WJ.inlR 203 rfl rfl rfl rfl ?_
              subst hK19
              subst hK9
              obtain rfl := endS (show some _ = some r from hp)
              exact WJ.rt 222 rfl rfl rfl (fun ids H' fr => ⟨fr.ext0, rfl⟩)
            ·refine WJ.adv 12 rfl ?_
             obtain ⟨K21, hK21, hp⟩ : ∃ K, K = _ ∧ Option.bind _ K = some r := ⟨_, rfl, cutS hp⟩
             refine WJ.cut 2 (α := Hp) (fun y => []) (fun y => []) (fun y => [⟨some ⟨bv0, 0, none⟩, 6, 1, [.int .i64 zj, .slice zg zb.length zh, .slice ze za.length zf, .int .u64 zk, .int .u64 zl, .int .i64 zi]⟩, ⟨some ⟨bv1u2, 0, none⟩, 1, 1, [.func (.func 52) ⟨[]⟩ ⟨[]⟩]⟩]) (fun y => y) (fun y => K21 (Sum.inl ()) = some r ∧ SlF 0 y ViewTC a_x0 c_x0 x0 ∧ SlF 0 y ReplyC zg zh zb ∧ SlF 0 y SightC ze zf za ∧ SlF 0 y ReplyC a_t35u1_Replies c_t35u1_Replies t35u1_Replies ∧ SlF 0 y SightC a_t35u1_Sights c_t35u1_Sights t35u1_Sights ∧ SlF 0 y ReplyC a_t53u2_Replies c_t53u2_Replies t53u2_Replies ∧ SlF 0 y SightC a_t53u2_Sights c_t53u2_Sights t53u2_Sights) ?_ (fun j21 => ?_)
             ·rintro B27 ⟨hp, gbg_x0, zc, zd, g_t35u1_Replies, g_t35u1_Sights, g_t53u2_Replies, g_t53u2_Sights⟩
              subst hK21
              show WJ _ _ _ B27 [⟨some ⟨bv0, 0, none⟩, 6, 1, [.int .i64 zj, .slice zg zb.length zh, .slice ze za.length zf, .int .u64 zk, .int .u64 zl, .int .i64 zi]⟩, ⟨some ⟨bv1u2, 0, none⟩, 1, 1, [.func (.func 52) ⟨[]⟩ ⟨[]⟩]⟩] _ _ ⟨[], [], true, 0⟩
              refine WJ.inlR 204 rfl rfl rfl rfl ?_
              exact WJ.gotoO (j20 ((-1), B27) ⟨hp, gbg_x0, zc, zd, g_t35u1_Replies, g_t35u1_Sights, g_t53u2_Replies, g_t53u2_Sights⟩) (by exact ⟨rfl, trivial⟩) rfl rfl
             ·refine WJ.lp 200 (α := Nat × Int × Hp) (fun y => [(0, .v (.slice zg zb.length zh)), (1, .v (.func (.func 94) ⟨[]⟩ ⟨[.pointer (some ⟨bv1u2, 0, none⟩)]⟩)), (7, .v (.int .i64 ((zb.length : Nat) : Int))), (8, .v (.int .i64 y.2.1))]) (fun y => []) (fun y => [⟨some ⟨bv0, 0, none⟩, 6, 1, [.int .i64 zj, .slice zg zb.length zh, .slice ze za.length zf, .int .u64 zk, .int .u64 zl, .int .i64 zi]⟩, ⟨some ⟨bv1u2, 0, none⟩, 1, 1, [.func (.func 52) ⟨[]⟩ ⟨[]⟩]⟩]) (fun y => y.2.2) (fun y => y.1) (fun y => Option.bind (f19_l6 zb y.1 y.2.1) K21 = some r ∧ SlF 0 y.2.2 ViewTC a_x0 c_x0 x0 ∧ SlF 0 y.2.2 ReplyC zg zh zb ∧ SlF 0 y.2.2 SightC ze zf za ∧ SlF 0 y.2.2 ReplyC a_t35u1_Replies c_t35u1_Replies t35u1_Replies ∧ SlF 0 y.2.2 SightC a_t35u1_Sights c_t35u1_Sights t35u1_Sights ∧ SlF 0 y.2.2 ReplyC a_t53u2_Replies c_t53u2_Replies t53u2_Replies ∧ SlF 0 y.2.2 SightC a_t53u2_Sights c_t53u2_Sights t53u2_Sights) (k, 0, B24) rfl ⟨hp, gbg_x0, zc, zd, g_t35u1_Replies, g_t35u1_Sights, g_t53u2_Replies, g_t53u2_Sights⟩ (by exact ⟨rfl, rfl, rfl, rfl, trivial⟩) rfl rfl rfl ?_
              rintro ⟨n21, za2, B25⟩ ⟨hp, gbg_x0, zc, zd, g_t35u1_Replies, g_t35u1_Sights, g_t53u2_Replies, g_t53u2_Sights⟩ ih21
              show WJ _ _ _ B25 [⟨some ⟨bv0, 0, none⟩, 6, 1, [.int .i64 zj, .slice zg zb.length zh, .slice ze za.length zf, .int .u64 zk, .int .u64 zl, .int .i64 zi]⟩, ⟨some ⟨bv1u2, 0, none⟩, 1, 1, [.func (.func 52) ⟨[]⟩ ⟨[]⟩]⟩] _ _ ⟨[(0, .v (.slice zg zb.length zh)), (1, .v (.func (.func 94) ⟨[]⟩ ⟨[.pointer (some ⟨bv1u2, 0, none⟩)]⟩)), (7, .v (.int .i64 ((zb.length : Nat) : Int))), (8, .v (.int .i64 za2))], [], true, 0⟩
              replace hp : Option.bind (f19_l6 zb n21 za2) K21 = some r := hp
              cases n21 with
              | zero => rw [f19_l6] at hp; exact (noS hp).elim
              | succ n21 =>
               rw [f19_l6] at hp
               obtain ⟨t9u5, e9u5, hp⟩ := bindS hp
               refine WJ.cv 202 (b := t9u5) (H0 := ⟨.nil, 0, 0⟩) rfl rfl rfl rfl rfl rfl (by rw [← endS e9u5]; exact rfl) rfl ?_
               cases t9u5
               ·replace hp := (itS hp).2 Bool.false_ne_true
                exact WJ.goto 4 (j21 B25 ⟨hp, gbg_x0, zc, zd, g_t35u1_Replies, g_t35u1_Sights, g_t53u2_Replies, g_t53u2_Sights⟩) rfl rfl (by exact trivial) rfl rfl rfl
               ·replace hp := (itS hp).1 rfl
                obtain ⟨⟨t14u5_Port, t14u5_Code⟩, e14u5, hp⟩ := bindS hp
                obtain ⟨b14u5, o14u5, cs14u5, i14u5, rfl, p14u5⟩ := zc.at e14u5 u44 sz87
                refine WJ.hd (v := .pointer (some ⟨b14u5, o14u5, none⟩)) 216 rfl rfl rfl rfl (fun ids H' fr => opD_indexAddr rfl (evV_eq _ _ _ _ _ rfl) (evV_eq _ _ _ _ _ rfl) (i14u5 _)) rfl ?_
                refine WJ.hd (v := .agg ⟨[.int .i64 t14u5_Port, .int .i64 t14u5_Code]⟩) 200 rfl rfl rfl rfl (fun ids H' fr => opD_load rfl (evV_eq _ _ _ _ _ rfl) ((p14u5.mono (Nat.zero_le _) (fr.abv.le (Nat.zero_le _))).loadN (d := 0) ag87 sz87 rfl rfl)) rfl ?_
                refine WJ.inl 200 rfl rfl Tryz.func94 rfl rfl rfl rfl rfl (lc := [(0, .v (.agg ⟨[.int .i64 t14u5_Port, .int .i64 t14u5_Code]⟩)), (1, .v (.pointer (some ⟨bv1u2, 0, none⟩)))]) (fun _ => rfl) ?_
                refine WJ.adv 3 rfl ?_
                refine WJ.liftS (loc := []) rfl rfl (fun bv2u4 => ?_)
                refine WJ.hd (v := .func (.func 52) ⟨[]⟩ ⟨[]⟩) 204 rfl rfl rfl rfl (fun ids H' fr => opD_load rfl (evV_eq _ _ _ _ _ rfl) (fr.ldOwn (j := 1) rfl rfl)) rfl ?_
                refine WJ.hd (v := .agg ⟨[.int .i64 t14u5_Port, .int .i64 t14u5_Code]⟩) 200 rfl rfl rfl rfl (fun ids H' fr => opD_load rfl (evV_eq _ _ _ _ _ rfl) (fr.ldOwn (j := 2) rfl rfl)) rfl ?_
                obtain ⟨t6u20, e6u20, hp⟩ := bindS hp
                refine WJ.cl 200 (R := R_4 t6u20) (fun hm h k => R_4.mono hm h k) rfl (fun ids H' fr => f52_ok (x0 := (Reply.mk t14u5_Port t14u5_Code)) e6u20) ?_
                rintro v B26 ⟨abB26, ivB26⟩ rfl
                refine ⟨_, rfl, ?_⟩
                replace gbg_x0 := gbg_x0.mono (Nat.le_refl _) (abB26.le (Nat.zero_le _))
                replace zc := zc.mono (Nat.le_refl _) (abB26.le (Nat.zero_le _))
                replace zd := zd.mono (Nat.le_refl _) (abB26.le (Nat.zero_le _))
                replace g_t35u1_Replies := g_t35u1_Replies.mono (Nat.le_refl _) (abB26.le (Nat.zero_le _))
                replace g_t35u1_Sights := g_t35u1_Sights.mono (Nat.le_refl _) (abB26.le (Nat.zero_le _))
                replace g_t53u2_Replies := g_t53u2_Replies.mono (Nat.le_refl _) (abB26.le (Nat.zero_le _))
                replace g_t53u2_Sights := g_t53u2_Sights.mono (Nat.le_refl _) (abB26.le (Nat.zero_le _))
                replace p14u5 := p14u5.mono (Nat.le_refl _) (abB26.le (Nat.zero_le _))
                cases t6u20
                ·replace hp := (itS hp).2 Bool.false_ne_true
                 refine WJ.inlR 203 rfl rfl rfl rfl ?_
                 refine WJ.inlR 207 rfl rfl rfl rfl ?_
                 subst hK21
                 exact WJ.gotoO (j20 (za2, B26) ⟨hp, gbg_x0, zc, zd, g_t35u1_Replies, g_t35u1_Sights, g_t53u2_Replies, g_t53u2_Sights⟩) (by exact ⟨rfl, trivial⟩) rfl rfl
                ·replace hp := (itS hp).1 rfl
                 refine WJ.inlR 203 rfl rfl rfl rfl ?_
                 exact WJ.ag 208 rfl (by exact ⟨rfl, rfl, rfl, rfl, trivial⟩) rfl rfl rfl (ih21 (n21, IntKind.i64.wrap (za2 + 1), B26) ⟨hp, gbg_x0, zc, zd, g_t35u1_Replies, g_t35u1_Sights, g_t53u2_Replies, g_t53u2_Sights⟩ (Nat.lt_succ_self _))
       ·refine WD.done rfl ?_
        refine WJ.dr 202 rfl gmix (by kernel_rfl) (by kernel_rfl) rfl ?_
        refine WD.hd (v := .slice ze za.length zf) rfl rfl rfl rfl (fun _ _ _ _ _ => side_no) (fun ids H' fr => opD_load rfl (evV_eq _ _ _ _ _ rfl) (fr.ldOwn (j := 0) rfl rfl)) rfl ?_
        obtain ⟨t46u3, e46u3, hp⟩ := bindS hp
        refine WD.cl (R := R_4 t46u3) (fun hm h k => R_4.mono hm h k) rfl (fun ids H' fr => f50_ok e46u3) ?_
        rintro v B34 ⟨abB34, ivB34⟩ rfl
        refine ⟨_, rfl, ?_⟩
        replace gbg_x0 := gbg_x0.mono (Nat.le_refl _) (abB34.le (Nat.zero_le _))
        replace zc := zc.mono (Nat.le_refl _) (abB34.le (Nat.zero_le _))
        replace zd := zd.mono (Nat.le_refl _) (abB34.le (Nat.zero_le _))
        replace p14 := p14.mono (Nat.le_refl _) (abB34.le (Nat.zero_le _))
        cases t46u3
        ·replace hp := (itS hp).2 Bool.false_ne_true
         refine WD.done rfl ?_
         subst hK19
         subst hK9
         obtain rfl := endS (show some _ = some r from hp)
         exact WJ.rt 207 rfl rfl rfl (fun ids H' fr => ⟨fr.ext0, rfl⟩)
        ·replace hp := (itS hp).1 rfl
         refine WD.hd (v := .slice ze za.length zf) rfl rfl rfl rfl (fun _ _ _ _ _ => side_no) (fun ids H' fr => opD_load rfl (evV_eq _ _ _ _ _ rfl) (fr.ldOwn (j := 0) rfl rfl)) rfl ?_
         obtain ⟨⟨t53u3_Tick, t53u3_Replies, t53u3_Sights, t53u3_Up, t53u3_Down, t53u3_Word⟩, e53u3, hp⟩ := bindS hp
         obtain ⟨b53u3, o53u3, cs53u3, i53u3, ⟨a_t53u3_Replies, c_t53u3_Replies, a_t53u3_Sights, c_t53u3_Sights, rfl, g_t53u3_Replies, g_t53u3_Sights⟩, p53u3⟩ := gbg_x0.at e53u3 u23 sz48
         refine WD.hd (v := .pointer (some ⟨b53u3, o53u3, none⟩)) rfl rfl rfl rfl (fun _ _ _ _ _ => side_no) (fun ids H' fr => opD_indexAddr rfl (evV_eq _ _ _ _ _ rfl) (evV_eq _ _ _ _ _ rfl) (i53u3 _)) rfl ?_
         refine WD.hd (v := .slice a_t53u3_Sights t53u3_Sights.length c_t53u3_Sights) rfl rfl rfl rfl (fun _ _ _ _ _ => side_no) (fun ids H' fr => opD_load rfl (evV_eq _ _ _ _ _ rfl) ((p53u3.mono (Nat.zero_le _) (fr.abv.le (Nat.zero_le _))).load (d := 2) ag45 rfl)) rfl ?_
         refine WD.cn hp rfl rfl rfl rfl rfl rfl rfl rfl rfl (fun hc57u3 hp => ?_) (fun hc57u3 hp => ?_)
         ·refine WD.done rfl ?_
          subst hK19
          subst hK9
          obtain rfl := endS (show some _ = some r from hp)
          exact WJ.rt 207 rfl rfl rfl (fun ids H' fr => ⟨fr.ext0, rfl⟩)
         ·refine WD.done rfl ?_
          refine WJ.hd (v := .slice zg zb.length zh) 204 rfl rfl rfl rfl (fun ids H' fr => opD_load rfl (evV_eq _ _ _ _ _ rfl) (fr.ldOwn (j := 0) rfl rfl)) rfl ?_
          refine WJ.ci 201 hp rfl rfl rfl rfl rfl rfl rfl rfl rfl (fun hc64u3 hp => ?_) (fun hc64u3 hp => ?_)
          ·subst hK19
           subst hK9
           obtain rfl := endS (show some _ = some r from hp)
           exact WJ.rt 209 rfl rfl rfl (fun ids H' fr => ⟨fr.ext0, rfl⟩)
          ·refine WJ.hd (v := .slice zg zb.length zh) 206 rfl rfl rfl rfl (fun ids H' fr => opD_load rfl (evV_eq _ _ _ _ _ rfl) (fr.ldOwn (j := 0) rfl rfl)) rfl ?_
           refine WJ.inl 200 rfl rfl Tryz.func51 rfl rfl rfl rfl rfl (lc := [(0, .v (.slice zg zb.length zh)), (1, .v (.func (.func 52) ⟨[]⟩ ⟨[]⟩))]) (fun _ => rfl) ?_
           refine WJ.adv 3 rfl ?_
           refine WJ.liftS (loc := []) rfl rfl (fun bv1u3 => ?_)
           refine WJ.adv 6 rfl ?_
           refine WJ.nf ?_
           refine WJ.inl 200 rfl rfl Tryz.func93 rfl rfl rfl rfl rfl (lc := [(0, .v (.slice zg zb.length zh)), (1, .v (.func (.func 94) ⟨[]⟩ ⟨[.pointer (some ⟨bv1u3, 0, none⟩)]⟩))]) (fun _ => rfl) ?_
           obtain ⟨K24, hK24, hp⟩ : ∃ K, K = _ ∧ Option.bind _ K = some r := ⟨_, rfl, cutS hp⟩
           refine WJ.inlC 208 (α := Int × Hp) (fun y => [(7, .v (.int .i64 y.1))]) (fun y => [⟨some ⟨bv0, 0, none⟩, 6, 1, [.int .i64 zj, .slice zg zb.length zh, .slice ze za.length zf, .int .u64 zk, .int .u64 zl, .int .i64 zi]⟩, ⟨some ⟨bv1u3, 0, none⟩, 1, 1, [.func (.func 52) ⟨[]⟩ ⟨[]⟩]⟩]) (fun y => y.2) (fun y => K24 ((y.1)) = some r ∧ SlF 0 y.2 ViewTC a_x0 c_x0 x0 ∧ SlF 0 y.2 ReplyC zg zh zb ∧ SlF 0 y.2 SightC ze zf za ∧ SlF 0 y.2 ReplyC a_t53u3_Replies c_t53u3_Replies t53u3_Replies ∧ SlF 0 y.2 SightC a_t53u3_Sights c_t53u3_Sights t53u3_Sights) rfl rfl Tryz.func125 rfl rfl rfl rfl rfl (lc := [(0, .v (.slice zg zb.length zh)), (1, .v (.func (.func 94) ⟨[]⟩ ⟨[.pointer (some ⟨bv1u3, 0, none⟩)]⟩))]) (fun _ => rfl) ?_ (fun j24 => ?_)
           ·rintro ⟨x7_24, B38⟩ ⟨hp, gbg_x0, zc, zd, g_t53u3_Replies, g_t53u3_Sights⟩
            subst hK24
            show WJ _ _ _ B38 [⟨some ⟨bv0, 0, none⟩, 6, 1, [.int .i64 zj, .slice zg zb.length zh, .slice ze za.length zf, .int .u64 zk, .int .u64 zl, .int .i64 zi]⟩, ⟨some ⟨bv1u3, 0, none⟩, 1, 1, [.func (.func 52) ⟨[]⟩ ⟨[]⟩]⟩] _ _ ⟨[(7, .v (.int .i64 x7_24))], [], true, 0⟩
            obtain ⟨t8u39, e8u39, hp⟩ := bindS hp
            refine WJ.cv 200 (b := t8u39) (H0 := ⟨.nil, 0, 0⟩) rfl rfl rfl rfl rfl rfl (by rw [← endS e8u39]; exact rfl) rfl ?_
            refine WJ.inlR 202 rfl rfl rfl rfl ?_
            cases t8u39
            ·replace hp := (itS hp).2 Bool.false_ne_true
             refine WJ.inlR 203 rfl rfl rfl rfl ?_
             refine WJ.hd (v := .slice ze za.length zf) 203 rfl rfl rfl rfl (fun ids H' fr => opD_load rfl (evV_eq _ _ _ _ _ rfl) (fr.ldOwn (j := 0) rfl rfl)) rfl ?_
             refine WJ.inl 200 rfl rfl Tryz.func53 rfl rfl rfl rfl rfl (lc := [(0, .v (.slice ze za.length zf)), (1, .v (.func (.func 54) ⟨[]⟩ ⟨[]⟩))]) (fun _ => rfl) ?_
             refine WJ.adv 3 rfl ?_
             refine WJ.liftS (loc := []) rfl rfl (fun bv2u7 => ?_)
             refine WJ.adv 6 rfl ?_
             refine WJ.nf ?_
             refine WJ.inl 200 rfl rfl Tryz.func95 rfl rfl rfl rfl rfl (lc := [(0, .v (.slice ze za.length zf)), (1, .v (.func (.func 96) ⟨[]⟩ ⟨[.pointer (some ⟨bv2u7, 0, none⟩)]⟩))]) (fun _ => rfl) ?_
             obtain ⟨K26, hK26, hp⟩ : ∃ K, K = _ ∧ Option.bind _ K = some r := ⟨_, rfl, cutS hp⟩
             refine WJ.inlC 208 (α := Int × Hp) (fun y => [(7, .v (.int .i64 y.1))]) (fun y => [⟨some ⟨bv0, 0, none⟩, 6, 1, [.int .i64 zj, .slice zg zb.length zh, .slice ze za.length zf, .int .u64 zk, .int .u64 zl, .int .i64 zi]⟩, ⟨some ⟨bv1u3, 0, none⟩, 1, 1, [.func (.func 52) ⟨[]⟩ ⟨[]⟩]⟩, ⟨some ⟨bv2u7, 0, none⟩, 1, 1, [.func (.func 54) ⟨[]⟩ ⟨[]⟩]⟩]) (fun y => y.2) (fun y => K26 ((y.1)) = some r ∧ SlF 0 y.2 ViewTC a_x0 c_x0 x0 ∧ SlF 0 y.2 ReplyC zg zh zb ∧ SlF 0 y.2 SightC ze zf za ∧ SlF 0 y.2 ReplyC a_t53u3_Replies c_t53u3_Replies t53u3_Replies ∧ SlF 0 y.2 SightC a_t53u3_Sights c_t53u3_Sights t53u3_Sights) rfl rfl Tryz.func126 rfl rfl rfl rfl rfl (lc := [(0, .v (.slice ze za.length zf)), (1, .v (.func (.func 96) ⟨[]⟩ ⟨[.pointer (some ⟨bv2u7, 0, none⟩)]⟩))]) (fun _ => rfl) ?_ (fun j26 => ?_)
             ·rintro ⟨x7_26, B42⟩ ⟨hp, gbg_x0, zc, zd, g_t53u3_Replies, g_t53u3_Sights⟩
              subst hK26
              show WJ _ _ _ B42 [⟨some ⟨bv0, 0, none⟩, 6, 1, [.int .i64 zj, .slice zg zb.length zh, .slice ze za.length zf, .int .u64 zk, .int .u64 zl, .int .i64 zi]⟩, ⟨some ⟨bv1u3, 0, none⟩, 1, 1, [.func (.func 52) ⟨[]⟩ ⟨[]⟩]⟩, ⟨some ⟨bv2u7, 0, none⟩, 1, 1, [.func (.func 54) ⟨[]⟩ ⟨[]⟩]⟩] _ _ ⟨[(7, .v (.int .i64 x7_26))], [], true, 0⟩
              obtain ⟨t8u44, e8u44, hp⟩ := bindS hp
              refine WJ.cv 200 (b := t8u44) (H0 := ⟨.nil, 0, 0⟩) rfl rfl rfl rfl rfl rfl (by rw [← endS e8u44]; exact rfl) rfl ?_
              refine WJ.inlR 202 rfl rfl rfl rfl ?_
              cases t8u44
              ·replace hp := (itS hp).2 Bool.false_ne_true
               refine WJ.inlR 203 rfl rfl rfl rfl ?_
               refine WJ.hd (v := .int .i64 zi) 204 rfl rfl rfl rfl (fun ids H' fr => opD_load rfl (evV_eq _ _ _ _ _ rfl) (fr.ldOwn (j := 0) rfl rfl)) rfl ?_
               obtain ⟨t80u3, e80u3, hp⟩ := bindS hp
               refine WJ.cl 200 (R := R_4 t80u3) (fun hm h k => R_4.mono hm h k) rfl (fun ids H' fr => f50_ok e80u3) ?_
               rintro v B43 ⟨abB43, ivB43⟩ rfl
               refine ⟨_, rfl, ?_⟩
               replace gbg_x0 := gbg_x0.mono (Nat.le_refl _) (abB43.le (Nat.zero_le _))
               replace zc := zc.mono (Nat.le_refl _) (abB43.le (Nat.zero_le _))
               replace zd := zd.mono (Nat.le_refl _) (abB43.le (Nat.zero_le _))
               replace g_t53u3_Replies := g_t53u3_Replies.mono (Nat.le_refl _) (abB43.le (Nat.zero_le _))
               replace g_t53u3_Sights := g_t53u3_Sights.mono (Nat.le_refl _) (abB43.le (Nat.zero_le _))
               cases t80u3
               ·replace hp := (itS hp).2 Bool.false_ne_true
                subst hK19
                subst hK9
                obtain rfl := endS (show some _ = some r from hp)
                exact WJ.rt 211 rfl rfl rfl (fun ids H' fr => ⟨fr.ext0, rfl⟩)
               ·replace hp := (itS hp).1 rfl
                exact WJ.goto 8 (j19 B43 ⟨hp, gbg_x0, zc, zd⟩) rfl rfl (by exact ⟨rfl, rfl, rfl, rfl, trivial⟩) rfl rfl rfl
              ·replace hp := (itS hp).1 rfl
               refine WJ.inlR 203 rfl rfl rfl rfl ?_
               subst hK19
               subst hK9
               obtain rfl := endS (show some _ = some r from hp)
               exact WJ.rt 217 rfl rfl rfl (fun ids H' fr => ⟨fr.ext0, rfl⟩)
             ·refine WJ.adv 12 rfl ?_
              obtain ⟨K27, hK27, hp⟩ : ∃ K, K = _ ∧ Option.bind _ K = some r := ⟨_, rfl, cutS hp⟩
              refine WJ.cut 2 (α := Hp) (fun y => []) (fun y => []) (fun y => [⟨some ⟨bv0, 0, none⟩, 6, 1, [.int .i64 zj, .slice zg zb.length zh, .slice ze za.length zf, .int .u64 zk, .int .u64 zl, .int .i64 zi]⟩, ⟨some ⟨bv1u3, 0, none⟩, 1, 1, [.func (.func 52) ⟨[]⟩ ⟨[]⟩]⟩, ⟨some ⟨bv2u7, 0, none⟩, 1, 1, [.func (.func 54) ⟨[]⟩ ⟨[]⟩]⟩]) (fun y => y) (fun y => K27 (Sum.inl ()) = some r ∧ SlF 0 y ViewTC a_x0 c_x0 x0 ∧ SlF 0 y ReplyC zg zh zb ∧ SlF 0 y SightC ze zf za ∧ SlF 0 y ReplyC a_t53u3_Replies c_t53u3_Replies t53u3_Replies ∧ SlF 0 y SightC a_t53u3_Sights c_t53u3_Sights t53u3_Sights) ?_ (fun j27 => ?_)
              ·rintro B41 ⟨hp, gbg_x0, zc, zd, g_t53u3_Replies, g_t53u3_Sights⟩
               subst hK27
               show WJ _ _ _ B41 [⟨some ⟨bv0, 0, none⟩, 6, 1, [.int .i64 zj, .slice zg zb.length zh, .slice ze za.length zf, .int .u64 zk, .int .u64 zl, .int .i64 zi]⟩, ⟨some ⟨bv1u3, 0, none⟩, 1, 1, [.func (.func 52) ⟨[]⟩ ⟨[]⟩]⟩, ⟨some ⟨bv2u7, 0, none⟩, 1, 1, [.func (.func 54) ⟨[]⟩ ⟨[]⟩]⟩] _ _ ⟨[], [], true, 0⟩
               refine WJ.inlR 204 rfl rfl rfl rfl ?_
               exact WJ.gotoO (j26 ((-1), B41) ⟨hp, gbg_x0, zc, zd, g_t53u3_Replies, g_t53u3_Sights⟩) (by exact ⟨rfl, trivial⟩) rfl rfl
              ·refine WJ.lp 200 (α := Nat × Int × Hp) (fun y => [(0, .v (.slice ze za.length zf)), (1, .v (.func (.func 96) ⟨[]⟩ ⟨[.pointer (some ⟨bv2u7, 0, none⟩)]⟩)), (7, .v (.int .i64 ((za.length : Nat) : Int))), (8, .v (.int .i64 y.2.1))]) (fun y => []) (fun y => [⟨some ⟨bv0, 0, none⟩, 6, 1, [.int .i64 zj, .slice zg zb.length zh, .slice ze za.length zf, .int .u64 zk, .int .u64 zl, .int .i64 zi]⟩, ⟨some ⟨bv1u3, 0, none⟩, 1, 1, [.func (.func 52) ⟨[]⟩ ⟨[]⟩]⟩, ⟨some ⟨bv2u7, 0, none⟩, 1, 1, [.func (.func 54) ⟨[]⟩ ⟨[]⟩]⟩]) (fun y => y.2.2) (fun y => y.1) (fun y => Option.bind (f19_l9 za y.1 y.2.1) K27 = some r ∧ SlF 0 y.2.2 ViewTC a_x0 c_x0 x0 ∧ SlF 0 y.2.2 ReplyC zg zh zb ∧ SlF 0 y.2.2 SightC ze zf za ∧ SlF 0 y.2.2 ReplyC a_t53u3_Replies c_t53u3_Replies t53u3_Replies ∧ SlF 0 y.2.2 SightC a_t53u3_Sights c_t53u3_Sights t53u3_Sights) (k, 0, B38) rfl ⟨hp, gbg_x0, zc, zd, g_t53u3_Replies, g_t53u3_Sights⟩ (by exact ⟨rfl, rfl, rfl, rfl, trivial⟩) rfl rfl rfl ?_
               rintro ⟨n27, za5, B39⟩ ⟨hp, gbg_x0, zc, zd, g_t53u3_Replies, g_t53u3_Sights⟩ ih27
               show WJ _ _ _ B39 [⟨some ⟨bv0, 0, none⟩, 6, 1, [.int .i64 zj, .slice zg zb.length zh, .slice ze za.length zf, .int .u64 zk, .int .u64 zl, .int .i64 zi]⟩, ⟨some ⟨bv1u3, 0, none⟩, 1, 1, [.func (.func 52) ⟨[]⟩ ⟨[]⟩]⟩, ⟨some ⟨bv2u7, 0, none⟩, 1, 1, [.func (.func 54) ⟨[]⟩ ⟨[]⟩]⟩] _ _ ⟨[(0, .v (.slice ze za.length zf)), (1, .v (.func (.func 96) ⟨[]⟩ ⟨[.pointer (some ⟨bv2u7, 0, none⟩)]⟩)), (7, .v (.int .i64 ((za.length : Nat) : Int))), (8, .v (.int .i64 za5))], [], true, 0⟩
               replace hp : Option.bind (f19_l9 za n27 za5) K27 = some r := hp
               cases n27 with
               | zero => rw [f19_l9] at hp; exact (noS hp).elim
               | succ n27 =>
                rw [f19_l9] at hp
                obtain ⟨t9u8, e9u8, hp⟩ := bindS hp
                refine WJ.cv 202 (b := t9u8) (H0 := ⟨.nil, 0, 0⟩) rfl rfl rfl rfl rfl rfl (by rw [← endS e9u8]; exact rfl) rfl ?_
                cases t9u8
                ·replace hp := (itS hp).2 Bool.false_ne_true
                 exact WJ.goto 4 (j27 B39 ⟨hp, gbg_x0, zc, zd, g_t53u3_Replies, g_t53u3_Sights⟩) rfl rfl (by exact trivial) rfl rfl rfl
                ·replace hp := (itS hp).1 rfl
                 obtain ⟨⟨t14u8_Floor, t14u8_Panel, t14u8_Out⟩, e14u8, hp⟩ := bindS hp
                 obtain ⟨b14u8, o14u8, cs14u8, i14u8, rfl, p14u8⟩ := zd.at e14u8 u45 sz84
                 refine WJ.hd (v := .pointer (some ⟨b14u8, o14u8, none⟩)) 216 rfl rfl rfl rfl (fun ids H' fr => opD_indexAddr rfl (evV_eq _ _ _ _ _ rfl) (evV_eq _ _ _ _ _ rfl) (i14u8 _)) rfl ?_
                 refine WJ.hd (v := .agg ⟨[.int .i64 t14u8_Floor, .int .i64 t14u8_Panel, .bool t14u8_Out]⟩) 200 rfl rfl rfl rfl (fun ids H' fr => opD_load rfl (evV_eq _ _ _ _ _ rfl) ((p14u8.mono (Nat.zero_le _) (fr.abv.le (Nat.zero_le _))).loadN (d := 0) ag84 sz84 rfl rfl)) rfl ?_
                 refine WJ.inl 200 rfl rfl Tryz.func96 rfl rfl rfl rfl rfl (lc := [(0, .v (.agg ⟨[.int .i64 t14u8_Floor, .int .i64 t14u8_Panel, .bool t14u8_Out]⟩)), (1, .v (.pointer (some ⟨bv2u7, 0, none⟩)))]) (fun _ => rfl) ?_
                 refine WJ.adv 3 rfl ?_
                 refine WJ.liftS (loc := []) rfl rfl (fun bv3u3 => ?_)
                 refine WJ.hd (v := .func (.func 54) ⟨[]⟩ ⟨[]⟩) 204 rfl rfl rfl rfl (fun ids H' fr => opD_load rfl (evV_eq _ _ _ _ _ rfl) (fr.ldOwn (j := 2) rfl rfl)) rfl ?_
                 refine WJ.hd (v := .agg ⟨[.int .i64 t14u8_Floor, .int .i64 t14u8_Panel, .bool t14u8_Out]⟩) 200 rfl rfl rfl rfl (fun ids H' fr => opD_load rfl (evV_eq _ _ _ _ _ rfl) (fr.ldOwn (j := 3) rfl rfl)) rfl ?_
                 obtain ⟨t6u32, e6u32, hp⟩ := bindS hp
                 refine WJ.cl 200 (R := R_4 t6u32) (fun hm h k => R_4.mono hm h k) rfl (fun ids H' fr => f54_ok (x0 := (Sight.mk t14u8_Floor t14u8_Panel t14u8_Out)) e6u32) ?_
                 rintro v B40 ⟨abB40, ivB40⟩ rfl
                 refine ⟨_, rfl, ?_⟩
                 replace gbg_x0 := gbg_x0.mono (Nat.le_refl _) (abB40.le (Nat.zero_le _))
                 replace zc := zc.mono (Nat.le_refl _) (abB40.le (Nat.zero_le _))
                 replace zd := zd.mono (Nat.le_refl _) (abB40.le (Nat.zero_le _))
                 replace g_t53u3_Replies := g_t53u3_Replies.mono (Nat.le_refl _) (abB40.le (Nat.zero_le _))
                 replace g_t53u3_Sights := g_t53u3_Sights.mono (Nat.le_refl _) (abB40.le (Nat.zero_le _))
                 replace p14u8 := p14u8.mono (Nat.le_refl _) (abB40.le (Nat.zero_le _))
                 cases t6u32
                 ·replace hp := (itS hp).2 Bool.false_ne_true
                  refine WJ.inlR 203 rfl rfl rfl rfl ?_
                  refine WJ.inlR 207 rfl rfl rfl rfl ?_
                  subst hK27
                  exact WJ.gotoO (j26 (za5, B40) ⟨hp, gbg_x0, zc, zd, g_t53u3_Replies, g_t53u3_Sights⟩) (by exact ⟨rfl, trivial⟩) rfl rfl
                 ·replace hp := (itS hp).1 rfl
                  refine WJ.inlR 203 rfl rfl rfl rfl ?_
                  exact WJ.ag 208 rfl (by exact ⟨rfl, rfl, rfl, rfl, trivial⟩) rfl rfl rfl (ih27 (n27, IntKind.i64.wrap (za5 + 1), B40) ⟨hp, gbg_x0, zc, zd, g_t53u3_Replies, g_t53u3_Sights⟩ (Nat.lt_succ_self _))
            ·replace hp := (itS hp).1 rfl
             refine WJ.inlR 203 rfl rfl rfl rfl ?_
             subst hK19
             subst hK9
             obtain rfl := endS (show some _ = some r from hp)
             exact WJ.rt 222 rfl rfl rfl (fun ids H' fr => ⟨fr.ext0, rfl⟩)
           ·refine WJ.adv 12 rfl ?_
            obtain ⟨K25, hK25, hp⟩ : ∃ K, K = _ ∧ Option.bind _ K = some r := ⟨_, rfl, cutS hp⟩
            refine WJ.cut 2 (α := Hp) (fun y => []) (fun y => []) (fun y => [⟨some ⟨bv0, 0, none⟩, 6, 1, [.int .i64 zj, .slice zg zb.length zh, .slice ze za.length zf, .int .u64 zk, .int .u64 zl, .int .i64 zi]⟩, ⟨some ⟨bv1u3, 0, none⟩, 1, 1, [.func (.func 52) ⟨[]⟩ ⟨[]⟩]⟩]) (fun y => y) (fun y => K25 (Sum.inl ()) = some r ∧ SlF 0 y ViewTC a_x0 c_x0 x0 ∧ SlF 0 y ReplyC zg zh zb ∧ SlF 0 y SightC ze zf za ∧ SlF 0 y ReplyC a_t53u3_Replies c_t53u3_Replies t53u3_Replies ∧ SlF 0 y SightC a_t53u3_Sights c_t53u3_Sights t53u3_Sights) ?_ (fun j25 => ?_)
            ·rintro B37 ⟨hp, gbg_x0, zc, zd, g_t53u3_Replies, g_t53u3_Sights⟩
             subst hK25
             show WJ _ _ _ B37 [⟨some ⟨bv0, 0, none⟩, 6, 1, [.int .i64 zj, .slice zg zb.length zh, .slice ze za.length zf, .int .u64 zk, .int .u64 zl, .int .i64 zi]⟩, ⟨some ⟨bv1u3, 0, none⟩, 1, 1, [.func (.func 52) ⟨[]⟩ ⟨[]⟩]⟩] _ _ ⟨[], [], true, 0⟩
             refine WJ.inlR 204 rfl rfl rfl rfl ?_
             exact WJ.gotoO (j24 ((-1), B37) ⟨hp, gbg_x0, zc, zd, g_t53u3_Replies, g_t53u3_Sights⟩) (by exact ⟨rfl, trivial⟩) rfl rfl
            ·refine WJ.lp 200 (α := Nat × Int × Hp) (fun y => [(0, .v (.slice zg zb.length zh)), (1, .v (.func (.func 94) ⟨[]⟩ ⟨[.pointer (some ⟨bv1u3, 0, none⟩)]⟩)), (7, .v (.int .i64 ((zb.length : Nat) : Int))), (8, .v (.int .i64 y.2.1))]) (fun y => []) (fun y => [⟨some ⟨bv0, 0, none⟩, 6, 1, [.int .i64 zj, .slice zg zb.length zh, .slice ze za.length zf, .int .u64 zk, .int .u64 zl, .int .i64 zi]⟩, ⟨some ⟨bv1u3, 0, none⟩, 1, 1, [.func (.func 52) ⟨[]⟩ ⟨[]⟩]⟩]) (fun y => y.2.2) (fun y => y.1) (fun y => Option.bind (f19_l8 zb y.1 y.2.1) K25 = some r ∧ SlF 0 y.2.2 ViewTC a_x0 c_x0 x0 ∧ SlF 0 y.2.2 ReplyC zg zh zb ∧ SlF 0 y.2.2 SightC ze zf za ∧ SlF 0 y.2.2 ReplyC a_t53u3_Replies c_t53u3_Replies t53u3_Replies ∧ SlF 0 y.2.2 SightC a_t53u3_Sights c_t53u3_Sights t53u3_Sights) (k, 0, B34) rfl ⟨hp, gbg_x0, zc, zd, g_t53u3_Replies, g_t53u3_Sights⟩ (by exact ⟨rfl, rfl, rfl, rfl, trivial⟩) rfl rfl rfl ?_
             rintro ⟨n25, za4, B35⟩ ⟨hp, gbg_x0, zc, zd, g_t53u3_Replies, g_t53u3_Sights⟩ ih25
             show WJ _ _ _ B35 [⟨some ⟨bv0, 0, none⟩, 6, 1, [.int .i64 zj, .slice zg zb.length zh, .slice ze za.length zf, .int .u64 zk, .int .u64 zl, .int .i64 zi]⟩, ⟨some ⟨bv1u3, 0, none⟩, 1, 1, [.func (.func 52) ⟨[]⟩ ⟨[]⟩]⟩] _ _ ⟨[(0, .v (.slice zg zb.length zh)), (1, .v (.func (.func 94) ⟨[]⟩ ⟨[.pointer (some ⟨bv1u3, 0, none⟩)]⟩)), (7, .v (.int .i64 ((zb.length : Nat) : Int))), (8, .v (.int .i64 za4))], [], true, 0⟩
             replace hp : Option.bind (f19_l8 zb n25 za4) K25 = some r := hp
             cases n25 with
             | zero => rw [f19_l8] at hp; exact (noS hp).elim
             | succ n25 =>
              rw [f19_l8] at hp
              obtain ⟨t9u7, e9u7, hp⟩ := bindS hp
              refine WJ.cv 202 (b := t9u7) (H0 := ⟨.nil, 0, 0⟩) rfl rfl rfl rfl rfl rfl (by rw [← endS e9u7]; exact rfl) rfl ?_
              cases t9u7
              ·replace hp := (itS hp).2 Bool.false_ne_true
               exact WJ.goto 4 (j25 B35 ⟨hp, gbg_x0, zc, zd, g_t53u3_Replies, g_t53u3_Sights⟩) rfl rfl (by exact trivial) rfl rfl rfl
              ·replace hp := (itS hp).1 rfl
               obtain ⟨⟨t14u7_Port, t14u7_Code⟩, e14u7, hp⟩ := bindS hp
               obtain ⟨b14u7, o14u7, cs14u7, i14u7, rfl, p14u7⟩ := zc.at e14u7 u44 sz87
               refine WJ.hd (v := .pointer (some ⟨b14u7, o14u7, none⟩)) 216 rfl rfl rfl rfl (fun ids H' fr => opD_indexAddr rfl (evV_eq _ _ _ _ _ rfl) (evV_eq _ _ _ _ _ rfl) (i14u7 _)) rfl ?_
               refine WJ.hd (v := .agg ⟨[.int .i64 t14u7_Port, .int .i64 t14u7_Code]⟩) 200 rfl rfl rfl rfl (fun ids H' fr => opD_load rfl (evV_eq _ _ _ _ _ rfl) ((p14u7.mono (Nat.zero_le _) (fr.abv.le (Nat.zero_le _))).loadN (d := 0) ag87 sz87 rfl rfl)) rfl ?_
               refine WJ.inl 200 rfl rfl Tryz.func94 rfl rfl rfl rfl rfl (lc := [(0, .v (.agg ⟨[.int .i64 t14u7_Port, .int .i64 t14u7_Code]⟩)), (1, .v (.pointer (some ⟨bv1u3, 0, none⟩)))]) (fun _ => rfl) ?_
               refine WJ.adv 3 rfl ?_
               refine WJ.liftS (loc := []) rfl rfl (fun bv2u6 => ?_)
               refine WJ.hd (v := .func (.func 52) ⟨[]⟩ ⟨[]⟩) 204 rfl rfl rfl rfl (fun ids H' fr => opD_load rfl (evV_eq _ _ _ _ _ rfl) (fr.ldOwn (j := 1) rfl rfl)) rfl ?_
               refine WJ.hd (v := .agg ⟨[.int .i64 t14u7_Port, .int .i64 t14u7_Code]⟩) 200 rfl rfl rfl rfl (fun ids H' fr => opD_load rfl (evV_eq _ _ _ _ _ rfl) (fr.ldOwn (j := 2) rfl rfl)) rfl ?_
               obtain ⟨t6u28, e6u28, hp⟩ := bindS hp
               refine WJ.cl 200 (R := R_4 t6u28) (fun hm h k => R_4.mono hm h k) rfl (fun ids H' fr => f52_ok (x0 := (Reply.mk t14u7_Port t14u7_Code)) e6u28) ?_
               rintro v B36 ⟨abB36, ivB36⟩ rfl
               refine ⟨_, rfl, ?_⟩
               replace gbg_x0 := gbg_x0.mono (Nat.le_refl _) (abB36.le (Nat.zero_le _))
               replace zc := zc.mono (Nat.le_refl _) (abB36.le (Nat.zero_le _))
               replace zd := zd.mono (Nat.le_refl _) (abB36.le (Nat.zero_le _))
               replace g_t53u3_Replies := g_t53u3_Replies.mono (Nat.le_refl _) (abB36.le (Nat.zero_le _))
               replace g_t53u3_Sights := g_t53u3_Sights.mono (Nat.le_refl _) (abB36.le (Nat.zero_le _))
               replace p14u7 := p14u7.mono (Nat.le_refl _) (abB36.le (Nat.zero_le _))
               cases t6u28
               ·replace hp := (itS hp).2 Bool.false_ne_true
                refine WJ.inlR 203 rfl rfl rfl rfl ?_
                refine WJ.inlR 207 rfl rfl rfl rfl ?_
                subst hK25
                exact WJ.gotoO (j24 (za4, B36) ⟨hp, gbg_x0, zc, zd, g_t53u3_Replies, g_t53u3_Sights⟩) (by exact ⟨rfl, trivial⟩) rfl rfl
               ·replace hp := (itS hp).1 rfl
                refine WJ.inlR 203 rfl rfl rfl rfl ?_
                exact WJ.ag 208 rfl (by exact ⟨rfl, rfl, rfl, rfl, trivial⟩) rfl rfl rfl (ih25 (n25, IntKind.i64.wrap (za4 + 1), B36) ⟨hp, gbg_x0, zc, zd, g_t53u3_Replies, g_t53u3_Sights⟩ (Nat.lt_succ_self _))
end
end Go.Proofs.YtppedainpmjbmaaGreatDoor
