import Derived.Test.YtppedainpmjbmaaGreatDoorFA
set_option linter.unusedVariables false
set_option linter.unusedSimpArgs false
namespace Go.Proofs.YtppedainpmjbmaaGreatDoor
open Go Go.Det Go.RowKit
noncomputable section
/-! 103 slices.Equal[[]tipstaff/api.Reply,tipstaff/api.Reply] -/
def f103_l1 (x0 : List Reply) (x1 : List Reply) : Nat → Int → Option ((Unit) ⊕ (Bool))
 | 0, _ => none
 | n + 1, x13 =>
  (some (decide (x13 < (x0.length : Int)))).bind fun t14 =>
  if t14 then
   (rd x0 x13).bind fun t18 =>
   (rd x1 x13).bind fun t22 =>
   if t18 = t22 then
    f103_l1 x0 x1 n (IntKind.i64.wrap (x13 + 1))
   else
    some (Sum.inr (false : Bool))
  else
   some (Sum.inl ())
def f103 (k : Nat) (x0 : List Reply) (x1 : List Reply) : Option Bool :=
 if (x0.length : Int) = (x1.length : Int) then
  (f103_l1 x0 x1 k 0).bind fun s => match s with
   | .inl _ => 
    some true
   | .inr st => some st
 else
  some false
set_option maxHeartbeats 40000000 in
set_option maxRecDepth 20000 in
theorem f103_ok {k : Nat} {H : Hp} {a_x0 : Option Addr} {c_x0 : Nat} {a_x1 : Option Addr} {c_x1 : Nat} {x0 : List Reply} {x1 : List Reply} {r : Bool} (g_x0 : SlF 0 H ReplyC a_x0 c_x0 x0) (g_x1 : SlF 0 H ReplyC a_x1 c_x1 x1) (hp : f103 k x0 x1 = some r) :
  SCall Tryz.prog 103 [.slice a_x0 x0.length c_x0, .slice a_x1 x1.length c_x1] H (Ret fun v H' => Ext H H' ∧ R_4 r H.next H' v) := by
 unfold f103 at hp
 replace hp := topS hp
 refine SCall.g Tryz.func103 rfl rfl rfl rfl rfl (l := [(0, .v (.slice a_x0 x0.length c_x0)), (1, .v (.slice a_x1 x1.length c_x1))]) (fun _ => rfl) (fun B abB => ?_)
 refine WJ.cn 211 hp rfl rfl rfl rfl rfl rfl rfl rfl rfl (fun hc10 hp => ?_) (fun hc10 hp => ?_)
 ·obtain rfl := endS (show some _ = some r from hp)
  exact WJ.rt 206 rfl rfl rfl (fun ids H' fr => ⟨fr.ext0, rfl⟩)
 ·refine WJ.adv 11 rfl ?_
  obtain ⟨K28, hK28, hp⟩ : ∃ K, K = _ ∧ Option.bind _ K = some r := ⟨_, rfl, cutS hp⟩
  refine WJ.cut 2 (α := Unit) (fun y => []) (fun y => []) (fun y => []) (fun y => B) (fun y => K28 (Sum.inl ()) = some r) ?_ (fun j28 => ?_)
  ·rintro u hp
   subst hK28
   show WJ _ _ _ B [] _ _ ⟨[], [], true, 0⟩
   obtain rfl := endS (show some _ = some r from hp)
   exact WJ.rt 204 rfl rfl rfl (fun ids H' fr => ⟨fr.ext0, rfl⟩)
  ·refine WJ.lp 200 (α := Nat × Int) (fun y => [(0, .v (.slice a_x0 x0.length c_x0)), (1, .v (.slice a_x1 x1.length c_x1)), (12, .v (.int .i64 ((x0.length : Nat) : Int))), (13, .v (.int .i64 y.2))]) (fun y => []) (fun y => []) (fun y => B) (fun y => y.1) (fun y => Option.bind (f103_l1 x0 x1 y.1 y.2) K28 = some r) (k, 0) rfl hp (by exact ⟨rfl, rfl, rfl, rfl, trivial⟩) rfl rfl rfl ?_
   rintro ⟨n, x13⟩ hp ih28
   show WJ _ _ _ B [] _ _ ⟨[(0, .v (.slice a_x0 x0.length c_x0)), (1, .v (.slice a_x1 x1.length c_x1)), (12, .v (.int .i64 ((x0.length : Nat) : Int))), (13, .v (.int .i64 x13))], [], true, 0⟩
   replace hp : Option.bind (f103_l1 x0 x1 n x13) K28 = some r := hp
   cases n with
   | zero => rw [f103_l1] at hp; exact (noS hp).elim
   | succ n =>
    rw [f103_l1] at hp
    obtain ⟨t14, e14, hp⟩ := bindS hp
    refine WJ.cv 202 (b := t14) (H0 := ⟨.nil, 0, 0⟩) rfl rfl rfl rfl rfl rfl (by rw [← endS e14]; exact rfl) rfl ?_
    cases t14
    ·replace hp := (itS hp).2 Bool.false_ne_true
     exact WJ.goto 4 (j28 () hp) rfl rfl (by exact trivial) rfl rfl rfl
    ·replace hp := (itS hp).1 rfl
     refine WJ.dr 212 rfl gmix (by kernel_rfl) (by kernel_rfl) rfl ?_
     obtain ⟨⟨zd4, zd5⟩, e18, hp⟩ := bindS hp
     obtain ⟨b18, o18, cs18, i18, rfl, p18⟩ := g_x0.at e18 u44 sz87
     refine WD.hd (v := .pointer (some ⟨b18, o18, none⟩)) rfl rfl rfl rfl (fun _ _ _ _ _ => side_no) (fun ids H' fr => opD_indexAddr rfl (evV_eq _ _ _ _ _ rfl) (evV_eq _ _ _ _ _ rfl) (i18 _)) rfl ?_
     refine WD.hd (v := .agg ⟨[.int .i64 zd4, .int .i64 zd5]⟩) rfl rfl rfl rfl (fun _ _ _ _ _ => side_no) (fun ids H' fr => opD_load rfl (evV_eq _ _ _ _ _ rfl) ((p18.mono (Nat.zero_le _) fr.ext0.abv).loadN (d := 0) ag87 sz87 rfl rfl)) rfl ?_
     obtain ⟨⟨zd6, zd7⟩, e22, hp⟩ := bindS hp
     obtain ⟨b22, o22, cs22, i22, rfl, p22⟩ := g_x1.at e22 u44 sz87
     refine WD.hd (v := .pointer (some ⟨b22, o22, none⟩)) rfl rfl rfl rfl (fun _ _ _ _ _ => side_no) (fun ids H' fr => opD_indexAddr rfl (evV_eq _ _ _ _ _ rfl) (evV_eq _ _ _ _ _ rfl) (i22 _)) rfl ?_
     refine WD.hd (v := .agg ⟨[.int .i64 zd6, .int .i64 zd7]⟩) rfl rfl rfl rfl (fun _ _ _ _ _ => side_no) (fun ids H' fr => opD_load rfl (evV_eq _ _ _ _ _ rfl) ((p22.mono (Nat.zero_le _) fr.ext0.abv).loadN (d := 0) ag87 sz87 rfl rfl)) rfl ?_
     refine WD.cn hp rfl rfl rfl rfl rfl rfl (opD_neS rfl rfl rfl rfl gd87 (eq87 zd4 zd5 zd6 zd7)) rfl rfl (fun hc24 hp => ?_) (fun hc24 hp => ?_)
     ·refine WD.done rfl ?_
      subst hK28
      obtain rfl := endS (show some _ = some r from hp)
      exact WJ.rt 205 rfl rfl rfl (fun ids H' fr => ⟨fr.ext0, rfl⟩)
     ·refine WD.done rfl ?_
      exact WJ.ag 207 rfl (by exact ⟨rfl, rfl, rfl, rfl, trivial⟩) rfl rfl rfl (ih28 (n, IntKind.i64.wrap (x13 + 1)) hp (Nat.lt_succ_self _))
/-! 85 slices.Equal[[]tipstaff/api.Sight,tipstaff/api.Sight] -/
def f85_l1 (x0 : List Sight) (x1 : List Sight) : Nat → Int → Option ((Unit) ⊕ (Bool))
 | 0, _ => none
 | n + 1, x13 =>
  (some (decide (x13 < (x0.length : Int)))).bind fun t14 =>
  if t14 then
   (rd x0 x13).bind fun t18 =>
   (rd x1 x13).bind fun t22 =>
   if t18 = t22 then
    f85_l1 x0 x1 n (IntKind.i64.wrap (x13 + 1))
   else
    some (Sum.inr (false : Bool))
  else
   some (Sum.inl ())
def f85 (k : Nat) (x0 : List Sight) (x1 : List Sight) : Option Bool :=
 if (x0.length : Int) = (x1.length : Int) then
  (f85_l1 x0 x1 k 0).bind fun s => match s with
   | .inl _ => 
    some true
   | .inr st => some st
 else
  some false
set_option maxHeartbeats 40000000 in
set_option maxRecDepth 20000 in
theorem f85_ok {k : Nat} {H : Hp} {a_x0 : Option Addr} {c_x0 : Nat} {a_x1 : Option Addr} {c_x1 : Nat} {x0 : List Sight} {x1 : List Sight} {r : Bool} (g_x0 : SlF 0 H SightC a_x0 c_x0 x0) (g_x1 : SlF 0 H SightC a_x1 c_x1 x1) (hp : f85 k x0 x1 = some r) :
  SCall Tryz.prog 85 [.slice a_x0 x0.length c_x0, .slice a_x1 x1.length c_x1] H (Ret fun v H' => Ext H H' ∧ R_4 r H.next H' v) := by
 unfold f85 at hp
 replace hp := topS hp
 refine SCall.g Tryz.func85 rfl rfl rfl rfl rfl (l := [(0, .v (.slice a_x0 x0.length c_x0)), (1, .v (.slice a_x1 x1.length c_x1))]) (fun _ => rfl) (fun B abB => ?_)
 refine WJ.cn 211 hp rfl rfl rfl rfl rfl rfl rfl rfl rfl (fun hc10 hp => ?_) (fun hc10 hp => ?_)
 ·obtain rfl := endS (show some _ = some r from hp)
  exact WJ.rt 206 rfl rfl rfl (fun ids H' fr => ⟨fr.ext0, rfl⟩)
 ·refine WJ.adv 11 rfl ?_
  obtain ⟨K29, hK29, hp⟩ : ∃ K, K = _ ∧ Option.bind _ K = some r := ⟨_, rfl, cutS hp⟩
  refine WJ.cut 2 (α := Unit) (fun y => []) (fun y => []) (fun y => []) (fun y => B) (fun y => K29 (Sum.inl ()) = some r) ?_ (fun j29 => ?_)
  ·rintro u hp
   subst hK29
   show WJ _ _ _ B [] _ _ ⟨[], [], true, 0⟩
   obtain rfl := endS (show some _ = some r from hp)
   exact WJ.rt 204 rfl rfl rfl (fun ids H' fr => ⟨fr.ext0, rfl⟩)
  ·refine WJ.lp 200 (α := Nat × Int) (fun y => [(0, .v (.slice a_x0 x0.length c_x0)), (1, .v (.slice a_x1 x1.length c_x1)), (12, .v (.int .i64 ((x0.length : Nat) : Int))), (13, .v (.int .i64 y.2))]) (fun y => []) (fun y => []) (fun y => B) (fun y => y.1) (fun y => Option.bind (f85_l1 x0 x1 y.1 y.2) K29 = some r) (k, 0) rfl hp (by exact ⟨rfl, rfl, rfl, rfl, trivial⟩) rfl rfl rfl ?_
   rintro ⟨n, x13⟩ hp ih29
   show WJ _ _ _ B [] _ _ ⟨[(0, .v (.slice a_x0 x0.length c_x0)), (1, .v (.slice a_x1 x1.length c_x1)), (12, .v (.int .i64 ((x0.length : Nat) : Int))), (13, .v (.int .i64 x13))], [], true, 0⟩
   replace hp : Option.bind (f85_l1 x0 x1 n x13) K29 = some r := hp
   cases n with
   | zero => rw [f85_l1] at hp; exact (noS hp).elim
   | succ n =>
    rw [f85_l1] at hp
    obtain ⟨t14, e14, hp⟩ := bindS hp
    refine WJ.cv 202 (b := t14) (H0 := ⟨.nil, 0, 0⟩) rfl rfl rfl rfl rfl rfl (by rw [← endS e14]; exact rfl) rfl ?_
    cases t14
    ·replace hp := (itS hp).2 Bool.false_ne_true
     exact WJ.goto 4 (j29 () hp) rfl rfl (by exact trivial) rfl rfl rfl
    ·replace hp := (itS hp).1 rfl
     refine WJ.dr 212 rfl gmix (by kernel_rfl) (by kernel_rfl) rfl ?_
     obtain ⟨⟨zd8, zd9, zea⟩, e18, hp⟩ := bindS hp
     obtain ⟨b18, o18, cs18, i18, rfl, p18⟩ := g_x0.at e18 u45 sz84
     refine WD.hd (v := .pointer (some ⟨b18, o18, none⟩)) rfl rfl rfl rfl (fun _ _ _ _ _ => side_no) (fun ids H' fr => opD_indexAddr rfl (evV_eq _ _ _ _ _ rfl) (evV_eq _ _ _ _ _ rfl) (i18 _)) rfl ?_
     refine WD.hd (v := .agg ⟨[.int .i64 zd8, .int .i64 zd9, .bool zea]⟩) rfl rfl rfl rfl (fun _ _ _ _ _ => side_no) (fun ids H' fr => opD_load rfl (evV_eq _ _ _ _ _ rfl) ((p18.mono (Nat.zero_le _) fr.ext0.abv).loadN (d := 0) ag84 sz84 rfl rfl)) rfl ?_
     obtain ⟨⟨zeb, zec, zed⟩, e22, hp⟩ := bindS hp
     obtain ⟨b22, o22, cs22, i22, rfl, p22⟩ := g_x1.at e22 u45 sz84
     refine WD.hd (v := .pointer (some ⟨b22, o22, none⟩)) rfl rfl rfl rfl (fun _ _ _ _ _ => side_no) (fun ids H' fr => opD_indexAddr rfl (evV_eq _ _ _ _ _ rfl) (evV_eq _ _ _ _ _ rfl) (i22 _)) rfl ?_
     refine WD.hd (v := .agg ⟨[.int .i64 zeb, .int .i64 zec, .bool zed]⟩) rfl rfl rfl rfl (fun _ _ _ _ _ => side_no) (fun ids H' fr => opD_load rfl (evV_eq _ _ _ _ _ rfl) ((p22.mono (Nat.zero_le _) fr.ext0.abv).loadN (d := 0) ag84 sz84 rfl rfl)) rfl ?_
     refine WD.cn hp rfl rfl rfl rfl rfl rfl (opD_neS rfl rfl rfl rfl gd84 (eq84 zd8 zd9 zea zeb zec zed)) rfl rfl (fun hc24 hp => ?_) (fun hc24 hp => ?_)
     ·refine WD.done rfl ?_
      subst hK29
      obtain rfl := endS (show some _ = some r from hp)
      exact WJ.rt 205 rfl rfl rfl (fun ids H' fr => ⟨fr.ext0, rfl⟩)
     ·refine WD.done rfl ?_
      exact WJ.ag 207 rfl (by exact ⟨rfl, rfl, rfl, rfl, trivial⟩) rfl rfl rfl (ih29 (n, IntKind.i64.wrap (x13 + 1)) hp (Nat.lt_succ_self _))
/-! 63 tipstaff/trace.same -/
def f63 (k : Nat) (x0 : ViewT) (x1 : ViewT) : Option Bool :=
 if x0.Tick = x1.Tick then
  if x0.Up = x1.Up then
   if x0.Down = x1.Down then
    if x0.Word = x1.Word then
     (f103 k x0.Replies x1.Replies).bind fun t36 =>
     if t36 then
      (f85 k x0.Sights x1.Sights).bind fun t43 =>
      some t43
     else
      some false
    else
     some false
   else
    some false
  else
   some false
 else
  some false
set_option maxHeartbeats 40000000 in
set_option maxRecDepth 20000 in
theorem f63_ok {k : Nat} {H : Hp} {zo : Option Addr} {zp : Nat} {zq : Option Addr} {zr : Nat} {zw : Option Addr} {zx : Nat} {zy : Option Addr} {zz : Nat} {x0 : ViewT} {x1 : ViewT} {r : Bool} (za6 : SlF 0 H ReplyC zo zp x0.Replies) (za7 : SlF 0 H SightC zq zr x0.Sights) (zb9 : SlF 0 H ReplyC zw zx x1.Replies) (zca : SlF 0 H SightC zy zz x1.Sights) (hp : f63 k x0 x1 = some r) :
  SCall Tryz.prog 63 [.agg ⟨[.int .i64 x0.Tick, .slice zo x0.Replies.length zp, .slice zq x0.Sights.length zr, .int .u64 x0.Up, .int .u64 x0.Down, .int .i64 x0.Word]⟩, .agg ⟨[.int .i64 x1.Tick, .slice zw x1.Replies.length zx, .slice zy x1.Sights.length zz, .int .u64 x1.Up, .int .u64 x1.Down, .int .i64 x1.Word]⟩] H (Ret fun v H' => Ext H H' ∧ R_4 r H.next H' v) := by
 obtain ⟨z0, zn, zs, z1, z2, z3⟩ := x0
 obtain ⟨z8, zv, z6, z9, zaa, zab⟩ := x1
 unfold f63 at hp
 replace hp := topS hp
 refine SCall.g Tryz.func63 rfl rfl rfl rfl rfl (l := [(0, .v (.agg ⟨[.int .i64 z0, .slice zo zn.length zp, .slice zq zs.length zr, .int .u64 z1, .int .u64 z2, .int .i64 z3]⟩)), (1, .v (.agg ⟨[.int .i64 z8, .slice zw zv.length zx, .slice zy z6.length zz, .int .u64 z9, .int .u64 zaa, .int .i64 zab]⟩))]) (fun _ => rfl) (fun B abB => ?_)
 refine WJ.ci 212 hp rfl rfl rfl rfl rfl rfl rfl rfl rfl (fun hc9 hp => ?_) (fun hc9 hp => ?_)
 ·refine WJ.ci 205 hp rfl rfl rfl rfl rfl rfl rfl rfl rfl (fun hc15 hp => ?_) (fun hc15 hp => ?_)
  ·refine WJ.ci 206 hp rfl rfl rfl rfl rfl rfl rfl rfl rfl (fun hc22 hp => ?_) (fun hc22 hp => ?_)
   ·refine WJ.ci 206 hp rfl rfl rfl rfl rfl rfl rfl rfl rfl (fun hc29 hp => ?_) (fun hc29 hp => ?_)
    ·obtain ⟨t36, e36, hp⟩ := bindS hp
     refine WJ.cl 206 (R := R_4 t36) (fun hm h k => R_4.mono hm h k) rfl (fun ids H' fr => f103_ok (za6.mono (Nat.zero_le _) fr.ext0.abv) (zb9.mono (Nat.zero_le _) fr.ext0.abv) e36) ?_
     rintro v B1 ⟨abB1, ivB1⟩ rfl
     refine ⟨_, rfl, ?_⟩
     cases t36
     ·replace hp := (itS hp).2 Bool.false_ne_true
      obtain rfl := endS (show some _ = some r from hp)
      exact WJ.rt 210 rfl rfl rfl (fun ids H' fr => ⟨fr.ext0, rfl⟩)
     ·replace hp := (itS hp).1 rfl
      obtain ⟨t43, e43, hp⟩ := bindS hp
      refine WJ.cl 206 (R := R_4 t43) (fun hm h k => R_4.mono hm h k) rfl (fun ids H' fr => f85_ok (za7.mono (Nat.zero_le _) fr.ext0.abv) (zca.mono (Nat.zero_le _) fr.ext0.abv) e43) ?_
      rintro v B2 ⟨abB2, ivB2⟩ rfl
      refine ⟨_, rfl, ?_⟩
      obtain rfl := endS (show some _ = some r from hp)
      exact WJ.rt 203 rfl rfl rfl (fun ids H' fr => ⟨fr.ext0, rfl⟩)
    ·obtain rfl := endS (show some _ = some r from hp)
     exact WJ.rt 217 rfl rfl rfl (fun ids H' fr => ⟨fr.ext0, rfl⟩)
   ·obtain rfl := endS (show some _ = some r from hp)
    exact WJ.rt 224 rfl rfl rfl (fun ids H' fr => ⟨fr.ext0, rfl⟩)
  ·obtain rfl := endS (show some _ = some r from hp)
   exact WJ.rt 231 rfl rfl rfl (fun ids H' fr => ⟨fr.ext0, rfl⟩)
 ·obtain rfl := endS (show some _ = some r from hp)
  exact WJ.rt 237 rfl rfl rfl (fun ids H' fr => ⟨fr.ext0, rfl⟩)
/-! 29 tipstaff/trace.First -/
def f29_l1 (k : Nat) : Nat → (List ViewT) → (List ViewT) → Option ((List ViewT) × (List ViewT))
 | 0, _, _ => none
 | n + 1, zal, zam =>
  if (zal.length : Int) > 0 then
   if (zam.length : Int) > 0 then
    (rd zal 0).bind fun t37 =>
    (rd zam 0).bind fun t40 =>
    (f63 k t37 t40).bind fun t42 =>
    if t42 then
     (subL zal 1 (zal.length : Int)).bind fun s45 =>
     (subL zam 1 (zam.length : Int)).bind fun s47 =>
     f29_l1 k n s45 s47
    else
     some ((zal, zam))
   else
    some ((zal, zam))
  else
   some ((zal, zam))
def f29 (k : Nat) (x0 : List ViewT) (x1 : List ViewT) : Option (Int × Int) :=
 (f19 k x0).bind fun (t20_0, t20_1) =>
 if t20_0 = 0 then
  (f19 k x1).bind fun (t20u1_0, t20u1_1) =>
  if t20u1_0 = 0 then
   (f29_l1 k k x0 x1).bind fun (x0_30, x1_30) =>
    (if (x0_30.length : Int) = 0 then
     if (x1_30.length : Int) = 0 then
      some (Sum.inl (((-1), 0) : Int × Int))
     else
      if (x0_30.length : Int) = 0 then
       (rd x1_30 0).bind fun t62 =>
       some (Sum.inl ((t62.Tick, 0) : Int × Int))
      else
       if (x1_30.length : Int) = 0 then
        (rd x0_30 0).bind fun t70 =>
        some (Sum.inl ((t70.Tick, 0) : Int × Int))
       else
        some (Sum.inr ())
    else
     if (x0_30.length : Int) = 0 then
      (rd x1_30 0).bind fun t62u1 =>
      some (Sum.inl ((t62u1.Tick, 0) : Int × Int))
     else
      if (x1_30.length : Int) = 0 then
       (rd x0_30 0).bind fun t70u1 =>
       some (Sum.inl ((t70u1.Tick, 0) : Int × Int))
      else
       some (Sum.inr ())).bind fun s => match s with
     | .inl st => some st
     | .inr _ => 
      (rd x0_30 0).bind fun t74 =>
      (rd x1_30 0).bind fun t78 =>
      some (gmin t74.Tick t78.Tick, 0)
  else
   some (0, t20u1_0)
 else
  some (0, t20_0)
set_option maxHeartbeats 40000000 in
set_option maxRecDepth 20000 in
theorem f29_ok {k : Nat} {H : Hp} {a_x0 : Option Addr} {c_x0 : Nat} {a_x1 : Option Addr} {c_x1 : Nat} {x0 : List ViewT} {x1 : List ViewT} {r : Int × Int} (g_x0 : SlF 0 H ViewTC a_x0 c_x0 x0) (g_x1 : SlF 0 H ViewTC a_x1 c_x1 x1) (hp : f29 k x0 x1 = some r) :
  SCall Tryz.prog 29 [.slice a_x0 x0.length c_x0, .slice a_x1 x1.length c_x1] H (Ret fun v H' => Ext H H' ∧ R_3_24 r H.next H' v) := by
 unfold f29 at hp
 replace hp := topS hp
 refine SCall.g Tryz.func29 rfl rfl rfl rfl rfl (l := [(0, .v (.slice a_x0 x0.length c_x0)), (1, .v (.slice a_x1 x1.length c_x1))]) (fun _ => rfl) (fun B abB => ?_)
 have gbg_x0 := g_x0.mono (Nat.le_refl _) abB
 have gbg_x1 := g_x1.mono (Nat.le_refl _) abB
 refine WJ.bs (cs := [.slice a_x0 x0.length c_x0, .slice a_x1 x1.length c_x1]) (sz := 1) (pl := [(0, .slice a_x0 x0.length c_x0), (1, .slice a_x1 x1.length c_x1)]) 210 rfl rfl rfl rfl rfl (fun _ _ => rfl) (fun _ => by rfl) rfl rfl ?_
 intro b12
 refine ⟨_, rfl, ?_⟩
 refine WJ.un 204 rfl ?_
 refine WJ.re (I := [(0, .v (.slice a_x0 x0.length c_x0)), (1, .v (.slice a_x1 x1.length c_x1)), (12, .v (.slice (some ⟨b12, 0, none⟩) 2 2)), (13, .v (.int .i64 2)), (14, .v (.int .i64 0))]) (O := [⟨some ⟨b12, 0, none⟩, 2, 1, [.slice a_x0 x0.length c_x0, .slice a_x1 x1.length c_x1]⟩]) ?_ (by exact ⟨rfl, rfl, rfl, rfl, rfl, trivial⟩) rfl
 refine WJ.cv 202 (b := true) (H0 := ⟨.nil, 0, 0⟩) rfl rfl rfl rfl rfl rfl rfl rfl ?_
 refine WJ.hd (v := .pointer (some ⟨b12, 0, none⟩)) 208 rfl rfl rfl rfl (fun ids H' fr => opD_indexAddr rfl (evV_eq _ _ _ _ _ rfl) (evV_eq _ _ _ _ _ rfl) (idxLit (i := 0) u101 sz23 rfl rfl)) rfl ?_
 refine WJ.hd (v := .slice a_x0 x0.length c_x0) 200 rfl rfl rfl rfl (fun ids H' fr => opD_load rfl (evV_eq _ _ _ _ _ rfl) (fr.ldOwn (j := 0) rfl rfl)) rfl ?_
 obtain ⟨⟨t20_0, t20_1⟩, e20, hp⟩ := bindS hp
 refine WJ.cl 205 (R := R_24_3 ⟨t20_0, t20_1⟩) (fun hm h k => R_24_3.mono hm h k) rfl (fun ids H' fr => f19_ok (gbg_x0.mono (Nat.zero_le _) (fr.abv.le (Nat.zero_le _))) e20) ?_
 rintro v B1 ⟨abB1, ivB1⟩ rfl
 refine ⟨_, rfl, ?_⟩
 replace gbg_x0 := gbg_x0.mono (Nat.le_refl _) (abB1.le (Nat.zero_le _))
 replace gbg_x1 := gbg_x1.mono (Nat.le_refl _) (abB1.le (Nat.zero_le _))
 refine WJ.cn 209 hp rfl rfl rfl rfl rfl rfl rfl rfl rfl (fun hc24 hp => ?_) (fun hc24 hp => ?_)
 ·obtain rfl := endS (show some _ = some r from hp)
  exact WJ.rt 208 rfl rfl rfl (fun ids H' fr => ⟨fr.ext0, rfl⟩)
 ·refine WJ.ro 208 rfl ?_
  refine WJ.re (I := [(0, .v (.slice a_x0 x0.length c_x0)), (1, .v (.slice a_x1 x1.length c_x1)), (12, .v (.slice (some ⟨b12, 0, none⟩) 2 2)), (13, .v (.int .i64 2)), (14, .v (.int .i64 1))]) (O := [⟨some ⟨b12, 0, none⟩, 2, 1, [.slice a_x0 x0.length c_x0, .slice a_x1 x1.length c_x1]⟩]) ?_ (by exact ⟨rfl, rfl, rfl, rfl, rfl, trivial⟩) rfl
  refine WJ.cv 202 (b := true) (H0 := ⟨.nil, 0, 0⟩) rfl rfl rfl rfl rfl rfl rfl rfl ?_
  refine WJ.hd (v := .pointer (some ⟨b12, 1, none⟩)) 208 rfl rfl rfl rfl (fun ids H' fr => opD_indexAddr rfl (evV_eq _ _ _ _ _ rfl) (evV_eq _ _ _ _ _ rfl) (idxLit (i := 1) u101 sz23 rfl rfl)) rfl ?_
  refine WJ.hd (v := .slice a_x1 x1.length c_x1) 200 rfl rfl rfl rfl (fun ids H' fr => opD_load rfl (evV_eq _ _ _ _ _ rfl) (fr.ldOwn (j := 0) rfl rfl)) rfl ?_
  obtain ⟨⟨t20u1_0, t20u1_1⟩, e20u1, hp⟩ := bindS hp
  refine WJ.cl 205 (R := R_24_3 ⟨t20u1_0, t20u1_1⟩) (fun hm h k => R_24_3.mono hm h k) rfl (fun ids H' fr => f19_ok (gbg_x1.mono (Nat.zero_le _) (fr.abv.le (Nat.zero_le _))) e20u1) ?_
  rintro v B2 ⟨abB2, ivB2⟩ rfl
  refine ⟨_, rfl, ?_⟩
  replace gbg_x0 := gbg_x0.mono (Nat.le_refl _) (abB2.le (Nat.zero_le _))
  replace gbg_x1 := gbg_x1.mono (Nat.le_refl _) (abB2.le (Nat.zero_le _))
  refine WJ.cn 209 hp rfl rfl rfl rfl rfl rfl rfl rfl rfl (fun hc24u1 hp => ?_) (fun hc24u1 hp => ?_)
  ·obtain rfl := endS (show some _ = some r from hp)
   exact WJ.rt 208 rfl rfl rfl (fun ids H' fr => ⟨fr.ext0, rfl⟩)
  ·refine WJ.ro 208 rfl ?_
   refine WJ.re (I := [(0, .v (.slice a_x0 x0.length c_x0)), (1, .v (.slice a_x1 x1.length c_x1)), (12, .v (.slice (some ⟨b12, 0, none⟩) 2 2)), (13, .v (.int .i64 2)), (14, .v (.int .i64 2))]) (O := [⟨some ⟨b12, 0, none⟩, 2, 1, [.slice a_x0 x0.length c_x0, .slice a_x1 x1.length c_x1]⟩]) ?_ (by exact ⟨rfl, rfl, rfl, rfl, rfl, trivial⟩) rfl
   refine WJ.cv 202 (b := false) (H0 := ⟨.nil, 0, 0⟩) rfl rfl rfl rfl rfl rfl rfl rfl ?_
   refine WJ.adv 6 rfl ?_
   obtain ⟨K30, hK30, hp⟩ : ∃ K, K = _ ∧ Option.bind _ K = some r := ⟨_, rfl, cutS hp⟩
   refine WJ.cut 2 (α := (List ViewT) × (List ViewT) × (Option Addr) × Nat × (Option Addr) × Nat × Hp) (fun y => [(0, .v (.slice y.2.2.1 y.1.length y.2.2.2.1)), (1, .v (.slice y.2.2.2.2.1 y.2.1.length y.2.2.2.2.2.1))]) (fun y => []) (fun y => [⟨some ⟨b12, 0, none⟩, 2, 1, [.slice a_x0 x0.length c_x0, .slice a_x1 x1.length c_x1]⟩]) (fun y => y.2.2.2.2.2.2) (fun y => K30 ((y.1, y.2.1)) = some r ∧ SlF 0 y.2.2.2.2.2.2 ViewTC a_x0 c_x0 x0 ∧ SlF 0 y.2.2.2.2.2.2 ViewTC a_x1 c_x1 x1 ∧ SlF 0 y.2.2.2.2.2.2 ViewTC y.2.2.1 y.2.2.2.1 y.1 ∧ SlF 0 y.2.2.2.2.2.2 ViewTC y.2.2.2.2.1 y.2.2.2.2.2.1 y.2.1) ?_ (fun j30 => ?_)
   ·rintro ⟨x0_30, x1_30, a_x0_30, c_x0_30, a_x1_30, c_x1_30, B5⟩ ⟨hp, gbg_x0, gbg_x1, g_x0_30, g_x1_30⟩
    subst hK30
    show WJ _ _ _ B5 [⟨some ⟨b12, 0, none⟩, 2, 1, [.slice a_x0 x0.length c_x0, .slice a_x1 x1.length c_x1]⟩] _ _ ⟨[(0, .v (.slice a_x0_30 x0_30.length c_x0_30)), (1, .v (.slice a_x1_30 x1_30.length c_x1_30))], [], true, 0⟩
    refine WJ.adv 3 rfl ?_
    obtain ⟨K31, hK31, hp⟩ : ∃ K, K = _ ∧ Option.bind _ K = some r := ⟨_, rfl, cutS hp⟩
    refine WJ.cut 3 (α := Unit) (fun y => [(0, .v (.slice a_x0_30 x0_30.length c_x0_30)), (1, .v (.slice a_x1_30 x1_30.length c_x1_30))]) (fun y => []) (fun y => [⟨some ⟨b12, 0, none⟩, 2, 1, [.slice a_x0 x0.length c_x0, .slice a_x1 x1.length c_x1]⟩]) (fun y => B5) (fun y => K31 ((Sum.inr ())) = some r) ?_ (fun j31 => ?_)
    ·rintro u hp
     subst hK31
     show WJ _ _ _ B5 [⟨some ⟨b12, 0, none⟩, 2, 1, [.slice a_x0 x0.length c_x0, .slice a_x1 x1.length c_x1]⟩] _ _ ⟨[(0, .v (.slice a_x0_30 x0_30.length c_x0_30)), (1, .v (.slice a_x1_30 x1_30.length c_x1_30))], [], true, 0⟩
     refine WJ.dr 201 rfl gmix (by kernel_rfl) (by kernel_rfl) rfl ?_
     obtain ⟨⟨zct, zhh, zhi, zhj, zhk, zhl⟩, e74, hp⟩ := bindS hp
     obtain ⟨b74, o74, cs74, i74, ⟨zhm, zhn, zho, zhp, rfl, zhq, zhr⟩, p74⟩ := g_x0_30.at e74 u23 sz48
     refine WD.hd (v := .pointer (some ⟨b74, o74, none⟩)) rfl rfl rfl rfl (fun _ _ _ _ _ => side_no) (fun ids H' fr => opD_indexAddr rfl (evV_eq _ _ _ _ _ rfl) (evV_eq _ _ _ _ _ rfl) (i74 _)) rfl ?_
     refine WD.hd (v := .int .i64 zct) rfl rfl rfl rfl (fun _ _ _ _ _ => side_no) (fun ids H' fr => opD_load rfl (evV_eq _ _ _ _ _ rfl) ((p74.mono (Nat.zero_le _) (fr.abv.le (Nat.zero_le _))).load (d := 0) ag3 rfl)) rfl ?_
     obtain ⟨⟨zcu, zhs, zht, zhu, zhv, zhw⟩, e78, hp⟩ := bindS hp
     obtain ⟨b78, o78, cs78, i78, ⟨zhx, zhy, zhz, zh0, rfl, zh1, zh2⟩, p78⟩ := g_x1_30.at e78 u23 sz48
     refine WD.hd (v := .pointer (some ⟨b78, o78, none⟩)) rfl rfl rfl rfl (fun _ _ _ _ _ => side_no) (fun ids H' fr => opD_indexAddr rfl (evV_eq _ _ _ _ _ rfl) (evV_eq _ _ _ _ _ rfl) (i78 _)) rfl ?_
     refine WD.hd (v := .int .i64 zcu) rfl rfl rfl rfl (fun _ _ _ _ _ => side_no) (fun ids H' fr => opD_load rfl (evV_eq _ _ _ _ _ rfl) ((p78.mono (Nat.zero_le _) (fr.abv.le (Nat.zero_le _))).load (d := 0) ag3 rfl)) rfl ?_
     refine WD.hd (v := .int .i64 (gmin zct zcu)) rfl rfl rfl rfl (fun _ _ _ _ _ => side_no) (fun ids H' fr => opD_min rfl rfl rfl (evV_eq (v := .v (.int .i64 zct)) _ _ _ _ _ rfl) (evV_eq (v := .v (.int .i64 zcu)) _ _ _ _ _ rfl)) rfl ?_
     refine WD.done rfl ?_
     obtain rfl := endS (show some _ = some r from hp)
     exact WJ.rt 200 rfl rfl rfl (fun ids H' fr => ⟨fr.ext0, rfl⟩)
    ·refine WJ.ci 203 hp rfl rfl rfl rfl rfl rfl rfl rfl rfl (fun hc51 hp => ?_) (fun hc51 hp => ?_)
     ·refine WJ.ci 203 hp rfl rfl rfl rfl rfl rfl rfl rfl rfl (fun hc55 hp => ?_) (fun hc55 hp => ?_)
      ·subst hK31
       obtain rfl := endS (show some _ = some r from hp)
       exact WJ.rt 209 rfl rfl rfl (fun ids H' fr => ⟨fr.ext0, rfl⟩)
      ·refine WJ.ci 208 hp rfl rfl rfl rfl rfl rfl rfl rfl rfl (fun hc60 hp => ?_) (fun hc60 hp => ?_)
       ·obtain ⟨⟨zf0, zh3, zh4, zh5, zh6, zh7⟩, e62, hp⟩ := bindS hp
        obtain ⟨b62, o62, cs62, i62, ⟨zh8, zh9, zia, zib, rfl, zic, zid⟩, p62⟩ := g_x1_30.at e62 u23 sz48
        refine WJ.hd (v := .pointer (some ⟨b62, o62, none⟩)) 206 rfl rfl rfl rfl (fun ids H' fr => opD_indexAddr rfl (evV_eq _ _ _ _ _ rfl) (evV_eq _ _ _ _ _ rfl) (i62 _)) rfl ?_
        refine WJ.hd (v := .int .i64 zf0) 201 rfl rfl rfl rfl (fun ids H' fr => opD_load rfl (evV_eq _ _ _ _ _ rfl) ((p62.mono (Nat.zero_le _) (fr.abv.le (Nat.zero_le _))).load (d := 0) ag3 rfl)) rfl ?_
        subst hK31
        obtain rfl := endS (show some _ = some r from hp)
        exact WJ.rt 203 rfl rfl rfl (fun ids H' fr => ⟨fr.ext0, rfl⟩)
       ·refine WJ.ci 207 hp rfl rfl rfl rfl rfl rfl rfl rfl rfl (fun hc68 hp => ?_) (fun hc68 hp => ?_)
        ·obtain ⟨⟨zf1, zie, zif, zig, zih, zii⟩, e70, hp⟩ := bindS hp
         obtain ⟨b70, o70, cs70, i70, ⟨zij, zik, zil, zim, rfl, zin, zio⟩, p70⟩ := g_x0_30.at e70 u23 sz48
         refine WJ.hd (v := .pointer (some ⟨b70, o70, none⟩)) 206 rfl rfl rfl rfl (fun ids H' fr => opD_indexAddr rfl (evV_eq _ _ _ _ _ rfl) (evV_eq _ _ _ _ _ rfl) (i70 _)) rfl ?_
         refine WJ.hd (v := .int .i64 zf1) 201 rfl rfl rfl rfl (fun ids H' fr => opD_load rfl (evV_eq _ _ _ _ _ rfl) ((p70.mono (Nat.zero_le _) (fr.abv.le (Nat.zero_le _))).load (d := 0) ag3 rfl)) rfl ?_
         subst hK31
         obtain rfl := endS (show some _ = some r from hp)
         exact WJ.rt 203 rfl rfl rfl (fun ids H' fr => ⟨fr.ext0, rfl⟩)
        ·exact WJ.goto 5 (j31 () hp) rfl rfl (by exact ⟨rfl, rfl, trivial⟩) rfl rfl rfl
     ·refine WJ.ci 212 hp rfl rfl rfl rfl rfl rfl rfl rfl rfl (fun hc60u1 hp => ?_) (fun hc60u1 hp => ?_)
      ·obtain ⟨⟨t62u1_Tick, t62u1_Replies, t62u1_Sights, t62u1_Up, t62u1_Down, t62u1_Word⟩, e62u1, hp⟩ := bindS hp
       obtain ⟨b62u1, o62u1, cs62u1, i62u1, ⟨a_t62u1_Replies, c_t62u1_Replies, a_t62u1_Sights, c_t62u1_Sights, rfl, g_t62u1_Replies, g_t62u1_Sights⟩, p62u1⟩ := g_x1_30.at e62u1 u23 sz48
       refine WJ.hd (v := .pointer (some ⟨b62u1, o62u1, none⟩)) 206 rfl rfl rfl rfl (fun ids H' fr => opD_indexAddr rfl (evV_eq _ _ _ _ _ rfl) (evV_eq _ _ _ _ _ rfl) (i62u1 _)) rfl ?_
       refine WJ.hd (v := .int .i64 t62u1_Tick) 201 rfl rfl rfl rfl (fun ids H' fr => opD_load rfl (evV_eq _ _ _ _ _ rfl) ((p62u1.mono (Nat.zero_le _) (fr.abv.le (Nat.zero_le _))).load (d := 0) ag3 rfl)) rfl ?_
       subst hK31
       obtain rfl := endS (show some _ = some r from hp)
       exact WJ.rt 203 rfl rfl rfl (fun ids H' fr => ⟨fr.ext0, rfl⟩)
      ·refine WJ.ci 207 hp rfl rfl rfl rfl rfl rfl rfl rfl rfl (fun hc68u1 hp => ?_) (fun hc68u1 hp => ?_)
       ·obtain ⟨⟨t70u1_Tick, t70u1_Replies, t70u1_Sights, t70u1_Up, t70u1_Down, t70u1_Word⟩, e70u1, hp⟩ := bindS hp
        obtain ⟨b70u1, o70u1, cs70u1, i70u1, ⟨a_t70u1_Replies, c_t70u1_Replies, a_t70u1_Sights, c_t70u1_Sights, rfl, g_t70u1_Replies, g_t70u1_Sights⟩, p70u1⟩ := g_x0_30.at e70u1 u23 sz48
        refine WJ.hd (v := .pointer (some ⟨b70u1, o70u1, none⟩)) 206 rfl rfl rfl rfl (fun ids H' fr => opD_indexAddr rfl (evV_eq _ _ _ _ _ rfl) (evV_eq _ _ _ _ _ rfl) (i70u1 _)) rfl ?_
        refine WJ.hd (v := .int .i64 t70u1_Tick) 201 rfl rfl rfl rfl (fun ids H' fr => opD_load rfl (evV_eq _ _ _ _ _ rfl) ((p70u1.mono (Nat.zero_le _) (fr.abv.le (Nat.zero_le _))).load (d := 0) ag3 rfl)) rfl ?_
        subst hK31
        obtain rfl := endS (show some _ = some r from hp)
        exact WJ.rt 203 rfl rfl rfl (fun ids H' fr => ⟨fr.ext0, rfl⟩)
       ·exact WJ.goto 5 (j31 () hp) rfl rfl (by exact ⟨rfl, rfl, trivial⟩) rfl rfl rfl
   ·refine WJ.lp 200 (α := Nat × (List ViewT) × (List ViewT) × (Option Addr) × Nat × (Option Addr) × Nat × Hp) (fun y => [(0, .v (.slice y.2.2.2.1 y.2.1.length y.2.2.2.2.1)), (1, .v (.slice y.2.2.2.2.2.1 y.2.2.1.length y.2.2.2.2.2.2.1))]) (fun y => []) (fun y => [⟨some ⟨b12, 0, none⟩, 2, 1, [.slice a_x0 x0.length c_x0, .slice a_x1 x1.length c_x1]⟩]) (fun y => y.2.2.2.2.2.2.2) (fun y => y.1) (fun y => Option.bind (f29_l1 k y.1 y.2.1 y.2.2.1) K30 = some r ∧ SlF 0 y.2.2.2.2.2.2.2 ViewTC a_x0 c_x0 x0 ∧ SlF 0 y.2.2.2.2.2.2.2 ViewTC a_x1 c_x1 x1 ∧ SlF 0 y.2.2.2.2.2.2.2 ViewTC y.2.2.2.1 y.2.2.2.2.1 y.2.1 ∧ SlF 0 y.2.2.2.2.2.2.2 ViewTC y.2.2.2.2.2.1 y.2.2.2.2.2.2.1 y.2.2.1) (k, x0, x1, a_x0, c_x0, a_x1, c_x1, B2) rfl ⟨hp, gbg_x0, gbg_x1, gbg_x0, gbg_x1⟩ (by exact ⟨rfl, rfl, trivial⟩) rfl rfl rfl ?_
    rintro ⟨n, zal, zam, zce, zcf, zcg, zch, B3⟩ ⟨hp, gbg_x0, gbg_x1, zbk, zbl⟩ ih30
    show WJ _ _ _ B3 [⟨some ⟨b12, 0, none⟩, 2, 1, [.slice a_x0 x0.length c_x0, .slice a_x1 x1.length c_x1]⟩] _ _ ⟨[(0, .v (.slice zce zal.length zcf)), (1, .v (.slice zcg zam.length zch))], [], true, 0⟩
    replace hp : Option.bind (f29_l1 k n zal zam) K30 = some r := hp
    cases n with
    | zero => rw [f29_l1] at hp; exact (noS hp).elim
    | succ n =>
     rw [f29_l1] at hp
     refine WJ.dr 202 rfl gmix (by kernel_rfl) (by kernel_rfl) rfl ?_
     refine WD.ci hp rfl rfl rfl rfl rfl rfl rfl rfl rfl (fun hc29 hp => ?_) (fun hc29 hp => ?_)
     ·refine WD.ci hp rfl rfl rfl rfl rfl rfl rfl rfl rfl (fun hc33 hp => ?_) (fun hc33 hp => ?_)
      ·obtain ⟨⟨zee, zef, zeg, zeh, zei, zej⟩, e37, hp⟩ := bindS hp
       obtain ⟨b37, o37, cs37, i37, ⟨zf2, zf3, zf4, zf5, rfl, zcv, zcw⟩, p37⟩ := zbk.at e37 u23 sz48
       refine WD.hd (v := .pointer (some ⟨b37, o37, none⟩)) rfl rfl rfl rfl (fun _ _ _ _ _ => side_no) (fun ids H' fr => opD_indexAddr rfl (evV_eq _ _ _ _ _ rfl) (evV_eq _ _ _ _ _ rfl) (i37 _)) rfl ?_
       refine WD.hd (v := .agg ⟨[.int .i64 zee, .slice zf2 zef.length zf3, .slice zf4 zeg.length zf5, .int .u64 zeh, .int .u64 zei, .int .i64 zej]⟩) rfl rfl rfl rfl (fun _ _ _ _ _ => side_no) (fun ids H' fr => opD_load rfl (evV_eq _ _ _ _ _ rfl) ((p37.mono (Nat.zero_le _) (fr.abv.le (Nat.zero_le _))).loadN (d := 0) ag48 sz48 rfl rfl)) rfl ?_
       obtain ⟨⟨zek, zel, zem, zen, zeo, zep⟩, e40, hp⟩ := bindS hp
       obtain ⟨b40, o40, cs40, i40, ⟨zf6, zf7, zf8, zf9, rfl, zcx, zcy⟩, p40⟩ := zbl.at e40 u23 sz48
       refine WD.hd (v := .pointer (some ⟨b40, o40, none⟩)) rfl rfl rfl rfl (fun _ _ _ _ _ => side_no) (fun ids H' fr => opD_indexAddr rfl (evV_eq _ _ _ _ _ rfl) (evV_eq _ _ _ _ _ rfl) (i40 _)) rfl ?_
       refine WD.hd (v := .agg ⟨[.int .i64 zek, .slice zf6 zel.length zf7, .slice zf8 zem.length zf9, .int .u64 zen, .int .u64 zeo, .int .i64 zep]⟩) rfl rfl rfl rfl (fun _ _ _ _ _ => side_no) (fun ids H' fr => opD_load rfl (evV_eq _ _ _ _ _ rfl) ((p40.mono (Nat.zero_le _) (fr.abv.le (Nat.zero_le _))).loadN (d := 0) ag48 sz48 rfl rfl)) rfl ?_
       obtain ⟨t42, e42, hp⟩ := bindS hp
       refine WD.cl (R := R_4 t42) (fun hm h k => R_4.mono hm h k) rfl (fun ids H' fr => f63_ok (x0 := (ViewT.mk zee zef zeg zeh zei zej)) (x1 := (ViewT.mk zek zel zem zen zeo zep)) (zcv.mono (Nat.zero_le _) (fr.abv.le (Nat.zero_le _))) (zcw.mono (Nat.zero_le _) (fr.abv.le (Nat.zero_le _))) (zcx.mono (Nat.zero_le _) (fr.abv.le (Nat.zero_le _))) (zcy.mono (Nat.zero_le _) (fr.abv.le (Nat.zero_le _))) e42) ?_
       rintro v B4 ⟨abB4, ivB4⟩ rfl
       refine ⟨_, rfl, ?_⟩
       replace gbg_x0 := gbg_x0.mono (Nat.le_refl _) (abB4.le (Nat.zero_le _))
       replace gbg_x1 := gbg_x1.mono (Nat.le_refl _) (abB4.le (Nat.zero_le _))
       replace zbk := zbk.mono (Nat.le_refl _) (abB4.le (Nat.zero_le _))
       replace zbl := zbl.mono (Nat.le_refl _) (abB4.le (Nat.zero_le _))
       replace zcv := zcv.mono (Nat.le_refl _) (abB4.le (Nat.zero_le _))
       replace zcw := zcw.mono (Nat.le_refl _) (abB4.le (Nat.zero_le _))
       replace p37 := p37.mono (Nat.le_refl _) (abB4.le (Nat.zero_le _))
       replace zcx := zcx.mono (Nat.le_refl _) (abB4.le (Nat.zero_le _))
       replace zcy := zcy.mono (Nat.le_refl _) (abB4.le (Nat.zero_le _))
       replace p40 := p40.mono (Nat.le_refl _) (abB4.le (Nat.zero_le _))
       refine WD.done rfl ?_
       cases t42
       ·replace hp := (itS hp).2 Bool.false_ne_true
        exact WJ.goto 2 (j30 (zal, zam, zce, zcf, zcg, zch, B4) ⟨hp, gbg_x0, gbg_x1, zbk, zbl⟩) rfl rfl (by exact ⟨rfl, rfl, trivial⟩) rfl rfl rfl
       ·replace hp := (itS hp).1 rfl
        refine WJ.dr 203 rfl gmix (by kernel_rfl) (by kernel_rfl) rfl ?_
        obtain ⟨s45, e45, hp⟩ := bindS hp
        obtain ⟨a45, c45, sl45, g45⟩ := zbk.part e45 u23 sz48
        refine WD.hd (v := .slice a45 s45.length c45) rfl rfl rfl rfl (fun _ _ _ _ _ => side_no) (fun ids H' fr => opD_sl rfl (evV_eq _ _ _ _ _ rfl) (evV_eq _ _ _ _ _ rfl) (sl45 H' (fr.abv.le (Nat.zero_le _)) _ _ BdE.s BdE.z)) rfl ?_
        obtain ⟨s47, e47, hp⟩ := bindS hp
        obtain ⟨a47, c47, sl47, g47⟩ := zbl.part e47 u23 sz48
        refine WD.hd (v := .slice a47 s47.length c47) rfl rfl rfl rfl (fun _ _ _ _ _ => side_no) (fun ids H' fr => opD_sl rfl (evV_eq _ _ _ _ _ rfl) (evV_eq _ _ _ _ _ rfl) (sl47 H' (fr.abv.le (Nat.zero_le _)) _ _ BdE.s BdE.z)) rfl ?_
        refine WD.done rfl ?_
        exact WJ.ag 201 rfl (by exact ⟨rfl, rfl, trivial⟩) rfl rfl rfl (ih30 (n, s45, s47, a45, c45, a47, c47, B4) ⟨hp, gbg_x0, gbg_x1, g45, g47⟩ (Nat.lt_succ_self _))
      ·refine WD.done rfl ?_
       exact WJ.goto 2 (j30 (zal, zam, zce, zcf, zcg, zch, B3) ⟨hp, gbg_x0, gbg_x1, zbk, zbl⟩) rfl rfl (by exact ⟨rfl, rfl, trivial⟩) rfl rfl rfl
     ·refine WD.done rfl ?_
      exact WJ.goto 2 (j30 (zal, zam, zce, zcf, zcg, zch, B3) ⟨hp, gbg_x0, gbg_x1, zbk, zbl⟩) rfl rfl (by exact ⟨rfl, rfl, trivial⟩) rfl rfl rfl
/-! 55 tipstaff/tipstaffref38.replies -/
def f55_l1 (x0 : List Reply) : Nat → Int → Option ((Int) ⊕ (Unit))
 | 0, _ => none
 | n + 1, x3 =>
  if x3 < (x0.length : Int) then
   (rd x0 x3).bind fun t12 =>
   if t12.Port < 0 then
    some (Sum.inl (2 : Int))
   else
    (rd x0 x3).bind fun t19 =>
    if t19.Port ≥ 24 then
     some (Sum.inl (2 : Int))
    else
     (rd x0 x3).bind fun t27 =>
     if t27.Code < 1 then
      some (Sum.inl (2 : Int))
     else
      (rd x0 x3).bind fun t35 =>
      if t35.Code > 6 then
       some (Sum.inl (2 : Int))
      else
       f55_l1 x0 n (IntKind.i64.wrap (x3 + 1))
  else
   some (Sum.inr ())
def f55 (k : Nat) (x0 : List Reply) : Option Int :=
 (f55_l1 x0 k 0).bind fun s => match s with
  | .inl st => some st
  | .inr _ => 
   some 0
set_option maxHeartbeats 40000000 in
set_option maxRecDepth 20000 in
theorem f55_ok {k : Nat} {H : Hp} {a_x0 : Option Addr} {c_x0 : Nat} {x0 : List Reply} {r : Int} (g_x0 : SlF 0 H ReplyC a_x0 c_x0 x0) (hp : f55 k x0 = some r) :
  SCall Tryz.prog 55 [.slice a_x0 x0.length c_x0] H (Ret fun v H' => Ext H H' ∧ R_24 r H.next H' v) := by
 unfold f55 at hp
 replace hp := topS hp
 refine SCall.g Tryz.func55 rfl rfl rfl rfl rfl (l := [(0, .v (.slice a_x0 x0.length c_x0))]) (fun _ => rfl) (fun B abB => ?_)
 refine WJ.adv 10 rfl ?_
 obtain ⟨K32, hK32, hp⟩ : ∃ K, K = _ ∧ Option.bind _ K = some r := ⟨_, rfl, cutS hp⟩
 refine WJ.cut 2 (α := Unit) (fun y => []) (fun y => []) (fun y => []) (fun y => B) (fun y => K32 (Sum.inr ()) = some r) ?_ (fun j32 => ?_)
 ·rintro u hp
  subst hK32
  show WJ _ _ _ B [] _ _ ⟨[], [], true, 0⟩
  obtain rfl := endS (show some _ = some r from hp)
  exact WJ.rt 204 rfl rfl rfl (fun ids H' fr => ⟨fr.ext0, rfl⟩)
 ·refine WJ.lp 200 (α := Nat × Int) (fun y => [(0, .v (.slice a_x0 x0.length c_x0)), (3, .v (.int .i64 y.2))]) (fun y => []) (fun y => []) (fun y => B) (fun y => y.1) (fun y => Option.bind (f55_l1 x0 y.1 y.2) K32 = some r) (k, 0) rfl hp (by exact ⟨rfl, rfl, trivial⟩) rfl rfl rfl ?_
  rintro ⟨n, x3⟩ hp ih32
  show WJ _ _ _ B [] _ _ ⟨[(0, .v (.slice a_x0 x0.length c_x0)), (3, .v (.int .i64 x3))], [], true, 0⟩
  replace hp : Option.bind (f55_l1 x0 n x3) K32 = some r := hp
  cases n with
  | zero => rw [f55_l1] at hp; exact (noS hp).elim
  | succ n =>
   rw [f55_l1] at hp
   refine WJ.ci 206 hp rfl rfl rfl rfl rfl rfl rfl rfl rfl (fun hc7 hp => ?_) (fun hc7 hp => ?_)
   ·obtain ⟨⟨zga, zip⟩, e12, hp⟩ := bindS hp
    obtain ⟨b12, o12, cs12, i12, rfl, p12⟩ := g_x0.at e12 u44 sz87
    refine WJ.hd (v := .pointer (some ⟨b12, o12, none⟩)) 209 rfl rfl rfl rfl (fun ids H' fr => opD_indexAddr rfl (evV_eq _ _ _ _ _ rfl) (evV_eq _ _ _ _ _ rfl) (i12 _)) rfl ?_
    refine WJ.hd (v := .int .i64 zga) 201 rfl rfl rfl rfl (fun ids H' fr => opD_load rfl (evV_eq _ _ _ _ _ rfl) ((p12.mono (Nat.zero_le _) fr.ext0.abv).load (d := 0) ag3 rfl)) rfl ?_
    refine WJ.ci 200 hp rfl rfl rfl rfl rfl rfl rfl rfl rfl (fun hc15 hp => ?_) (fun hc15 hp => ?_)
    ·subst hK32
     obtain rfl := endS (show some _ = some r from hp)
     exact WJ.rt 230 rfl rfl rfl (fun ids H' fr => ⟨fr.ext0, rfl⟩)
    ·obtain ⟨⟨zgb, ziq⟩, e19, hp⟩ := bindS hp
     obtain ⟨b19, o19, cs19, i19, rfl, p19⟩ := g_x0.at e19 u44 sz87
     refine WJ.hd (v := .pointer (some ⟨b19, o19, none⟩)) 203 rfl rfl rfl rfl (fun ids H' fr => opD_indexAddr rfl (evV_eq _ _ _ _ _ rfl) (evV_eq _ _ _ _ _ rfl) (i19 _)) rfl ?_
     refine WJ.hd (v := .int .i64 zgb) 201 rfl rfl rfl rfl (fun ids H' fr => opD_load rfl (evV_eq _ _ _ _ _ rfl) ((p19.mono (Nat.zero_le _) fr.ext0.abv).load (d := 0) ag3 rfl)) rfl ?_
     refine WJ.ci 200 hp rfl rfl rfl rfl rfl rfl rfl rfl rfl (fun hc22 hp => ?_) (fun hc22 hp => ?_)
     ·subst hK32
      obtain rfl := endS (show some _ = some r from hp)
      exact WJ.rt 223 rfl rfl rfl (fun ids H' fr => ⟨fr.ext0, rfl⟩)
     ·obtain ⟨⟨zir, zgc⟩, e27, hp⟩ := bindS hp
      obtain ⟨b27, o27, cs27, i27, rfl, p27⟩ := g_x0.at e27 u44 sz87
      refine WJ.hd (v := .pointer (some ⟨b27, o27, none⟩)) 204 rfl rfl rfl rfl (fun ids H' fr => opD_indexAddr rfl (evV_eq _ _ _ _ _ rfl) (evV_eq _ _ _ _ _ rfl) (i27 _)) rfl ?_
      refine WJ.hd (v := .int .i64 zgc) 201 rfl rfl rfl rfl (fun ids H' fr => opD_load rfl (evV_eq _ _ _ _ _ rfl) ((p27.mono (Nat.zero_le _) fr.ext0.abv).load (d := 1) ag3 rfl)) rfl ?_
      refine WJ.ci 200 hp rfl rfl rfl rfl rfl rfl rfl rfl rfl (fun hc30 hp => ?_) (fun hc30 hp => ?_)
      ·subst hK32
       obtain rfl := endS (show some _ = some r from hp)
       exact WJ.rt 215 rfl rfl rfl (fun ids H' fr => ⟨fr.ext0, rfl⟩)
      ·obtain ⟨⟨zis, zgd⟩, e35, hp⟩ := bindS hp
       obtain ⟨b35, o35, cs35, i35, rfl, p35⟩ := g_x0.at e35 u44 sz87
       refine WJ.hd (v := .pointer (some ⟨b35, o35, none⟩)) 204 rfl rfl rfl rfl (fun ids H' fr => opD_indexAddr rfl (evV_eq _ _ _ _ _ rfl) (evV_eq _ _ _ _ _ rfl) (i35 _)) rfl ?_
       refine WJ.hd (v := .int .i64 zgd) 201 rfl rfl rfl rfl (fun ids H' fr => opD_load rfl (evV_eq _ _ _ _ _ rfl) ((p35.mono (Nat.zero_le _) fr.ext0.abv).load (d := 1) ag3 rfl)) rfl ?_
       refine WJ.ci 200 hp rfl rfl rfl rfl rfl rfl rfl rfl rfl (fun hc38 hp => ?_) (fun hc38 hp => ?_)
       ·subst hK32
        obtain rfl := endS (show some _ = some r from hp)
        exact WJ.rt 207 rfl rfl rfl (fun ids H' fr => ⟨fr.ext0, rfl⟩)
       ·exact WJ.ag 210 rfl (by exact ⟨rfl, rfl, trivial⟩) rfl rfl rfl (ih32 (n, IntKind.i64.wrap (x3 + 1)) hp (Nat.lt_succ_self _))
   ·exact WJ.goto 3 (j32 () hp) rfl rfl (by exact trivial) rfl rfl rfl
/-! 56 tipstaff/tipstaffref38.sights -/
def f56_l1 (x0 : List Sight) : Nat → Int → Option ((Int) ⊕ (Unit))
 | 0, _ => none
 | n + 1, x3 =>
  if x3 < (x0.length : Int) then
   (rd x0 x3).bind fun t12 =>
   if t12.Floor < (-1) then
    some (Sum.inl (2 : Int))
   else
    (rd x0 x3).bind fun t19 =>
    if t19.Floor ≥ 64 then
     some (Sum.inl (2 : Int))
    else
     (rd x0 x3).bind fun t27 =>
     if t27.Panel < 0 then
      some (Sum.inl (2 : Int))
     else
      (rd x0 x3).bind fun t35 =>
      if t35.Panel > 20 then
       some (Sum.inl (2 : Int))
      else
       f56_l1 x0 n (IntKind.i64.wrap (x3 + 1))
  else
   some (Sum.inr ())
def f56 (k : Nat) (x0 : List Sight) : Option Int :=
 (f56_l1 x0 k 0).bind fun s => match s with
  | .inl st => some st
  | .inr _ => 
   some 0
set_option maxHeartbeats 40000000 in
set_option maxRecDepth 20000 in
theorem f56_ok {k : Nat} {H : Hp} {a_x0 : Option Addr} {c_x0 : Nat} {x0 : List Sight} {r : Int} (g_x0 : SlF 0 H SightC a_x0 c_x0 x0) (hp : f56 k x0 = some r) :
  SCall Tryz.prog 56 [.slice a_x0 x0.length c_x0] H (Ret fun v H' => Ext H H' ∧ R_24 r H.next H' v) := by
 unfold f56 at hp
 replace hp := topS hp
 refine SCall.g Tryz.func56 rfl rfl rfl rfl rfl (l := [(0, .v (.slice a_x0 x0.length c_x0))]) (fun _ => rfl) (fun B abB => ?_)
 refine WJ.adv 10 rfl ?_
 obtain ⟨K33, hK33, hp⟩ : ∃ K, K = _ ∧ Option.bind _ K = some r := ⟨_, rfl, cutS hp⟩
 refine WJ.cut 2 (α := Unit) (fun y => []) (fun y => []) (fun y => []) (fun y => B) (fun y => K33 (Sum.inr ()) = some r) ?_ (fun j33 => ?_)
 ·rintro u hp
  subst hK33
  show WJ _ _ _ B [] _ _ ⟨[], [], true, 0⟩
  obtain rfl := endS (show some _ = some r from hp)
  exact WJ.rt 204 rfl rfl rfl (fun ids H' fr => ⟨fr.ext0, rfl⟩)
 ·refine WJ.lp 200 (α := Nat × Int) (fun y => [(0, .v (.slice a_x0 x0.length c_x0)), (3, .v (.int .i64 y.2))]) (fun y => []) (fun y => []) (fun y => B) (fun y => y.1) (fun y => Option.bind (f56_l1 x0 y.1 y.2) K33 = some r) (k, 0) rfl hp (by exact ⟨rfl, rfl, trivial⟩) rfl rfl rfl ?_
  rintro ⟨n, x3⟩ hp ih33
  show WJ _ _ _ B [] _ _ ⟨[(0, .v (.slice a_x0 x0.length c_x0)), (3, .v (.int .i64 x3))], [], true, 0⟩
  replace hp : Option.bind (f56_l1 x0 n x3) K33 = some r := hp
  cases n with
  | zero => rw [f56_l1] at hp; exact (noS hp).elim
  | succ n =>
   rw [f56_l1] at hp
   refine WJ.ci 206 hp rfl rfl rfl rfl rfl rfl rfl rfl rfl (fun hc7 hp => ?_) (fun hc7 hp => ?_)
   ·obtain ⟨⟨zge, zit, ziu⟩, e12, hp⟩ := bindS hp
    obtain ⟨b12, o12, cs12, i12, rfl, p12⟩ := g_x0.at e12 u45 sz84
    refine WJ.hd (v := .pointer (some ⟨b12, o12, none⟩)) 209 rfl rfl rfl rfl (fun ids H' fr => opD_indexAddr rfl (evV_eq _ _ _ _ _ rfl) (evV_eq _ _ _ _ _ rfl) (i12 _)) rfl ?_
    refine WJ.hd (v := .int .i64 zge) 201 rfl rfl rfl rfl (fun ids H' fr => opD_load rfl (evV_eq _ _ _ _ _ rfl) ((p12.mono (Nat.zero_le _) fr.ext0.abv).load (d := 0) ag3 rfl)) rfl ?_
    refine WJ.ci 200 hp rfl rfl rfl rfl rfl rfl rfl rfl rfl (fun hc15 hp => ?_) (fun hc15 hp => ?_)
    ·subst hK33
     obtain rfl := endS (show some _ = some r from hp)
     exact WJ.rt 230 rfl rfl rfl (fun ids H' fr => ⟨fr.ext0, rfl⟩)
    ·obtain ⟨⟨zci, zcz, zc0⟩, e19, hp⟩ := bindS hp
     obtain ⟨b19, o19, cs19, i19, rfl, p19⟩ := g_x0.at e19 u45 sz84
     refine WJ.hd (v := .pointer (some ⟨b19, o19, none⟩)) 203 rfl rfl rfl rfl (fun ids H' fr => opD_indexAddr rfl (evV_eq _ _ _ _ _ rfl) (evV_eq _ _ _ _ _ rfl) (i19 _)) rfl ?_
     refine WJ.hd (v := .int .i64 zci) 201 rfl rfl rfl rfl (fun ids H' fr => opD_load rfl (evV_eq _ _ _ _ _ rfl) ((p19.mono (Nat.zero_le _) fr.ext0.abv).load (d := 0) ag3 rfl)) rfl ?_
     refine WJ.ci 200 hp rfl rfl rfl rfl rfl rfl rfl rfl rfl (fun hc22 hp => ?_) (fun hc22 hp => ?_)
     ·subst hK33
      obtain rfl := endS (show some _ = some r from hp)
      exact WJ.rt 223 rfl rfl rfl (fun ids H' fr => ⟨fr.ext0, rfl⟩)
     ·obtain ⟨⟨ziv, zgf, ziw⟩, e27, hp⟩ := bindS hp
      obtain ⟨b27, o27, cs27, i27, rfl, p27⟩ := g_x0.at e27 u45 sz84
      refine WJ.hd (v := .pointer (some ⟨b27, o27, none⟩)) 204 rfl rfl rfl rfl (fun ids H' fr => opD_indexAddr rfl (evV_eq _ _ _ _ _ rfl) (evV_eq _ _ _ _ _ rfl) (i27 _)) rfl ?_
      refine WJ.hd (v := .int .i64 zgf) 201 rfl rfl rfl rfl (fun ids H' fr => opD_load rfl (evV_eq _ _ _ _ _ rfl) ((p27.mono (Nat.zero_le _) fr.ext0.abv).load (d := 1) ag3 rfl)) rfl ?_
      refine WJ.ci 200 hp rfl rfl rfl rfl rfl rfl rfl rfl rfl (fun hc30 hp => ?_) (fun hc30 hp => ?_)
      ·subst hK33
       obtain rfl := endS (show some _ = some r from hp)
       exact WJ.rt 215 rfl rfl rfl (fun ids H' fr => ⟨fr.ext0, rfl⟩)
      ·obtain ⟨⟨zix, zgg, ziy⟩, e35, hp⟩ := bindS hp
       obtain ⟨b35, o35, cs35, i35, rfl, p35⟩ := g_x0.at e35 u45 sz84
       refine WJ.hd (v := .pointer (some ⟨b35, o35, none⟩)) 204 rfl rfl rfl rfl (fun ids H' fr => opD_indexAddr rfl (evV_eq _ _ _ _ _ rfl) (evV_eq _ _ _ _ _ rfl) (i35 _)) rfl ?_
       refine WJ.hd (v := .int .i64 zgg) 201 rfl rfl rfl rfl (fun ids H' fr => opD_load rfl (evV_eq _ _ _ _ _ rfl) ((p35.mono (Nat.zero_le _) fr.ext0.abv).load (d := 1) ag3 rfl)) rfl ?_
       refine WJ.ci 200 hp rfl rfl rfl rfl rfl rfl rfl rfl rfl (fun hc38 hp => ?_) (fun hc38 hp => ?_)
       ·subst hK33
        obtain rfl := endS (show some _ = some r from hp)
        exact WJ.rt 207 rfl rfl rfl (fun ids H' fr => ⟨fr.ext0, rfl⟩)
       ·exact WJ.ag 210 rfl (by exact ⟨rfl, rfl, trivial⟩) rfl rfl rfl (ih33 (n, IntKind.i64.wrap (x3 + 1)) hp (Nat.lt_succ_self _))
   ·exact WJ.goto 3 (j33 () hp) rfl rfl (by exact trivial) rfl rfl rfl
/-! 20 tipstaff/tipstaffref38.Check -/
def f20_l1 (k : Nat) (x0 : List ViewT) : Nat → Int → Option ((Int × Int) ⊕ (Unit))
 | 0, _ => none
 | n + 1, x4 =>
  if x4 < (x0.length : Int) then
   (rd x0 x4).bind fun t17 =>
   (if x4 = 0 then
    if t17.Tick < 0 then
     some (Sum.inl ((2, x4) : Int × Int))
    else
     if t17.Tick > 1099511622776 then
      some (Sum.inl ((2, x4) : Int × Int))
     else
      if x4 > 0 then
       (rd x0 (IntKind.i64.wrap (x4 - 1))).bind fun t42 =>
       if t17.Tick = (IntKind.i64.wrap (t42.Tick + 1)) then
        if (t17.Sights.length : Int) < 1 then
         some (Sum.inl ((3, x4) : Int × Int))
        else
         if (t17.Sights.length : Int) > 8 then
          some (Sum.inl ((3, x4) : Int × Int))
         else
          (rd x0 0).bind fun t65 =>
          if (t17.Sights.length : Int) = (t65.Sights.length : Int) then
           if (t17.Replies.length : Int) > 50 then
            some (Sum.inl ((4, x4) : Int × Int))
           else
            (f55 k t17.Replies).bind fun t81 =>
            if t81 = 0 then
             (f56 k t17.Sights).bind fun t86 =>
             if t86 = 0 then
              if t17.Word < (-1) then
               some (Sum.inl ((2, x4) : Int × Int))
              else
               if t17.Word > 255 then
                some (Sum.inl ((2, x4) : Int × Int))
               else
                some (Sum.inr ())
             else
              some (Sum.inl ((2, x4) : Int × Int))
            else
             some (Sum.inl ((2, x4) : Int × Int))
          else
           some (Sum.inl ((3, x4) : Int × Int))
       else
        some (Sum.inl ((8, x4) : Int × Int))
      else
       if (t17.Sights.length : Int) < 1 then
        some (Sum.inl ((3, x4) : Int × Int))
       else
        if (t17.Sights.length : Int) > 8 then
         some (Sum.inl ((3, x4) : Int × Int))
        else
         (rd x0 0).bind fun t65 =>
         if (t17.Sights.length : Int) = (t65.Sights.length : Int) then
          if (t17.Replies.length : Int) > 50 then
           some (Sum.inl ((4, x4) : Int × Int))
          else
           (f55 k t17.Replies).bind fun t81 =>
           if t81 = 0 then
            (f56 k t17.Sights).bind fun t86 =>
            if t86 = 0 then
             if t17.Word < (-1) then
              some (Sum.inl ((2, x4) : Int × Int))
             else
              if t17.Word > 255 then
               some (Sum.inl ((2, x4) : Int × Int))
              else
               some (Sum.inr ())
            else
             some (Sum.inl ((2, x4) : Int × Int))
           else
            some (Sum.inl ((2, x4) : Int × Int))
         else
          some (Sum.inl ((3, x4) : Int × Int))
   else
    if x4 > 0 then
     (rd x0 (IntKind.i64.wrap (x4 - 1))).bind fun t42 =>
     if t17.Tick = (IntKind.i64.wrap (t42.Tick + 1)) then
      if (t17.Sights.length : Int) < 1 then
       some (Sum.inl ((3, x4) : Int × Int))
      else
       if (t17.Sights.length : Int) > 8 then
        some (Sum.inl ((3, x4) : Int × Int))
       else
        (rd x0 0).bind fun t65 =>
        if (t17.Sights.length : Int) = (t65.Sights.length : Int) then
         if (t17.Replies.length : Int) > 50 then
          some (Sum.inl ((4, x4) : Int × Int))
         else
          (f55 k t17.Replies).bind fun t81 =>
          if t81 = 0 then
           (f56 k t17.Sights).bind fun t86 =>
           if t86 = 0 then
            if t17.Word < (-1) then
             some (Sum.inl ((2, x4) : Int × Int))
            else
             if t17.Word > 255 then
              some (Sum.inl ((2, x4) : Int × Int))
             else
              some (Sum.inr ())
           else
            some (Sum.inl ((2, x4) : Int × Int))
          else
           some (Sum.inl ((2, x4) : Int × Int))
        else
         some (Sum.inl ((3, x4) : Int × Int))
     else
      some (Sum.inl ((8, x4) : Int × Int))
    else
     if (t17.Sights.length : Int) < 1 then
      some (Sum.inl ((3, x4) : Int × Int))
     else
      if (t17.Sights.length : Int) > 8 then
       some (Sum.inl ((3, x4) : Int × Int))
      else
       (rd x0 0).bind fun t65 =>
       if (t17.Sights.length : Int) = (t65.Sights.length : Int) then
        if (t17.Replies.length : Int) > 50 then
         some (Sum.inl ((4, x4) : Int × Int))
        else
         (f55 k t17.Replies).bind fun t81 =>
         if t81 = 0 then
          (f56 k t17.Sights).bind fun t86 =>
          if t86 = 0 then
           if t17.Word < (-1) then
            some (Sum.inl ((2, x4) : Int × Int))
           else
            if t17.Word > 255 then
             some (Sum.inl ((2, x4) : Int × Int))
            else
             some (Sum.inr ())
          else
           some (Sum.inl ((2, x4) : Int × Int))
         else
          some (Sum.inl ((2, x4) : Int × Int))
       else
        some (Sum.inl ((3, x4) : Int × Int))).bind fun s => match s with
    | .inl st => some (Sum.inl st)
    | .inr _ => 
     f20_l1 k x0 n (IntKind.i64.wrap (x4 + 1))
  else
   some (Sum.inr ())
def f20 (k : Nat) (x0 : List ViewT) : Option (Int × Int) :=
 if (x0.length : Int) > 5000 then
  some (4, 0)
 else
  (f20_l1 k x0 k 0).bind fun s => match s with
   | .inl st => some st
   | .inr _ => 
    some (0, 0)
set_option maxHeartbeats 40000000 in
set_option maxRecDepth 20000 in
theorem f20_ok {k : Nat} {H : Hp} {a_x0 : Option Addr} {c_x0 : Nat} {x0 : List ViewT} {r : Int × Int} (g_x0 : SlF 0 H ViewTC a_x0 c_x0 x0) (hp : f20 k x0 = some r) :
  SCall Tryz.prog 20 [.slice a_x0 x0.length c_x0] H (Ret fun v H' => Ext H H' ∧ R_24_3 r H.next H' v) := by
 unfold f20 at hp
 replace hp := topS hp
 refine SCall.g Tryz.func20 rfl rfl rfl rfl rfl (l := [(0, .v (.slice a_x0 x0.length c_x0))]) (fun _ => rfl) (fun B abB => ?_)
 refine WJ.ci 210 hp rfl rfl rfl rfl rfl rfl rfl rfl rfl (fun hc8 hp => ?_) (fun hc8 hp => ?_)
 ·obtain rfl := endS (show some _ = some r from hp)
  exact WJ.rt 207 rfl rfl rfl (fun ids H' fr => ⟨fr.ext0, rfl⟩)
 ·refine WJ.adv 9 rfl ?_
  obtain ⟨K34, hK34, hp⟩ : ∃ K, K = _ ∧ Option.bind _ K = some r := ⟨_, rfl, cutS hp⟩
  refine WJ.cut 2 (α := Hp) (fun y => []) (fun y => []) (fun y => []) (fun y => y) (fun y => K34 (Sum.inr ()) = some r) ?_ (fun j34 => ?_)
  ·rintro B11 hp
   subst hK34
   show WJ _ _ _ B11 [] _ _ ⟨[], [], true, 0⟩
   obtain rfl := endS (show some _ = some r from hp)
   exact WJ.rt 205 rfl rfl rfl (fun ids H' fr => ⟨fr.ext0, rfl⟩)
  ·refine WJ.lp 200 (α := Nat × Int × Hp) (fun y => [(0, .v (.slice a_x0 x0.length c_x0)), (4, .v (.int .i64 y.2.1))]) (fun y => []) (fun y => []) (fun y => y.2.2) (fun y => y.1) (fun y => Option.bind (f20_l1 k x0 y.1 y.2.1) K34 = some r) (k, 0, B) rfl hp (by exact ⟨rfl, rfl, trivial⟩) rfl rfl rfl ?_
   rintro ⟨n, x4, B1⟩ hp ih34
   show WJ _ _ _ B1 [] _ _ ⟨[(0, .v (.slice a_x0 x0.length c_x0)), (4, .v (.int .i64 x4))], [], true, 0⟩
   replace hp : Option.bind (f20_l1 k x0 n x4) K34 = some r := hp
   cases n with
   | zero => rw [f20_l1] at hp; exact (noS hp).elim
   | succ n =>
    rw [f20_l1] at hp
    refine WJ.ci 206 hp rfl rfl rfl rfl rfl rfl rfl rfl rfl (fun hc12 hp => ?_) (fun hc12 hp => ?_)
    ·obtain ⟨⟨zc1, zc2, zc3, zc4, zc5, zc6⟩, e17, hp⟩ := bindS hp
     obtain ⟨b17, o17, cs17, i17, ⟨zc7, zc8, zc9, zda, rfl, zcj, zck⟩, p17⟩ := g_x0.at e17 u23 sz48
     refine WJ.hd (v := .pointer (some ⟨b17, o17, none⟩)) 209 rfl rfl rfl rfl (fun ids H' fr => opD_indexAddr rfl (evV_eq _ _ _ _ _ rfl) (evV_eq _ _ _ _ _ rfl) (i17 _)) rfl ?_
     refine WJ.hd (v := .agg ⟨[.int .i64 zc1, .slice zc7 zc2.length zc8, .slice zc9 zc3.length zda, .int .u64 zc4, .int .u64 zc5, .int .i64 zc6]⟩) 200 rfl rfl rfl rfl (fun ids H' fr => opD_load rfl (evV_eq _ _ _ _ _ rfl) ((p17.mono (Nat.zero_le _) fr.ext0.abv).loadN (d := 0) ag48 sz48 rfl rfl)) rfl ?_
     refine WJ.adv 5 rfl ?_
     obtain ⟨K35, hK35, hp⟩ : ∃ K, K = _ ∧ Option.bind _ K = some r := ⟨_, rfl, cutS hp⟩
     refine WJ.cut 4 (α := Hp) (fun y => [(0, .v (.slice a_x0 x0.length c_x0)), (4, .v (.int .i64 x4))]) (fun y => [[.int .i64 zc1, .slice zc7 zc2.length zc8, .slice zc9 zc3.length zda, .int .u64 zc4, .int .u64 zc5, .int .i64 zc6]]) (fun y => []) (fun y => y) (fun y => K35 ((Sum.inr ())) = some r) ?_ (fun j35 => ?_)
     ·rintro B10 hp
      subst hK35
      show WJ _ _ _ B10 [] _ _ ⟨[(0, .v (.slice a_x0 x0.length c_x0)), (4, .v (.int .i64 x4))], [[.int .i64 zc1, .slice zc7 zc2.length zc8, .slice zc9 zc3.length zda, .int .u64 zc4, .int .u64 zc5, .int .i64 zc6]], true, 0⟩
      exact WJ.ag 205 rfl (by exact ⟨rfl, rfl, trivial⟩) rfl rfl rfl (ih34 (n, IntKind.i64.wrap (x4 + 1), B10) hp (Nat.lt_succ_self _))
     ·refine WJ.ci 202 hp rfl rfl rfl rfl rfl rfl rfl rfl rfl (fun hc21 hp => ?_) (fun hc21 hp => ?_)
      ·refine WJ.ci 203 hp rfl rfl rfl rfl rfl rfl rfl rfl rfl (fun hc25 hp => ?_) (fun hc25 hp => ?_)
       ·subst hK35
        subst hK34
        obtain rfl := endS (show some _ = some r from hp)
        exact WJ.rt 215 rfl rfl rfl (fun ids H' fr => ⟨fr.ext0, rfl⟩)
       ·refine WJ.ci 203 hp rfl rfl rfl rfl rfl rfl rfl rfl rfl (fun hc29 hp => ?_) (fun hc29 hp => ?_)
        ·subst hK35
         subst hK34
         obtain rfl := endS (show some _ = some r from hp)
         exact WJ.rt 211 rfl rfl rfl (fun ids H' fr => ⟨fr.ext0, rfl⟩)
        ·refine WJ.dr 206 rfl gmix (by kernel_rfl) (by kernel_rfl) rfl ?_
         refine WD.ci hp rfl rfl rfl rfl rfl rfl rfl rfl rfl (fun hc35 hp => ?_) (fun hc35 hp => ?_)
         ·obtain ⟨⟨zac, zag, zah, zai, zaj, zak⟩, e42, hp⟩ := bindS hp
          obtain ⟨b42, o42, cs42, i42, ⟨zau, zav, zaw, zax, rfl, zcl, zcm⟩, p42⟩ := g_x0.at e42 u23 sz48
          refine WD.hd (v := .pointer (some ⟨b42, o42, none⟩)) rfl rfl rfl rfl (fun _ _ _ _ _ => side_no) (fun ids H' fr => opD_indexAddr rfl (evV_eq _ _ _ _ _ rfl) (evV_eq _ _ _ _ _ rfl) (i42 _)) rfl ?_
          refine WD.hd (v := .int .i64 zac) rfl rfl rfl rfl (fun _ _ _ _ _ => side_no) (fun ids H' fr => opD_load rfl (evV_eq _ _ _ _ _ rfl) ((p42.mono (Nat.zero_le _) fr.ext0.abv).load (d := 0) ag3 rfl)) rfl ?_
          refine WD.cn hp rfl rfl rfl rfl rfl rfl rfl rfl rfl (fun hc46 hp => ?_) (fun hc46 hp => ?_)
          ·refine WD.done rfl ?_
           subst hK35
           subst hK34
           obtain rfl := endS (show some _ = some r from hp)
           exact WJ.rt 207 rfl rfl rfl (fun ids H' fr => ⟨fr.ext0, rfl⟩)
          ·refine WD.done rfl ?_
           refine WJ.dr 202 rfl gmix (by kernel_rfl) (by kernel_rfl) rfl ?_
           refine WD.ci hp rfl rfl rfl rfl rfl rfl rfl rfl rfl (fun hc53 hp => ?_) (fun hc53 hp => ?_)
           ·refine WD.done rfl ?_
            subst hK35
            subst hK34
            obtain rfl := endS (show some _ = some r from hp)
            exact WJ.rt 207 rfl rfl rfl (fun ids H' fr => ⟨fr.ext0, rfl⟩)
           ·refine WD.ci hp rfl rfl rfl rfl rfl rfl rfl rfl rfl (fun hc58 hp => ?_) (fun hc58 hp => ?_)
            ·refine WD.done rfl ?_
             subst hK35
             subst hK34
             obtain rfl := endS (show some _ = some r from hp)
             exact WJ.rt 207 rfl rfl rfl (fun ids H' fr => ⟨fr.ext0, rfl⟩)
            ·obtain ⟨⟨zdb, zdc, zbm, zdd, zde, zdf⟩, e65, hp⟩ := bindS hp
             obtain ⟨b65, o65, cs65, i65, ⟨zdg, zdh, zbn, zbo, rfl, zdi, zdj⟩, p65⟩ := g_x0.at e65 u23 sz48
             refine WD.hd (v := .pointer (some ⟨b65, o65, none⟩)) rfl rfl rfl rfl (fun _ _ _ _ _ => side_no) (fun ids H' fr => opD_indexAddr rfl (evV_eq _ _ _ _ _ rfl) (evV_eq _ _ _ _ _ rfl) (i65 _)) rfl ?_
             refine WD.hd (v := .slice zbn zbm.length zbo) rfl rfl rfl rfl (fun _ _ _ _ _ => side_no) (fun ids H' fr => opD_load rfl (evV_eq _ _ _ _ _ rfl) ((p65.mono (Nat.zero_le _) fr.ext0.abv).load (d := 2) ag45 rfl)) rfl ?_
             refine WD.cn hp rfl rfl rfl rfl rfl rfl rfl rfl rfl (fun hc69 hp => ?_) (fun hc69 hp => ?_)
             ·refine WD.done rfl ?_
              subst hK35
              subst hK34
              obtain rfl := endS (show some _ = some r from hp)
              exact WJ.rt 207 rfl rfl rfl (fun ids H' fr => ⟨fr.ext0, rfl⟩)
             ·refine WD.done rfl ?_
              refine WJ.ci 206 hp rfl rfl rfl rfl rfl rfl rfl rfl rfl (fun hc76 hp => ?_) (fun hc76 hp => ?_)
              ·subst hK35
               subst hK34
               obtain rfl := endS (show some _ = some r from hp)
               exact WJ.rt 209 rfl rfl rfl (fun ids H' fr => ⟨fr.ext0, rfl⟩)
              ·obtain ⟨t81, e81, hp⟩ := bindS hp
               refine WJ.cl 207 (R := R_24 t81) (fun hm h k => R_24.mono hm h k) rfl (fun ids H' fr => f55_ok (zcj.mono (Nat.zero_le _) fr.ext0.abv) e81) ?_
               rintro v B2 ⟨abB2, ivB2⟩ rfl
               refine ⟨_, rfl, ?_⟩
               refine WJ.cn 200 hp rfl rfl rfl rfl rfl rfl rfl rfl rfl (fun hc82 hp => ?_) (fun hc82 hp => ?_)
               ·subst hK35
                subst hK34
                obtain rfl := endS (show some _ = some r from hp)
                exact WJ.rt 225 rfl rfl rfl (fun ids H' fr => ⟨fr.ext0, rfl⟩)
               ·obtain ⟨t86, e86, hp⟩ := bindS hp
                refine WJ.cl 203 (R := R_24 t86) (fun hm h k => R_24.mono hm h k) rfl (fun ids H' fr => f56_ok (zck.mono (Nat.zero_le _) fr.ext0.abv) e86) ?_
                rintro v B3 ⟨abB3, ivB3⟩ rfl
                refine ⟨_, rfl, ?_⟩
                refine WJ.cn 200 hp rfl rfl rfl rfl rfl rfl rfl rfl rfl (fun hc87 hp => ?_) (fun hc87 hp => ?_)
                ·subst hK35
                 subst hK34
                 obtain rfl := endS (show some _ = some r from hp)
                 exact WJ.rt 220 rfl rfl rfl (fun ids H' fr => ⟨fr.ext0, rfl⟩)
                ·refine WJ.ci 204 hp rfl rfl rfl rfl rfl rfl rfl rfl rfl (fun hc92 hp => ?_) (fun hc92 hp => ?_)
                 ·subst hK35
                  subst hK34
                  obtain rfl := endS (show some _ = some r from hp)
                  exact WJ.rt 215 rfl rfl rfl (fun ids H' fr => ⟨fr.ext0, rfl⟩)
                 ·refine WJ.ci 204 hp rfl rfl rfl rfl rfl rfl rfl rfl rfl (fun hc97 hp => ?_) (fun hc97 hp => ?_)
                  ·subst hK35
                   subst hK34
                   obtain rfl := endS (show some _ = some r from hp)
                   exact WJ.rt 210 rfl rfl rfl (fun ids H' fr => ⟨fr.ext0, rfl⟩)
                  ·exact WJ.goto 7 (j35 B3 hp) rfl rfl (by exact ⟨rfl, rfl, trivial⟩) rfl rfl rfl
         ·refine WD.done rfl ?_
          refine WJ.dr 202 rfl gmix (by kernel_rfl) (by kernel_rfl) rfl ?_
          refine WD.ci hp rfl rfl rfl rfl rfl rfl rfl rfl rfl (fun hc53 hp => ?_) (fun hc53 hp => ?_)
          ·refine WD.done rfl ?_
           subst hK35
           subst hK34
           obtain rfl := endS (show some _ = some r from hp)
           exact WJ.rt 207 rfl rfl rfl (fun ids H' fr => ⟨fr.ext0, rfl⟩)
          ·refine WD.ci hp rfl rfl rfl rfl rfl rfl rfl rfl rfl (fun hc58 hp => ?_) (fun hc58 hp => ?_)
           ·refine WD.done rfl ?_
            subst hK35
            subst hK34
            obtain rfl := endS (show some _ = some r from hp)
            exact WJ.rt 207 rfl rfl rfl (fun ids H' fr => ⟨fr.ext0, rfl⟩)
           ·obtain ⟨⟨zdb, zdc, zbm, zdd, zde, zdf⟩, e65, hp⟩ := bindS hp
            obtain ⟨b65, o65, cs65, i65, ⟨zdg, zdh, zbn, zbo, rfl, zdi, zdj⟩, p65⟩ := g_x0.at e65 u23 sz48
            refine WD.hd (v := .pointer (some ⟨b65, o65, none⟩)) rfl rfl rfl rfl (fun _ _ _ _ _ => side_no) (fun ids H' fr => opD_indexAddr rfl (evV_eq _ _ _ _ _ rfl) (evV_eq _ _ _ _ _ rfl) (i65 _)) rfl ?_
            refine WD.hd (v := .slice zbn zbm.length zbo) rfl rfl rfl rfl (fun _ _ _ _ _ => side_no) (fun ids H' fr => opD_load rfl (evV_eq _ _ _ _ _ rfl) ((p65.mono (Nat.zero_le _) fr.ext0.abv).load (d := 2) ag45 rfl)) rfl ?_
            refine WD.cn hp rfl rfl rfl rfl rfl rfl rfl rfl rfl (fun hc69 hp => ?_) (fun hc69 hp => ?_)
            ·refine WD.done rfl ?_
             subst hK35
             subst hK34
             obtain rfl := endS (show some _ = some r from hp)
             exact WJ.rt 207 rfl rfl rfl (fun ids H' fr => ⟨fr.ext0, rfl⟩)
            ·refine WD.done rfl ?_
             refine WJ.ci 206 hp rfl rfl rfl rfl rfl rfl rfl rfl rfl (fun hc76 hp => ?_) (fun hc76 hp => ?_)
             ·subst hK35
              subst hK34
              obtain rfl := endS (show some _ = some r from hp)
              exact WJ.rt 209 rfl rfl rfl (fun ids H' fr => ⟨fr.ext0, rfl⟩)
             ·obtain ⟨t81, e81, hp⟩ := bindS hp
              refine WJ.cl 207 (R := R_24 t81) (fun hm h k => R_24.mono hm h k) rfl (fun ids H' fr => f55_ok (zcj.mono (Nat.zero_le _) fr.ext0.abv) e81) ?_
              rintro v B4 ⟨abB4, ivB4⟩ rfl
              refine ⟨_, rfl, ?_⟩
              refine WJ.cn 200 hp rfl rfl rfl rfl rfl rfl rfl rfl rfl (fun hc82 hp => ?_) (fun hc82 hp => ?_)
              ·subst hK35
               subst hK34
               obtain rfl := endS (show some _ = some r from hp)
               exact WJ.rt 225 rfl rfl rfl (fun ids H' fr => ⟨fr.ext0, rfl⟩)
              ·obtain ⟨t86, e86, hp⟩ := bindS hp
               refine WJ.cl 203 (R := R_24 t86) (fun hm h k => R_24.mono hm h k) rfl (fun ids H' fr => f56_ok (zck.mono (Nat.zero_le _) fr.ext0.abv) e86) ?_
               rintro v B5 ⟨abB5, ivB5⟩ rfl
               refine ⟨_, rfl, ?_⟩
               refine WJ.cn 200 hp rfl rfl rfl rfl rfl rfl rfl rfl rfl (fun hc87 hp => ?_) (fun hc87 hp => ?_)
               ·subst hK35
                subst hK34
                obtain rfl := endS (show some _ = some r from hp)
                exact WJ.rt 220 rfl rfl rfl (fun ids H' fr => ⟨fr.ext0, rfl⟩)
               ·refine WJ.ci 204 hp rfl rfl rfl rfl rfl rfl rfl rfl rfl (fun hc92 hp => ?_) (fun hc92 hp => ?_)
                ·subst hK35
                 subst hK34
                 obtain rfl := endS (show some _ = some r from hp)
                 exact WJ.rt 215 rfl rfl rfl (fun ids H' fr => ⟨fr.ext0, rfl⟩)
                ·refine WJ.ci 204 hp rfl rfl rfl rfl rfl rfl rfl rfl rfl (fun hc97 hp => ?_) (fun hc97 hp => ?_)
                 ·subst hK35
                  subst hK34
                  obtain rfl := endS (show some _ = some r from hp)
                  exact WJ.rt 210 rfl rfl rfl (fun ids H' fr => ⟨fr.ext0, rfl⟩)
                 ·exact WJ.goto 7 (j35 B5 hp) rfl rfl (by exact ⟨rfl, rfl, trivial⟩) rfl rfl rfl
      ·refine WJ.dr 214 rfl gmix (by kernel_rfl) (by kernel_rfl) rfl ?_
       refine WD.ci hp rfl rfl rfl rfl rfl rfl rfl rfl rfl (fun hc35 hp => ?_) (fun hc35 hp => ?_)
       ·obtain ⟨⟨zac, zag, zah, zai, zaj, zak⟩, e42, hp⟩ := bindS hp
        obtain ⟨b42, o42, cs42, i42, ⟨zau, zav, zaw, zax, rfl, zcl, zcm⟩, p42⟩ := g_x0.at e42 u23 sz48
        refine WD.hd (v := .pointer (some ⟨b42, o42, none⟩)) rfl rfl rfl rfl (fun _ _ _ _ _ => side_no) (fun ids H' fr => opD_indexAddr rfl (evV_eq _ _ _ _ _ rfl) (evV_eq _ _ _ _ _ rfl) (i42 _)) rfl ?_
        refine WD.hd (v := .int .i64 zac) rfl rfl rfl rfl (fun _ _ _ _ _ => side_no) (fun ids H' fr => opD_load rfl (evV_eq _ _ _ _ _ rfl) ((p42.mono (Nat.zero_le _) fr.ext0.abv).load (d := 0) ag3 rfl)) rfl ?_
        refine WD.cn hp rfl rfl rfl rfl rfl rfl rfl rfl rfl (fun hc46 hp => ?_) (fun hc46 hp => ?_)
        ·refine WD.done rfl ?_
         subst hK35
         subst hK34
         obtain rfl := endS (show some _ = some r from hp)
         exact WJ.rt 207 rfl rfl rfl (fun ids H' fr => ⟨fr.ext0, rfl⟩)
        ·refine WD.done rfl ?_
         refine WJ.dr 202 rfl gmix (by kernel_rfl) (by kernel_rfl) rfl ?_
         refine WD.ci hp rfl rfl rfl rfl rfl rfl rfl rfl rfl (fun hc53 hp => ?_) (fun hc53 hp => ?_)
         ·refine WD.done rfl ?_
          subst hK35
          subst hK34
          obtain rfl := endS (show some _ = some r from hp)
          exact WJ.rt 207 rfl rfl rfl (fun ids H' fr => ⟨fr.ext0, rfl⟩)
         ·refine WD.ci hp rfl rfl rfl rfl rfl rfl rfl rfl rfl (fun hc58 hp => ?_) (fun hc58 hp => ?_)
          ·refine WD.done rfl ?_
           subst hK35
           subst hK34
           obtain rfl := endS (show some _ = some r from hp)
           exact WJ.rt 207 rfl rfl rfl (fun ids H' fr => ⟨fr.ext0, rfl⟩)
          ·obtain ⟨⟨zdb, zdc, zbm, zdd, zde, zdf⟩, e65, hp⟩ := bindS hp
           obtain ⟨b65, o65, cs65, i65, ⟨zdg, zdh, zbn, zbo, rfl, zdi, zdj⟩, p65⟩ := g_x0.at e65 u23 sz48
           refine WD.hd (v := .pointer (some ⟨b65, o65, none⟩)) rfl rfl rfl rfl (fun _ _ _ _ _ => side_no) (fun ids H' fr => opD_indexAddr rfl (evV_eq _ _ _ _ _ rfl) (evV_eq _ _ _ _ _ rfl) (i65 _)) rfl ?_
           refine WD.hd (v := .slice zbn zbm.length zbo) rfl rfl rfl rfl (fun _ _ _ _ _ => side_no) (fun ids H' fr => opD_load rfl (evV_eq _ _ _ _ _ rfl) ((p65.mono (Nat.zero_le _) fr.ext0.abv).load (d := 2) ag45 rfl)) rfl ?_
           refine WD.cn hp rfl rfl rfl rfl rfl rfl rfl rfl rfl (fun hc69 hp => ?_) (fun hc69 hp => ?_)
           ·refine WD.done rfl ?_
            subst hK35
            subst hK34
            obtain rfl := endS (show some _ = some r from hp)
            exact WJ.rt 207 rfl rfl rfl (fun ids H' fr => ⟨fr.ext0, rfl⟩)
           ·refine WD.done rfl ?_
            refine WJ.ci 206 hp rfl rfl rfl rfl rfl rfl rfl rfl rfl (fun hc76 hp => ?_) (fun hc76 hp => ?_)
            ·subst hK35
             subst hK34
             obtain rfl := endS (show some _ = some r from hp)
             exact WJ.rt 209 rfl rfl rfl (fun ids H' fr => ⟨fr.ext0, rfl⟩)
            ·obtain ⟨t81, e81, hp⟩ := bindS hp
             refine WJ.cl 207 (R := R_24 t81) (fun hm h k => R_24.mono hm h k) rfl (fun ids H' fr => f55_ok (zcj.mono (Nat.zero_le _) fr.ext0.abv) e81) ?_
             rintro v B6 ⟨abB6, ivB6⟩ rfl
             refine ⟨_, rfl, ?_⟩
             refine WJ.cn 200 hp rfl rfl rfl rfl rfl rfl rfl rfl rfl (fun hc82 hp => ?_) (fun hc82 hp => ?_)
             ·subst hK35
              subst hK34
              obtain rfl := endS (show some _ = some r from hp)
              exact WJ.rt 225 rfl rfl rfl (fun ids H' fr => ⟨fr.ext0, rfl⟩)
             ·obtain ⟨t86, e86, hp⟩ := bindS hp
              refine WJ.cl 203 (R := R_24 t86) (fun hm h k => R_24.mono hm h k) rfl (fun ids H' fr => f56_ok (zck.mono (Nat.zero_le _) fr.ext0.abv) e86) ?_
              rintro v B7 ⟨abB7, ivB7⟩ rfl
              refine ⟨_, rfl, ?_⟩
              refine WJ.cn 200 hp rfl rfl rfl rfl rfl rfl rfl rfl rfl (fun hc87 hp => ?_) (fun hc87 hp => ?_)
              ·subst hK35
               subst hK34
               obtain rfl := endS (show some _ = some r from hp)
               exact WJ.rt 220 rfl rfl rfl (fun ids H' fr => ⟨fr.ext0, rfl⟩)
              ·refine WJ.ci 204 hp rfl rfl rfl rfl rfl rfl rfl rfl rfl (fun hc92 hp => ?_) (fun hc92 hp => ?_)
               ·subst hK35
                subst hK34
                obtain rfl := endS (show some _ = some r from hp)
                exact WJ.rt 215 rfl rfl rfl (fun ids H' fr => ⟨fr.ext0, rfl⟩)
               ·refine WJ.ci 204 hp rfl rfl rfl rfl rfl rfl rfl rfl rfl (fun hc97 hp => ?_) (fun hc97 hp => ?_)
                ·subst hK35
                 subst hK34
                 obtain rfl := endS (show some _ = some r from hp)
                 exact WJ.rt 210 rfl rfl rfl (fun ids H' fr => ⟨fr.ext0, rfl⟩)
                ·exact WJ.goto 7 (j35 B7 hp) rfl rfl (by exact ⟨rfl, rfl, trivial⟩) rfl rfl rfl
       ·refine WD.done rfl ?_
        refine WJ.dr 202 rfl gmix (by kernel_rfl) (by kernel_rfl) rfl ?_
        refine WD.ci hp rfl rfl rfl rfl rfl rfl rfl rfl rfl (fun hc53 hp => ?_) (fun hc53 hp => ?_)
        ·refine WD.done rfl ?_
         subst hK35
         subst hK34
         obtain rfl := endS (show some _ = some r from hp)
         exact WJ.rt 207 rfl rfl rfl (fun ids H' fr => ⟨fr.ext0, rfl⟩)
        ·refine WD.ci hp rfl rfl rfl rfl rfl rfl rfl rfl rfl (fun hc58 hp => ?_) (fun hc58 hp => ?_)
         ·refine WD.done rfl ?_
          subst hK35
          subst hK34
          obtain rfl := endS (show some _ = some r from hp)
          exact WJ.rt 207 rfl rfl rfl (fun ids H' fr => ⟨fr.ext0, rfl⟩)
         ·obtain ⟨⟨zdb, zdc, zbm, zdd, zde, zdf⟩, e65, hp⟩ := bindS hp
          obtain ⟨b65, o65, cs65, i65, ⟨zdg, zdh, zbn, zbo, rfl, zdi, zdj⟩, p65⟩ := g_x0.at e65 u23 sz48
          refine WD.hd (v := .pointer (some ⟨b65, o65, none⟩)) rfl rfl rfl rfl (fun _ _ _ _ _ => side_no) (fun ids H' fr => opD_indexAddr rfl (evV_eq _ _ _ _ _ rfl) (evV_eq _ _ _ _ _ rfl) (i65 _)) rfl ?_
          refine WD.hd (v := .slice zbn zbm.length zbo) rfl rfl rfl rfl (fun _ _ _ _ _ => side_no) (fun ids H' fr => opD_load rfl (evV_eq _ _ _ _ _ rfl) ((p65.mono (Nat.zero_le _) fr.ext0.abv).load (d := 2) ag45 rfl)) rfl ?_
          refine WD.cn hp rfl rfl rfl rfl rfl rfl rfl rfl rfl (fun hc69 hp => ?_) (fun hc69 hp => ?_)
          ·refine WD.done rfl ?_
           subst hK35
           subst hK34
           obtain rfl := endS (show some _ = some r from hp)
           exact WJ.rt 207 rfl rfl rfl (fun ids H' fr => ⟨fr.ext0, rfl⟩)
          ·refine WD.done rfl ?_
           refine WJ.ci 206 hp rfl rfl rfl rfl rfl rfl rfl rfl rfl (fun hc76 hp => ?_) (fun hc76 hp => ?_)
           ·subst hK35
            subst hK34
            obtain rfl := endS (show some _ = some r from hp)
            exact WJ.rt 209 rfl rfl rfl (fun ids H' fr => ⟨fr.ext0, rfl⟩)
           ·obtain ⟨t81, e81, hp⟩ := bindS hp
            refine WJ.cl 207 (R := R_24 t81) (fun hm h k => R_24.mono hm h k) rfl (fun ids H' fr => f55_ok (zcj.mono (Nat.zero_le _) fr.ext0.abv) e81) ?_
            rintro v B8 ⟨abB8, ivB8⟩ rfl
            refine ⟨_, rfl, ?_⟩
            refine WJ.cn 200 hp rfl rfl rfl rfl rfl rfl rfl rfl rfl (fun hc82 hp => ?_) (fun hc82 hp => ?_)
            ·subst hK35
             subst hK34
             obtain rfl := endS (show some _ = some r from hp)
             exact WJ.rt 225 rfl rfl rfl (fun ids H' fr => ⟨fr.ext0, rfl⟩)
            ·obtain ⟨t86, e86, hp⟩ := bindS hp
             refine WJ.cl 203 (R := R_24 t86) (fun hm h k => R_24.mono hm h k) rfl (fun ids H' fr => f56_ok (zck.mono (Nat.zero_le _) fr.ext0.abv) e86) ?_
             rintro v B9 ⟨abB9, ivB9⟩ rfl
             refine ⟨_, rfl, ?_⟩
             refine WJ.cn 200 hp rfl rfl rfl rfl rfl rfl rfl rfl rfl (fun hc87 hp => ?_) (fun hc87 hp => ?_)
             ·subst hK35
              subst hK34
              obtain rfl := endS (show some _ = some r from hp)
              exact WJ.rt 220 rfl rfl rfl (fun ids H' fr => ⟨fr.ext0, rfl⟩)
             ·refine WJ.ci 204 hp rfl rfl rfl rfl rfl rfl rfl rfl rfl (fun hc92 hp => ?_) (fun hc92 hp => ?_)
              ·subst hK35
               subst hK34
               obtain rfl := endS (show some _ = some r from hp)
               exact WJ.rt 215 rfl rfl rfl (fun ids H' fr => ⟨fr.ext0, rfl⟩)
              ·refine WJ.ci 204 hp rfl rfl rfl rfl rfl rfl rfl rfl rfl (fun hc97 hp => ?_) (fun hc97 hp => ?_)
               ·subst hK35
                subst hK34
                obtain rfl := endS (show some _ = some r from hp)
                exact WJ.rt 210 rfl rfl rfl (fun ids H' fr => ⟨fr.ext0, rfl⟩)
               ·exact WJ.goto 7 (j35 B9 hp) rfl rfl (by exact ⟨rfl, rfl, trivial⟩) rfl rfl rfl
    ·exact WJ.goto 3 (j34 B1 hp) rfl rfl (by exact trivial) rfl rfl rfl
end
end Go.Proofs.YtppedainpmjbmaaGreatDoor
set_option linter.unusedVariables false
set_option linter.unusedSimpArgs false
namespace Go.Proofs.YtppedainpmjbmaaGreatDoor
open Go Go.Det Go.RowKit
noncomputable section
/-! 105 tipstaff/tipstaffref38.equal -/
def f105_l2 (zs : List Sight) (z6 : List Sight) : Nat → Int → Option ((Bool) ⊕ (Unit))
 | 0, _ => none
 | n + 1, x6 =>
  if x6 < (zs.length : Int) then
   (rd zs x6).bind fun t79 =>
   (rd z6 x6).bind fun t84 =>
   if t79 = t84 then
    f105_l2 zs z6 n (IntKind.i64.wrap (x6 + 1))
   else
    some (Sum.inl (false : Bool))
  else
   some (Sum.inr ())
def f105_l1 (zn : List Reply) (zv : List Reply) : Nat → Int → Option ((Bool) ⊕ (Unit))
 | 0, _ => none
 | n + 1, x5 =>
  if x5 < (zn.length : Int) then
   (rd zn x5).bind fun t61 =>
   (rd zv x5).bind fun t66 =>
   if t61 = t66 then
    f105_l1 zn zv n (IntKind.i64.wrap (x5 + 1))
   else
    some (Sum.inl (false : Bool))
  else
   some (Sum.inr ())
def f105 (k : Nat) (x0 : ViewT) (x1 : ViewT) : Option Bool :=
 if x0.Tick = x1.Tick then
  if x0.Up = x1.Up then
   if x0.Down = x1.Down then
    if x0.Word = x1.Word then
     if (x0.Replies.length : Int) = (x1.Replies.length : Int) then
      if (x0.Sights.length : Int) = (x1.Sights.length : Int) then
       (f105_l1 x0.Replies x1.Replies k 0).bind fun s => match s with
        | .inl st => some st
        | .inr _ => 
         (f105_l2 x0.Sights x1.Sights k 0).bind fun s => match s with
          | .inl st => some st
          | .inr _ => 
           some true
      else
       some false
     else
      some false
    else
     some false
   else
    some false
  else
   some false
 else
  some false
set_option maxHeartbeats 40000000 in
set_option maxRecDepth 20000 in
theorem f105_ok {k : Nat} {H : Hp} {zo : Option Addr} {zp : Nat} {zq : Option Addr} {zr : Nat} {zw : Option Addr} {zx : Nat} {zy : Option Addr} {zz : Nat} {x0 : ViewT} {x1 : ViewT} {r : Bool} (za6 : SlF 0 H ReplyC zo zp x0.Replies) (za7 : SlF 0 H SightC zq zr x0.Sights) (zb9 : SlF 0 H ReplyC zw zx x1.Replies) (zca : SlF 0 H SightC zy zz x1.Sights) (hp : f105 k x0 x1 = some r) :
  SCall Tryz.prog 105 [.agg ⟨[.int .i64 x0.Tick, .slice zo x0.Replies.length zp, .slice zq x0.Sights.length zr, .int .u64 x0.Up, .int .u64 x0.Down, .int .i64 x0.Word]⟩, .agg ⟨[.int .i64 x1.Tick, .slice zw x1.Replies.length zx, .slice zy x1.Sights.length zz, .int .u64 x1.Up, .int .u64 x1.Down, .int .i64 x1.Word]⟩] H (Ret fun v H' => Ext H H' ∧ R_4 r H.next H' v) := by
 obtain ⟨z0, zn, zs, z1, z2, z3⟩ := x0
 obtain ⟨z8, zv, z6, z9, zaa, zab⟩ := x1
 unfold f105 at hp
 replace hp := topS hp
 refine SCall.g Tryz.func105 rfl rfl rfl rfl rfl (l := [(0, .v (.agg ⟨[.int .i64 z0, .slice zo zn.length zp, .slice zq zs.length zr, .int .u64 z1, .int .u64 z2, .int .i64 z3]⟩)), (1, .v (.agg ⟨[.int .i64 z8, .slice zw zv.length zx, .slice zy z6.length zz, .int .u64 z9, .int .u64 zaa, .int .i64 zab]⟩))]) (fun _ => rfl) (fun B abB => ?_)
 refine WJ.cn 213 hp rfl rfl rfl rfl rfl rfl rfl rfl rfl (fun hc11 hp => ?_) (fun hc11 hp => ?_)
 ·obtain rfl := endS (show some _ = some r from hp)
  exact WJ.rt 245 rfl rfl rfl (fun ids H' fr => ⟨fr.ext0, rfl⟩)
 ·refine WJ.cn 205 hp rfl rfl rfl rfl rfl rfl rfl rfl rfl (fun hc17 hp => ?_) (fun hc17 hp => ?_)
  ·obtain rfl := endS (show some _ = some r from hp)
   exact WJ.rt 239 rfl rfl rfl (fun ids H' fr => ⟨fr.ext0, rfl⟩)
  ·refine WJ.cn 206 hp rfl rfl rfl rfl rfl rfl rfl rfl rfl (fun hc24 hp => ?_) (fun hc24 hp => ?_)
   ·obtain rfl := endS (show some _ = some r from hp)
    exact WJ.rt 232 rfl rfl rfl (fun ids H' fr => ⟨fr.ext0, rfl⟩)
   ·refine WJ.cn 206 hp rfl rfl rfl rfl rfl rfl rfl rfl rfl (fun hc31 hp => ?_) (fun hc31 hp => ?_)
    ·obtain rfl := endS (show some _ = some r from hp)
     exact WJ.rt 225 rfl rfl rfl (fun ids H' fr => ⟨fr.ext0, rfl⟩)
    ·refine WJ.cn 208 hp rfl rfl rfl rfl rfl rfl rfl rfl rfl (fun hc40 hp => ?_) (fun hc40 hp => ?_)
     ·obtain rfl := endS (show some _ = some r from hp)
      exact WJ.rt 216 rfl rfl rfl (fun ids H' fr => ⟨fr.ext0, rfl⟩)
     ·refine WJ.cn 208 hp rfl rfl rfl rfl rfl rfl rfl rfl rfl (fun hc49 hp => ?_) (fun hc49 hp => ?_)
      ·obtain rfl := endS (show some _ = some r from hp)
       exact WJ.rt 207 rfl rfl rfl (fun ids H' fr => ⟨fr.ext0, rfl⟩)
      ·refine WJ.adv 10 rfl ?_
       obtain ⟨K36, hK36, hp⟩ : ∃ K, K = _ ∧ Option.bind _ K = some r := ⟨_, rfl, cutS hp⟩
       refine WJ.cut 2 (α := Unit) (fun y => [(2, .p 0 0), (3, .p 1 0)]) (fun y => [[.int .i64 z0, .slice zo zn.length zp, .slice zq zs.length zr, .int .u64 z1, .int .u64 z2, .int .i64 z3], [.int .i64 z8, .slice zw zv.length zx, .slice zy z6.length zz, .int .u64 z9, .int .u64 zaa, .int .i64 zab]]) (fun y => []) (fun y => B) (fun y => K36 (Sum.inr ()) = some r) ?_ (fun j36 => ?_)
       ·rintro u hp
        subst hK36
        show WJ _ _ _ B [] _ _ ⟨[(2, .p 0 0), (3, .p 1 0)], [[.int .i64 z0, .slice zo zn.length zp, .slice zq zs.length zr, .int .u64 z1, .int .u64 z2, .int .i64 z3], [.int .i64 z8, .slice zw zv.length zx, .slice zy z6.length zz, .int .u64 z9, .int .u64 zaa, .int .i64 zab]], true, 0⟩
        refine WJ.adv 6 rfl ?_
        obtain ⟨K37, hK37, hp⟩ : ∃ K, K = _ ∧ Option.bind _ K = some r := ⟨_, rfl, cutS hp⟩
        refine WJ.cut 2 (α := Unit) (fun y => []) (fun y => [[.int .i64 z0, .slice zo zn.length zp, .slice zq zs.length zr, .int .u64 z1, .int .u64 z2, .int .i64 z3], [.int .i64 z8, .slice zw zv.length zx, .slice zy z6.length zz, .int .u64 z9, .int .u64 zaa, .int .i64 zab]]) (fun y => []) (fun y => B) (fun y => K37 (Sum.inr ()) = some r) ?_ (fun j37 => ?_)
        ·rintro u hp
         subst hK37
         show WJ _ _ _ B [] _ _ ⟨[], [[.int .i64 z0, .slice zo zn.length zp, .slice zq zs.length zr, .int .u64 z1, .int .u64 z2, .int .i64 z3], [.int .i64 z8, .slice zw zv.length zx, .slice zy z6.length zz, .int .u64 z9, .int .u64 zaa, .int .i64 zab]], true, 0⟩
         obtain rfl := endS (show some _ = some r from hp)
         exact WJ.rt 204 rfl rfl rfl (fun ids H' fr => ⟨fr.ext0, rfl⟩)
        ·refine WJ.lp 200 (α := Nat × Int) (fun y => [(2, .p 0 0), (3, .p 1 0), (6, .v (.int .i64 y.2))]) (fun y => [[.int .i64 z0, .slice zo zn.length zp, .slice zq zs.length zr, .int .u64 z1, .int .u64 z2, .int .i64 z3], [.int .i64 z8, .slice zw zv.length zx, .slice zy z6.length zz, .int .u64 z9, .int .u64 zaa, .int .i64 zab]]) (fun y => []) (fun y => B) (fun y => y.1) (fun y => Option.bind (f105_l2 zs z6 y.1 y.2) K37 = some r) (k, 0) rfl hp (by exact ⟨rfl, rfl, rfl, trivial⟩) rfl rfl rfl ?_
         rintro ⟨n, x6⟩ hp ih37
         show WJ _ _ _ B [] _ _ ⟨[(2, .p 0 0), (3, .p 1 0), (6, .v (.int .i64 x6))], [[.int .i64 z0, .slice zo zn.length zp, .slice zq zs.length zr, .int .u64 z1, .int .u64 z2, .int .i64 z3], [.int .i64 z8, .slice zw zv.length zx, .slice zy z6.length zz, .int .u64 z9, .int .u64 zaa, .int .i64 zab]], true, 0⟩
         replace hp : Option.bind (f105_l2 zs z6 n x6) K37 = some r := hp
         cases n with
         | zero => rw [f105_l2] at hp; exact (noS hp).elim
         | succ n =>
          rw [f105_l2] at hp
          refine WJ.ci 207 hp rfl rfl rfl rfl rfl rfl rfl rfl rfl (fun hc73 hp => ?_) (fun hc73 hp => ?_)
          ·refine WJ.dr 206 rfl gmix (by kernel_rfl) (by kernel_rfl) rfl ?_
           obtain ⟨⟨zeq, zer, zes⟩, e79, hp⟩ := bindS hp
           obtain ⟨b79, o79, cs79, i79, rfl, p79⟩ := za7.at e79 u45 sz84
           refine WD.hd (v := .pointer (some ⟨b79, o79, none⟩)) rfl rfl rfl rfl (fun _ _ _ _ _ => side_no) (fun ids H' fr => opD_indexAddr rfl (evV_eq _ _ _ _ _ rfl) (evV_eq _ _ _ _ _ rfl) (i79 _)) rfl ?_
           refine WD.hd (v := .agg ⟨[.int .i64 zeq, .int .i64 zer, .bool zes]⟩) rfl rfl rfl rfl (fun _ _ _ _ _ => side_no) (fun ids H' fr => opD_load rfl (evV_eq _ _ _ _ _ rfl) ((p79.mono (Nat.zero_le _) fr.ext0.abv).loadN (d := 0) ag84 sz84 rfl rfl)) rfl ?_
           obtain ⟨⟨zet, zeu, zev⟩, e84, hp⟩ := bindS hp
           obtain ⟨b84, o84, cs84, i84, rfl, p84⟩ := zca.at e84 u45 sz84
           refine WD.hd (v := .pointer (some ⟨b84, o84, none⟩)) rfl rfl rfl rfl (fun _ _ _ _ _ => side_no) (fun ids H' fr => opD_indexAddr rfl (evV_eq _ _ _ _ _ rfl) (evV_eq _ _ _ _ _ rfl) (i84 _)) rfl ?_
           refine WD.hd (v := .agg ⟨[.int .i64 zet, .int .i64 zeu, .bool zev]⟩) rfl rfl rfl rfl (fun _ _ _ _ _ => side_no) (fun ids H' fr => opD_load rfl (evV_eq _ _ _ _ _ rfl) ((p84.mono (Nat.zero_le _) fr.ext0.abv).loadN (d := 0) ag84 sz84 rfl rfl)) rfl ?_
           refine WD.cn hp rfl rfl rfl rfl rfl rfl (opD_neS rfl rfl rfl rfl gd84 (eq84 zeq zer zes zet zeu zev)) rfl rfl (fun hc86 hp => ?_) (fun hc86 hp => ?_)
           ·refine WD.done rfl ?_
            subst hK37
            obtain rfl := endS (show some _ = some r from hp)
            exact WJ.rt 205 rfl rfl rfl (fun ids H' fr => ⟨fr.ext0, rfl⟩)
           ·refine WD.done rfl ?_
            exact WJ.ag 208 rfl (by exact ⟨rfl, rfl, rfl, trivial⟩) rfl rfl rfl (ih37 (n, IntKind.i64.wrap (x6 + 1)) hp (Nat.lt_succ_self _))
          ·exact WJ.goto 3 (j37 () hp) rfl rfl (by exact trivial) rfl rfl rfl
       ·refine WJ.lp 200 (α := Nat × Int) (fun y => [(2, .p 0 0), (3, .p 1 0), (5, .v (.int .i64 y.2))]) (fun y => [[.int .i64 z0, .slice zo zn.length zp, .slice zq zs.length zr, .int .u64 z1, .int .u64 z2, .int .i64 z3], [.int .i64 z8, .slice zw zv.length zx, .slice zy z6.length zz, .int .u64 z9, .int .u64 zaa, .int .i64 zab]]) (fun y => []) (fun y => B) (fun y => y.1) (fun y => Option.bind (f105_l1 zn zv y.1 y.2) K36 = some r) (k, 0) rfl hp (by exact ⟨rfl, rfl, rfl, trivial⟩) rfl rfl rfl ?_
        rintro ⟨n, x5⟩ hp ih36
        show WJ _ _ _ B [] _ _ ⟨[(2, .p 0 0), (3, .p 1 0), (5, .v (.int .i64 x5))], [[.int .i64 z0, .slice zo zn.length zp, .slice zq zs.length zr, .int .u64 z1, .int .u64 z2, .int .i64 z3], [.int .i64 z8, .slice zw zv.length zx, .slice zy z6.length zz, .int .u64 z9, .int .u64 zaa, .int .i64 zab]], true, 0⟩
        replace hp : Option.bind (f105_l1 zn zv n x5) K36 = some r := hp
        cases n with
        | zero => rw [f105_l1] at hp; exact (noS hp).elim
        | succ n =>
         rw [f105_l1] at hp
         refine WJ.ci 207 hp rfl rfl rfl rfl rfl rfl rfl rfl rfl (fun hc55 hp => ?_) (fun hc55 hp => ?_)
         ·refine WJ.dr 206 rfl gmix (by kernel_rfl) (by kernel_rfl) rfl ?_
          obtain ⟨⟨zew, zex⟩, e61, hp⟩ := bindS hp
          obtain ⟨b61, o61, cs61, i61, rfl, p61⟩ := za6.at e61 u44 sz87
          refine WD.hd (v := .pointer (some ⟨b61, o61, none⟩)) rfl rfl rfl rfl (fun _ _ _ _ _ => side_no) (fun ids H' fr => opD_indexAddr rfl (evV_eq _ _ _ _ _ rfl) (evV_eq _ _ _ _ _ rfl) (i61 _)) rfl ?_
          refine WD.hd (v := .agg ⟨[.int .i64 zew, .int .i64 zex]⟩) rfl rfl rfl rfl (fun _ _ _ _ _ => side_no) (fun ids H' fr => opD_load rfl (evV_eq _ _ _ _ _ rfl) ((p61.mono (Nat.zero_le _) fr.ext0.abv).loadN (d := 0) ag87 sz87 rfl rfl)) rfl ?_
          obtain ⟨⟨zey, zez⟩, e66, hp⟩ := bindS hp
          obtain ⟨b66, o66, cs66, i66, rfl, p66⟩ := zb9.at e66 u44 sz87
          refine WD.hd (v := .pointer (some ⟨b66, o66, none⟩)) rfl rfl rfl rfl (fun _ _ _ _ _ => side_no) (fun ids H' fr => opD_indexAddr rfl (evV_eq _ _ _ _ _ rfl) (evV_eq _ _ _ _ _ rfl) (i66 _)) rfl ?_
          refine WD.hd (v := .agg ⟨[.int .i64 zey, .int .i64 zez]⟩) rfl rfl rfl rfl (fun _ _ _ _ _ => side_no) (fun ids H' fr => opD_load rfl (evV_eq _ _ _ _ _ rfl) ((p66.mono (Nat.zero_le _) fr.ext0.abv).loadN (d := 0) ag87 sz87 rfl rfl)) rfl ?_
          refine WD.cn hp rfl rfl rfl rfl rfl rfl (opD_neS rfl rfl rfl rfl gd87 (eq87 zew zex zey zez)) rfl rfl (fun hc68 hp => ?_) (fun hc68 hp => ?_)
          ·refine WD.done rfl ?_
           subst hK36
           obtain rfl := endS (show some _ = some r from hp)
           exact WJ.rt 205 rfl rfl rfl (fun ids H' fr => ⟨fr.ext0, rfl⟩)
          ·refine WD.done rfl ?_
           exact WJ.ag 208 rfl (by exact ⟨rfl, rfl, rfl, trivial⟩) rfl rfl rfl (ih36 (n, IntKind.i64.wrap (x5 + 1)) hp (Nat.lt_succ_self _))
         ·exact WJ.goto 3 (j36 () hp) rfl rfl (by exact ⟨rfl, rfl, trivial⟩) rfl rfl rfl
/-! 64 tipstaff/tipstaffref38.first -/
def f64_l1 (k : Nat) (x0 : List ViewT) (x1 : List ViewT) : Nat → Int → Int → Option (Int)
 | 0, _, _ => none
 | n + 1, zad, z7 =>
  if z7 < (x0.length : Int) then
   (rd x0 z7).bind fun t19 =>
   (if (x1.length : Int) = 0 then
    some (((0, [], [], 0, 0, 0, false) : Int × (List Reply) × (List Sight) × Int × Int × Int × Bool))
   else
    (rd x1 0).bind fun t12u1 =>
    if t19.Tick < t12u1.Tick then
     some (((0, [], [], 0, 0, 0, false) : Int × (List Reply) × (List Sight) × Int × Int × Int × Bool))
    else
     (rd x1 (IntKind.i64.wrap ((x1.length : Int) - 1))).bind fun t23 =>
     if t19.Tick > t23.Tick then
      some (((0, [], [], 0, 0, 0, false) : Int × (List Reply) × (List Sight) × Int × Int × Int × Bool))
     else
      (rd x1 0).bind fun t32 =>
      (rd x1 (IntKind.i64.wrap (t19.Tick - t32.Tick))).bind fun t36 =>
      some ((t36.Tick, t36.Replies, t36.Sights, t36.Up, t36.Down, t36.Word, true))).bind fun (x22_42_0_0, x22_42_0_1, x22_42_0_2, x22_42_0_3, x22_42_0_4, x22_42_0_5, x22_42_1) =>
    (if x22_42_1 then
     (rd x0 z7).bind fun t30u1 =>
     (f105 k t30u1 (ViewT.mk x22_42_0_0 x22_42_0_1 x22_42_0_2 x22_42_0_3 x22_42_0_4 x22_42_0_5)).bind fun t33u1 =>
     if t33u1 then
      some (zad)
     else
      if zad < 0 then
       (rd x0 z7).bind fun t51u2 =>
       some (t51u2.Tick)
      else
       (rd x0 z7).bind fun t42u1 =>
       if t42u1.Tick < zad then
        (rd x0 z7).bind fun t51u3 =>
        some (t51u3.Tick)
       else
        some (zad)
    else
     if zad < 0 then
      (rd x0 z7).bind fun t51 =>
      some (t51.Tick)
     else
      (rd x0 z7).bind fun t42 =>
      if t42.Tick < zad then
       (rd x0 z7).bind fun t51u1 =>
       some (t51u1.Tick)
      else
       some (zad)).bind fun x5_43 =>
     f64_l1 k x0 x1 n x5_43 (IntKind.i64.wrap (z7 + 1))
  else
   some (zad)
def f64 (k : Nat) (x0 : List ViewT) (x1 : List ViewT) : Option Int :=
 (f64_l1 k x0 x1 k (-1) 0).bind fun x5_41 =>
  some x5_41
set_option maxHeartbeats 40000000 in
set_option maxRecDepth 20000 in
theorem f64_ok {k : Nat} {H : Hp} {a_x0 : Option Addr} {c_x0 : Nat} {a_x1 : Option Addr} {c_x1 : Nat} {x0 : List ViewT} {x1 : List ViewT} {r : Int} (g_x0 : SlF 0 H ViewTC a_x0 c_x0 x0) (g_x1 : SlF 0 H ViewTC a_x1 c_x1 x1) (hp : f64 k x0 x1 = some r) :
  SCall Tryz.prog 64 [.slice a_x0 x0.length c_x0, .slice a_x1 x1.length c_x1] H (Ret fun v H' => Ext H H' ∧ R_3 r H.next H' v) := by
 unfold f64 at hp
 replace hp := topS hp
 refine SCall.g Tryz.func64 rfl rfl rfl rfl rfl (l := [(0, .v (.slice a_x0 x0.length c_x0)), (1, .v (.slice a_x1 x1.length c_x1))]) (fun _ => rfl) (fun B abB => ?_)
 have gbg_x0 := g_x0.mono (Nat.le_refl _) abB
 have gbg_x1 := g_x1.mono (Nat.le_refl _) abB
 refine WJ.adv 14 rfl ?_
 obtain ⟨K41, hK41, hp⟩ : ∃ K, K = _ ∧ Option.bind _ K = some r := ⟨_, rfl, cutS hp⟩
 refine WJ.cut 2 (α := Int × Hp) (fun y => [(5, .v (.int .i64 y.1))]) (fun y => []) (fun y => []) (fun y => y.2) (fun y => K41 (y.1) = some r ∧ SlF 0 y.2 ViewTC a_x0 c_x0 x0 ∧ SlF 0 y.2 ViewTC a_x1 c_x1 x1) ?_ (fun j41 => ?_)
 ·rintro ⟨x5_41, B5⟩ ⟨hp, gbg_x0, gbg_x1⟩
  subst hK41
  show WJ _ _ _ B5 [] _ _ ⟨[(5, .v (.int .i64 x5_41))], [], true, 0⟩
  obtain rfl := endS (show some _ = some r from hp)
  exact WJ.rt 205 rfl rfl rfl (fun ids H' fr => ⟨fr.ext0, rfl⟩)
 ·refine WJ.lp 200 (α := Nat × Int × Int × Hp) (fun y => [(0, .v (.slice a_x0 x0.length c_x0)), (1, .v (.slice a_x1 x1.length c_x1)), (5, .v (.int .i64 y.2.1)), (6, .v (.int .i64 y.2.2.1))]) (fun y => []) (fun y => []) (fun y => y.2.2.2) (fun y => y.1) (fun y => Option.bind (f64_l1 k x0 x1 y.1 y.2.1 y.2.2.1) K41 = some r ∧ SlF 0 y.2.2.2 ViewTC a_x0 c_x0 x0 ∧ SlF 0 y.2.2.2 ViewTC a_x1 c_x1 x1) (k, (-1), 0, B) rfl ⟨hp, gbg_x0, gbg_x1⟩ (by exact ⟨rfl, rfl, rfl, rfl, trivial⟩) rfl rfl rfl ?_
  rintro ⟨n, zad, z7, B1⟩ ⟨hp, gbg_x0, gbg_x1⟩ ih41
  show WJ _ _ _ B1 [] _ _ ⟨[(0, .v (.slice a_x0 x0.length c_x0)), (1, .v (.slice a_x1 x1.length c_x1)), (5, .v (.int .i64 zad)), (6, .v (.int .i64 z7))], [], true, 0⟩
  replace hp : Option.bind (f64_l1 k x0 x1 n zad z7) K41 = some r := hp
  cases n with
  | zero => rw [f64_l1] at hp; exact (noS hp).elim
  | succ n =>
   rw [f64_l1] at hp
   refine WJ.ci 206 hp rfl rfl rfl rfl rfl rfl rfl rfl rfl (fun hc12 hp => ?_) (fun hc12 hp => ?_)
   ·obtain ⟨⟨zcb, zcc, zcd, zdk, zdl, zdm⟩, e19, hp⟩ := bindS hp
    obtain ⟨b19, o19, cs19, i19, ⟨zcn, zco, zcp, zcq, rfl, zae, zaf⟩, p19⟩ := gbg_x0.at e19 u23 sz48
    refine WJ.hd (v := .pointer (some ⟨b19, o19, none⟩)) 210 rfl rfl rfl rfl (fun ids H' fr => opD_indexAddr rfl (evV_eq _ _ _ _ _ rfl) (evV_eq _ _ _ _ _ rfl) (i19 _)) rfl ?_
    refine WJ.hd (v := .int .i64 zcb) 201 rfl rfl rfl rfl (fun ids H' fr => opD_load rfl (evV_eq _ _ _ _ _ rfl) ((p19.mono (Nat.zero_le _) (fr.abv.le (Nat.zero_le _))).load (d := 0) ag3 rfl)) rfl ?_
    obtain ⟨K42, hK42, hp⟩ : ∃ K, K = _ ∧ Option.bind _ K = some r := ⟨_, rfl, cutS hp⟩
    refine WJ.inlC 200 (α := Int × (List Reply) × (List Sight) × Int × Int × Int × Bool × (Option Addr) × Nat × (Option Addr) × Nat × Hp) (fun y => [(0, .v (.slice a_x0 x0.length c_x0)), (1, .v (.slice a_x1 x1.length c_x1)), (5, .v (.int .i64 zad)), (6, .v (.int .i64 z7)), (22, .v (.tuple ⟨[.agg ⟨[.int .i64 y.1, .slice y.2.2.2.2.2.2.2.1 y.2.1.length y.2.2.2.2.2.2.2.2.1, .slice y.2.2.2.2.2.2.2.2.2.1 y.2.2.1.length y.2.2.2.2.2.2.2.2.2.2.1, .int .u64 y.2.2.2.1, .int .u64 y.2.2.2.2.1, .int .i64 y.2.2.2.2.2.1]⟩, .bool y.2.2.2.2.2.2.1]⟩))]) (fun y => []) (fun y => y.2.2.2.2.2.2.2.2.2.2.2) (fun y => K42 (((y.1, y.2.1, y.2.2.1, y.2.2.2.1, y.2.2.2.2.1, y.2.2.2.2.2.1, y.2.2.2.2.2.2.1))) = some r ∧ SlF 0 y.2.2.2.2.2.2.2.2.2.2.2 ViewTC a_x0 c_x0 x0 ∧ SlF 0 y.2.2.2.2.2.2.2.2.2.2.2 ViewTC a_x1 c_x1 x1 ∧ SlF 0 y.2.2.2.2.2.2.2.2.2.2.2 ReplyC zcn zco zcc ∧ SlF 0 y.2.2.2.2.2.2.2.2.2.2.2 SightC zcp zcq zcd ∧ SlF 0 y.2.2.2.2.2.2.2.2.2.2.2 ReplyC y.2.2.2.2.2.2.2.1 y.2.2.2.2.2.2.2.2.1 y.2.1 ∧ SlF 0 y.2.2.2.2.2.2.2.2.2.2.2 SightC y.2.2.2.2.2.2.2.2.2.1 y.2.2.2.2.2.2.2.2.2.2.1 y.2.2.1) rfl rfl Tryz.func104 rfl rfl rfl rfl rfl (lc := [(0, .v (.slice a_x1 x1.length c_x1)), (1, .v (.int .i64 zcb))]) (fun _ => rfl) ?_ (fun j42 => ?_)
    ·rintro ⟨x22_42_0_0, x22_42_0_1, x22_42_0_2, x22_42_0_3, x22_42_0_4, x22_42_0_5, x22_42_1, a_x22_42_0_1, c_x22_42_0_1, a_x22_42_0_2, c_x22_42_0_2, B2⟩ ⟨hp, gbg_x0, gbg_x1, zae, zaf, g_x22_42_0_1, g_x22_42_0_2⟩
     subst hK42
     show WJ _ _ _ B2 [] _ _ ⟨[(0, .v (.slice a_x0 x0.length c_x0)), (1, .v (.slice a_x1 x1.length c_x1)), (5, .v (.int .i64 zad)), (6, .v (.int .i64 z7)), (22, .v (.tuple ⟨[.agg ⟨[.int .i64 x22_42_0_0, .slice a_x22_42_0_1 x22_42_0_1.length c_x22_42_0_1, .slice a_x22_42_0_2 x22_42_0_2.length c_x22_42_0_2, .int .u64 x22_42_0_3, .int .u64 x22_42_0_4, .int .i64 x22_42_0_5]⟩, .bool x22_42_1]⟩))], [], true, 0⟩
     refine WJ.adv 4 rfl ?_
     refine WJ.liftS (loc := []) rfl rfl (fun bv0u1 => ?_)
     refine WJ.sb 200 (j := 0) rfl rfl rfl rfl rfl rfl rfl rfl rfl rfl ?_
     refine WJ.adv 3 rfl ?_
     obtain ⟨K43, hK43, hp⟩ : ∃ K, K = _ ∧ Option.bind _ K = some r := ⟨_, rfl, cutS hp⟩
     refine WJ.cut 3 (α := Int × Hp) (fun y => [(0, .v (.slice a_x0 x0.length c_x0)), (1, .v (.slice a_x1 x1.length c_x1)), (5, .v (.int .i64 y.1)), (6, .v (.int .i64 z7))]) (fun y => []) (fun y => [⟨some ⟨bv0u1, 0, none⟩, 6, 1, [.int .i64 x22_42_0_0, .slice a_x22_42_0_1 x22_42_0_1.length c_x22_42_0_1, .slice a_x22_42_0_2 x22_42_0_2.length c_x22_42_0_2, .int .u64 x22_42_0_3, .int .u64 x22_42_0_4, .int .i64 x22_42_0_5]⟩]) (fun y => y.2) (fun y => K43 ((y.1)) = some r ∧ SlF 0 y.2 ViewTC a_x0 c_x0 x0 ∧ SlF 0 y.2 ViewTC a_x1 c_x1 x1 ∧ SlF 0 y.2 ReplyC zcn zco zcc ∧ SlF 0 y.2 SightC zcp zcq zcd ∧ SlF 0 y.2 ReplyC a_x22_42_0_1 c_x22_42_0_1 x22_42_0_1 ∧ SlF 0 y.2 SightC a_x22_42_0_2 c_x22_42_0_2 x22_42_0_2) ?_ (fun j43 => ?_)
     ·rintro ⟨x5_43, B4⟩ ⟨hp, gbg_x0, gbg_x1, zae, zaf, g_x22_42_0_1, g_x22_42_0_2⟩
      subst hK43
      show WJ _ _ _ B4 [⟨some ⟨bv0u1, 0, none⟩, 6, 1, [.int .i64 x22_42_0_0, .slice a_x22_42_0_1 x22_42_0_1.length c_x22_42_0_1, .slice a_x22_42_0_2 x22_42_0_2.length c_x22_42_0_2, .int .u64 x22_42_0_3, .int .u64 x22_42_0_4, .int .i64 x22_42_0_5]⟩] _ _ ⟨[(0, .v (.slice a_x0 x0.length c_x0)), (1, .v (.slice a_x1 x1.length c_x1)), (5, .v (.int .i64 x5_43)), (6, .v (.int .i64 z7))], [], true, 0⟩
      exact WJ.ag 205 rfl (by exact ⟨rfl, rfl, rfl, rfl, trivial⟩) rfl rfl rfl (ih41 (n, x5_43, IntKind.i64.wrap (z7 + 1), B4) ⟨hp, gbg_x0, gbg_x1⟩ (Nat.lt_succ_self _))
     ·refine WJ.dr 200 rfl gmix (by kernel_rfl) (by kernel_rfl) rfl ?_
      cases x22_42_1
      ·replace hp := (itS hp).2 Bool.false_ne_true
       refine WD.ci hp rfl rfl rfl rfl rfl rfl rfl rfl rfl (fun hc38 hp => ?_) (fun hc38 hp => ?_)
       ·refine WD.done rfl ?_
        obtain ⟨⟨ze0, ziz, zi0, zi1, zi2, zi3⟩, e51, hp⟩ := bindS hp
        obtain ⟨b51, o51, cs51, i51, ⟨zi4, zi5, zi6, zi7, rfl, zi8, zi9⟩, p51⟩ := gbg_x0.at e51 u23 sz48
        refine WJ.hd (v := .pointer (some ⟨b51, o51, none⟩)) 204 rfl rfl rfl rfl (fun ids H' fr => opD_indexAddr rfl (evV_eq _ _ _ _ _ rfl) (evV_eq _ _ _ _ _ rfl) (i51 _)) rfl ?_
        refine WJ.hd (v := .int .i64 ze0) 201 rfl rfl rfl rfl (fun ids H' fr => opD_load rfl (evV_eq _ _ _ _ _ rfl) ((p51.mono (Nat.zero_le _) (fr.abv.le (Nat.zero_le _))).load (d := 0) ag3 rfl)) rfl ?_
        exact WJ.goto 3 (j43 (ze0, B2) ⟨hp, gbg_x0, gbg_x1, zae, zaf, g_x22_42_0_1, g_x22_42_0_2⟩) rfl rfl (by exact ⟨rfl, rfl, rfl, rfl, trivial⟩) rfl rfl rfl
       ·obtain ⟨⟨zac, zag, zah, zai, zaj, zak⟩, e42, hp⟩ := bindS hp
        obtain ⟨b42, o42, cs42, i42, ⟨zau, zav, zaw, zax, rfl, zcl, zcm⟩, p42⟩ := gbg_x0.at e42 u23 sz48
        refine WD.hd (v := .pointer (some ⟨b42, o42, none⟩)) rfl rfl rfl rfl (fun _ _ _ _ _ => side_no) (fun ids H' fr => opD_indexAddr rfl (evV_eq _ _ _ _ _ rfl) (evV_eq _ _ _ _ _ rfl) (i42 _)) rfl ?_
        refine WD.hd (v := .int .i64 zac) rfl rfl rfl rfl (fun _ _ _ _ _ => side_no) (fun ids H' fr => opD_load rfl (evV_eq _ _ _ _ _ rfl) ((p42.mono (Nat.zero_le _) (fr.abv.le (Nat.zero_le _))).load (d := 0) ag3 rfl)) rfl ?_
        refine WD.ci hp rfl rfl rfl rfl rfl rfl rfl rfl rfl (fun hc46 hp => ?_) (fun hc46 hp => ?_)
        ·refine WD.done rfl ?_
         obtain ⟨⟨t51u1_Tick, t51u1_Replies, t51u1_Sights, t51u1_Up, t51u1_Down, t51u1_Word⟩, e51u1, hp⟩ := bindS hp
         obtain ⟨b51u1, o51u1, cs51u1, i51u1, ⟨a_t51u1_Replies, c_t51u1_Replies, a_t51u1_Sights, c_t51u1_Sights, rfl, g_t51u1_Replies, g_t51u1_Sights⟩, p51u1⟩ := gbg_x0.at e51u1 u23 sz48
         refine WJ.hd (v := .pointer (some ⟨b51u1, o51u1, none⟩)) 204 rfl rfl rfl rfl (fun ids H' fr => opD_indexAddr rfl (evV_eq _ _ _ _ _ rfl) (evV_eq _ _ _ _ _ rfl) (i51u1 _)) rfl ?_
         refine WJ.hd (v := .int .i64 t51u1_Tick) 201 rfl rfl rfl rfl (fun ids H' fr => opD_load rfl (evV_eq _ _ _ _ _ rfl) ((p51u1.mono (Nat.zero_le _) (fr.abv.le (Nat.zero_le _))).load (d := 0) ag3 rfl)) rfl ?_
         exact WJ.goto 3 (j43 (t51u1_Tick, B2) ⟨hp, gbg_x0, gbg_x1, zae, zaf, g_x22_42_0_1, g_x22_42_0_2⟩) rfl rfl (by exact ⟨rfl, rfl, rfl, rfl, trivial⟩) rfl rfl rfl
        ·refine WD.done rfl ?_
         exact WJ.goto 3 (j43 (zad, B2) ⟨hp, gbg_x0, gbg_x1, zae, zaf, g_x22_42_0_1, g_x22_42_0_2⟩) rfl rfl (by exact ⟨rfl, rfl, rfl, rfl, trivial⟩) rfl rfl rfl
      ·replace hp := (itS hp).1 rfl
       obtain ⟨⟨t30u1_Tick, t30u1_Replies, t30u1_Sights, t30u1_Up, t30u1_Down, t30u1_Word⟩, e30u1, hp⟩ := bindS hp
       obtain ⟨b30u1, o30u1, cs30u1, i30u1, ⟨a_t30u1_Replies, c_t30u1_Replies, a_t30u1_Sights, c_t30u1_Sights, rfl, g_t30u1_Replies, g_t30u1_Sights⟩, p30u1⟩ := gbg_x0.at e30u1 u23 sz48
       refine WD.hd (v := .pointer (some ⟨b30u1, o30u1, none⟩)) rfl rfl rfl rfl (fun _ _ _ _ _ => side_no) (fun ids H' fr => opD_indexAddr rfl (evV_eq _ _ _ _ _ rfl) (evV_eq _ _ _ _ _ rfl) (i30u1 _)) rfl ?_
       refine WD.hd (v := .agg ⟨[.int .i64 t30u1_Tick, .slice a_t30u1_Replies t30u1_Replies.length c_t30u1_Replies, .slice a_t30u1_Sights t30u1_Sights.length c_t30u1_Sights, .int .u64 t30u1_Up, .int .u64 t30u1_Down, .int .i64 t30u1_Word]⟩) rfl rfl rfl rfl (fun _ _ _ _ _ => side_no) (fun ids H' fr => opD_load rfl (evV_eq _ _ _ _ _ rfl) ((p30u1.mono (Nat.zero_le _) (fr.abv.le (Nat.zero_le _))).loadN (d := 0) ag48 sz48 rfl rfl)) rfl ?_
       refine WD.hd (v := .agg ⟨[.int .i64 x22_42_0_0, .slice a_x22_42_0_1 x22_42_0_1.length c_x22_42_0_1, .slice a_x22_42_0_2 x22_42_0_2.length c_x22_42_0_2, .int .u64 x22_42_0_3, .int .u64 x22_42_0_4, .int .i64 x22_42_0_5]⟩) rfl rfl rfl rfl (fun _ _ _ _ _ => side_no) (fun ids H' fr => opD_load rfl (evV_eq _ _ _ _ _ rfl) (fr.ldOwn (j := 0) rfl rfl)) rfl ?_
       obtain ⟨t33u1, e33u1, hp⟩ := bindS hp
       refine WD.cl (R := R_4 t33u1) (fun hm h k => R_4.mono hm h k) rfl (fun ids H' fr => f105_ok (x0 := (ViewT.mk t30u1_Tick t30u1_Replies t30u1_Sights t30u1_Up t30u1_Down t30u1_Word)) (x1 := (ViewT.mk x22_42_0_0 x22_42_0_1 x22_42_0_2 x22_42_0_3 x22_42_0_4 x22_42_0_5)) (g_t30u1_Replies.mono (Nat.zero_le _) (fr.abv.le (Nat.zero_le _))) (g_t30u1_Sights.mono (Nat.zero_le _) (fr.abv.le (Nat.zero_le _))) (g_x22_42_0_1.mono (Nat.zero_le _) (fr.abv.le (Nat.zero_le _))) (g_x22_42_0_2.mono (Nat.zero_le _) (fr.abv.le (Nat.zero_le _))) e33u1) ?_
       rintro v B3 ⟨abB3, ivB3⟩ rfl
       refine ⟨_, rfl, ?_⟩
       replace gbg_x0 := gbg_x0.mono (Nat.le_refl _) (abB3.le (Nat.zero_le _))
       replace gbg_x1 := gbg_x1.mono (Nat.le_refl _) (abB3.le (Nat.zero_le _))
       replace zae := zae.mono (Nat.le_refl _) (abB3.le (Nat.zero_le _))
       replace zaf := zaf.mono (Nat.le_refl _) (abB3.le (Nat.zero_le _))
       replace g_x22_42_0_1 := g_x22_42_0_1.mono (Nat.le_refl _) (abB3.le (Nat.zero_le _))
       replace g_x22_42_0_2 := g_x22_42_0_2.mono (Nat.le_refl _) (abB3.le (Nat.zero_le _))
       replace g_t30u1_Replies := g_t30u1_Replies.mono (Nat.le_refl _) (abB3.le (Nat.zero_le _))
       replace g_t30u1_Sights := g_t30u1_Sights.mono (Nat.le_refl _) (abB3.le (Nat.zero_le _))
       replace p30u1 := p30u1.mono (Nat.le_refl _) (abB3.le (Nat.zero_le _))
       cases t33u1
       ·replace hp := (itS hp).2 Bool.false_ne_true
        refine WD.ci hp rfl rfl rfl rfl rfl rfl rfl rfl rfl (fun hc38u1 hp => ?_) (fun hc38u1 hp => ?_)
        ·refine WD.done rfl ?_
         obtain ⟨⟨t51u2_Tick, t51u2_Replies, t51u2_Sights, t51u2_Up, t51u2_Down, t51u2_Word⟩, e51u2, hp⟩ := bindS hp
         obtain ⟨b51u2, o51u2, cs51u2, i51u2, ⟨a_t51u2_Replies, c_t51u2_Replies, a_t51u2_Sights, c_t51u2_Sights, rfl, g_t51u2_Replies, g_t51u2_Sights⟩, p51u2⟩ := gbg_x0.at e51u2 u23 sz48
         refine WJ.hd (v := .pointer (some ⟨b51u2, o51u2, none⟩)) 204 rfl rfl rfl rfl (fun ids H' fr => opD_indexAddr rfl (evV_eq _ _ _ _ _ rfl) (evV_eq _ _ _ _ _ rfl) (i51u2 _)) rfl ?_
         refine WJ.hd (v := .int .i64 t51u2_Tick) 201 rfl rfl rfl rfl (fun ids H' fr => opD_load rfl (evV_eq _ _ _ _ _ rfl) ((p51u2.mono (Nat.zero_le _) (fr.abv.le (Nat.zero_le _))).load (d := 0) ag3 rfl)) rfl ?_
         exact WJ.goto 3 (j43 (t51u2_Tick, B3) ⟨hp, gbg_x0, gbg_x1, zae, zaf, g_x22_42_0_1, g_x22_42_0_2⟩) rfl rfl (by exact ⟨rfl, rfl, rfl, rfl, trivial⟩) rfl rfl rfl
        ·obtain ⟨⟨t42u1_Tick, t42u1_Replies, t42u1_Sights, t42u1_Up, t42u1_Down, t42u1_Word⟩, e42u1, hp⟩ := bindS hp
         obtain ⟨b42u1, o42u1, cs42u1, i42u1, ⟨a_t42u1_Replies, c_t42u1_Replies, a_t42u1_Sights, c_t42u1_Sights, rfl, g_t42u1_Replies, g_t42u1_Sights⟩, p42u1⟩ := gbg_x0.at e42u1 u23 sz48
         refine WD.hd (v := .pointer (some ⟨b42u1, o42u1, none⟩)) rfl rfl rfl rfl (fun _ _ _ _ _ => side_no) (fun ids H' fr => opD_indexAddr rfl (evV_eq _ _ _ _ _ rfl) (evV_eq _ _ _ _ _ rfl) (i42u1 _)) rfl ?_
         refine WD.hd (v := .int .i64 t42u1_Tick) rfl rfl rfl rfl (fun _ _ _ _ _ => side_no) (fun ids H' fr => opD_load rfl (evV_eq _ _ _ _ _ rfl) ((p42u1.mono (Nat.zero_le _) (fr.abv.le (Nat.zero_le _))).load (d := 0) ag3 rfl)) rfl ?_
         refine WD.ci hp rfl rfl rfl rfl rfl rfl rfl rfl rfl (fun hc46u1 hp => ?_) (fun hc46u1 hp => ?_)
         ·refine WD.done rfl ?_
          obtain ⟨⟨t51u3_Tick, t51u3_Replies, t51u3_Sights, t51u3_Up, t51u3_Down, t51u3_Word⟩, e51u3, hp⟩ := bindS hp
          obtain ⟨b51u3, o51u3, cs51u3, i51u3, ⟨a_t51u3_Replies, c_t51u3_Replies, a_t51u3_Sights, c_t51u3_Sights, rfl, g_t51u3_Replies, g_t51u3_Sights⟩, p51u3⟩ := gbg_x0.at e51u3 u23 sz48
          refine WJ.hd (v := .pointer (some ⟨b51u3, o51u3, none⟩)) 204 rfl rfl rfl rfl (fun ids H' fr => opD_indexAddr rfl (evV_eq _ _ _ _ _ rfl) (evV_eq _ _ _ _ _ rfl) (i51u3 _)) rfl ?_
          refine WJ.hd (v := .int .i64 t51u3_Tick) 201 rfl rfl rfl rfl (fun ids H' fr => opD_load rfl (evV_eq _ _ _ _ _ rfl) ((p51u3.mono (Nat.zero_le _) (fr.abv.le (Nat.zero_le _))).load (d := 0) ag3 rfl)) rfl ?_
          exact WJ.goto 3 (j43 (t51u3_Tick, B3) ⟨hp, gbg_x0, gbg_x1, zae, zaf, g_x22_42_0_1, g_x22_42_0_2⟩) rfl rfl (by exact ⟨rfl, rfl, rfl, rfl, trivial⟩) rfl rfl rfl
         ·refine WD.done rfl ?_
          exact WJ.goto 3 (j43 (zad, B3) ⟨hp, gbg_x0, gbg_x1, zae, zaf, g_x22_42_0_1, g_x22_42_0_2⟩) rfl rfl (by exact ⟨rfl, rfl, rfl, rfl, trivial⟩) rfl rfl rfl
       ·replace hp := (itS hp).1 rfl
        refine WD.done rfl ?_
        exact WJ.goto 3 (j43 (zad, B3) ⟨hp, gbg_x0, gbg_x1, zae, zaf, g_x22_42_0_1, g_x22_42_0_2⟩) rfl rfl (by exact ⟨rfl, rfl, rfl, rfl, trivial⟩) rfl rfl rfl
    ·refine WJ.adv 3 rfl ?_
     refine WJ.liftS (loc := []) rfl rfl (fun bv0 => ?_)
     refine WJ.ci 207 hp rfl rfl rfl rfl rfl rfl rfl rfl rfl (fun hc8 hp => ?_) (fun hc8 hp => ?_)
     ·refine WJ.sb 224 (j := 0) rfl rfl rfl rfl rfl rfl rfl rfl rfl rfl ?_
      refine WJ.inlRo 202 rfl (.cell (v := .agg ⟨[.int .i64 0, .slice none 0 0, .slice none 0 0, .int .u64 0, .int .u64 0, .int .i64 0]⟩) 0 rfl rfl rfl (.tmp rfl .nil)) rfl rfl ?_
      exact WJ.gotoO (j42 (0, ([] : List Reply), ([] : List Sight), 0, 0, 0, false, none, 0, none, 0, B1) ⟨hp, gbg_x0, gbg_x1, zae, zaf, SlF.nil, SlF.nil⟩) (by exact ⟨rfl, rfl, rfl, rfl, rfl, trivial⟩) rfl rfl
     ·obtain ⟨⟨t12u1_Tick, t12u1_Replies, t12u1_Sights, t12u1_Up, t12u1_Down, t12u1_Word⟩, e12u1, hp⟩ := bindS hp
      obtain ⟨b12u1, o12u1, cs12u1, i12u1, ⟨a_t12u1_Replies, c_t12u1_Replies, a_t12u1_Sights, c_t12u1_Sights, rfl, g_t12u1_Replies, g_t12u1_Sights⟩, p12u1⟩ := gbg_x1.at e12u1 u23 sz48
      refine WJ.hd (v := .pointer (some ⟨b12u1, o12u1, none⟩)) 203 rfl rfl rfl rfl (fun ids H' fr => opD_indexAddr rfl (evV_eq _ _ _ _ _ rfl) (evV_eq _ _ _ _ _ rfl) (i12u1 _)) rfl ?_
      refine WJ.hd (v := .int .i64 t12u1_Tick) 201 rfl rfl rfl rfl (fun ids H' fr => opD_load rfl (evV_eq _ _ _ _ _ rfl) ((p12u1.mono (Nat.zero_le _) (fr.abv.le (Nat.zero_le _))).load (d := 0) ag3 rfl)) rfl ?_
      refine WJ.ci 200 hp rfl rfl rfl rfl rfl rfl rfl rfl rfl (fun hc15 hp => ?_) (fun hc15 hp => ?_)
      ·refine WJ.sb 217 (j := 0) rfl rfl rfl rfl rfl rfl rfl rfl rfl rfl ?_
       refine WJ.inlRo 202 rfl (.cell (v := .agg ⟨[.int .i64 0, .slice none 0 0, .slice none 0 0, .int .u64 0, .int .u64 0, .int .i64 0]⟩) 0 rfl rfl rfl (.tmp rfl .nil)) rfl rfl ?_
       exact WJ.gotoO (j42 (0, ([] : List Reply), ([] : List Sight), 0, 0, 0, false, none, 0, none, 0, B1) ⟨hp, gbg_x0, gbg_x1, zae, zaf, SlF.nil, SlF.nil⟩) (by exact ⟨rfl, rfl, rfl, rfl, rfl, trivial⟩) rfl rfl
      ·obtain ⟨⟨zcr, zdn, zdo, zdp, zdq, zdr⟩, e23, hp⟩ := bindS hp
       obtain ⟨b23, o23, cs23, i23, ⟨ze1, ze2, ze3, ze4, rfl, ze5, ze6⟩, p23⟩ := gbg_x1.at e23 u23 sz48
       refine WJ.hd (v := .pointer (some ⟨b23, o23, none⟩)) 207 rfl rfl rfl rfl (fun ids H' fr => opD_indexAddr rfl (evV_eq _ _ _ _ _ rfl) (evV_eq _ _ _ _ _ rfl) (i23 _)) rfl ?_
       refine WJ.hd (v := .int .i64 zcr) 201 rfl rfl rfl rfl (fun ids H' fr => opD_load rfl (evV_eq _ _ _ _ _ rfl) ((p23.mono (Nat.zero_le _) (fr.abv.le (Nat.zero_le _))).load (d := 0) ag3 rfl)) rfl ?_
       refine WJ.ci 200 hp rfl rfl rfl rfl rfl rfl rfl rfl rfl (fun hc26 hp => ?_) (fun hc26 hp => ?_)
       ·refine WJ.sb 206 (j := 0) rfl rfl rfl rfl rfl rfl rfl rfl rfl rfl ?_
        refine WJ.inlRo 202 rfl (.cell (v := .agg ⟨[.int .i64 0, .slice none 0 0, .slice none 0 0, .int .u64 0, .int .u64 0, .int .i64 0]⟩) 0 rfl rfl rfl (.tmp rfl .nil)) rfl rfl ?_
        exact WJ.gotoO (j42 (0, ([] : List Reply), ([] : List Sight), 0, 0, 0, false, none, 0, none, 0, B1) ⟨hp, gbg_x0, gbg_x1, zae, zaf, SlF.nil, SlF.nil⟩) (by exact ⟨rfl, rfl, rfl, rfl, rfl, trivial⟩) rfl rfl
       ·obtain ⟨⟨zgh, zja, zjb, zjc, zjd, zje⟩, e32, hp⟩ := bindS hp
        obtain ⟨b32, o32, cs32, i32, ⟨zjf, zjg, zjh, zji, rfl, zjj, zjk⟩, p32⟩ := gbg_x1.at e32 u23 sz48
        refine WJ.hd (v := .pointer (some ⟨b32, o32, none⟩)) 209 rfl rfl rfl rfl (fun ids H' fr => opD_indexAddr rfl (evV_eq _ _ _ _ _ rfl) (evV_eq _ _ _ _ _ rfl) (i32 _)) rfl ?_
        refine WJ.hd (v := .int .i64 zgh) 201 rfl rfl rfl rfl (fun ids H' fr => opD_load rfl (evV_eq _ _ _ _ _ rfl) ((p32.mono (Nat.zero_le _) (fr.abv.le (Nat.zero_le _))).load (d := 0) ag3 rfl)) rfl ?_
        obtain ⟨⟨zds, zdt, zdu, zdv, zdw, zdx⟩, e36, hp⟩ := bindS hp
        obtain ⟨b36, o36, cs36, i36, ⟨zdy, zdz, zd0, zd1, rfl, zgi, zgj⟩, p36⟩ := gbg_x1.at e36 u23 sz48
        refine WJ.hd (v := .pointer (some ⟨b36, o36, none⟩)) 201 rfl rfl rfl rfl (fun ids H' fr => opD_indexAddr rfl (evV_eq _ _ _ _ _ rfl) (evV_eq _ _ _ _ _ rfl) (i36 _)) rfl ?_
        refine WJ.hd (v := .agg ⟨[.int .i64 zds, .slice zdy zdt.length zdz, .slice zd0 zdu.length zd1, .int .u64 zdv, .int .u64 zdw, .int .i64 zdx]⟩) 200 rfl rfl rfl rfl (fun ids H' fr => opD_load rfl (evV_eq _ _ _ _ _ rfl) ((p36.mono (Nat.zero_le _) (fr.abv.le (Nat.zero_le _))).loadN (d := 0) ag48 sz48 rfl rfl)) rfl ?_
        refine WJ.sb 200 (j := 0) rfl rfl rfl rfl rfl rfl rfl rfl rfl rfl ?_
        refine WJ.inlRo 202 rfl (.cell (v := .agg ⟨[.int .i64 zds, .slice zdy zdt.length zdz, .slice zd0 zdu.length zd1, .int .u64 zdv, .int .u64 zdw, .int .i64 zdx]⟩) 0 rfl rfl rfl (.tmp rfl .nil)) rfl rfl ?_
        exact WJ.gotoO (j42 (zds, zdt, zdu, zdv, zdw, zdx, true, zdy, zdz, zd0, zd1, B1) ⟨hp, gbg_x0, gbg_x1, zae, zaf, zgi, zgj⟩) (by exact ⟨rfl, rfl, rfl, rfl, rfl, trivial⟩) rfl rfl
   ·exact WJ.goto 3 (j41 (zad, B1) ⟨hp, gbg_x0, gbg_x1⟩) rfl rfl (by exact ⟨rfl, trivial⟩) rfl rfl rfl
/-! 30 tipstaff/tipstaffref38.First -/
def f30 (k : Nat) (x0 : List ViewT) (x1 : List ViewT) : Option (Int × Int) :=
 (f20 k x0).bind fun (t12_0, t12_1) =>
 (if t12_0 = 0 then
  (f20 k x1).bind fun (t19_0, t19_1) =>
  some (t19_0)
 else
  some (t12_0)).bind fun x6_44 =>
  if x6_44 = 0 then
   (f64 k x0 x1).bind fun t27 =>
   (f64 k x1 x0).bind fun t30 =>
   (if t27 < 0 then
    some (Sum.inl ((t30, 0) : Int × Int))
   else
    if t30 ≥ 0 then
     if t30 < t27 then
      some (Sum.inl ((t30, 0) : Int × Int))
     else
      some (Sum.inr ())
    else
     some (Sum.inr ())).bind fun s => match s with
    | .inl st => some st
    | .inr _ => 
     some (t27, 0)
  else
   some (0, x6_44)
set_option maxHeartbeats 40000000 in
set_option maxRecDepth 20000 in
theorem f30_ok {k : Nat} {H : Hp} {a_x0 : Option Addr} {c_x0 : Nat} {a_x1 : Option Addr} {c_x1 : Nat} {x0 : List ViewT} {x1 : List ViewT} {r : Int × Int} (g_x0 : SlF 0 H ViewTC a_x0 c_x0 x0) (g_x1 : SlF 0 H ViewTC a_x1 c_x1 x1) (hp : f30 k x0 x1 = some r) :
  SCall Tryz.prog 30 [.slice a_x0 x0.length c_x0, .slice a_x1 x1.length c_x1] H (Ret fun v H' => Ext H H' ∧ R_3_24 r H.next H' v) := by
 unfold f30 at hp
 replace hp := topS hp
 refine SCall.g Tryz.func30 rfl rfl rfl rfl rfl (l := [(0, .v (.slice a_x0 x0.length c_x0)), (1, .v (.slice a_x1 x1.length c_x1))]) (fun _ => rfl) (fun B abB => ?_)
 obtain ⟨⟨t12_0, t12_1⟩, e12, hp⟩ := bindS hp
 refine WJ.cl 208 (R := R_24_3 ⟨t12_0, t12_1⟩) (fun hm h k => R_24_3.mono hm h k) rfl (fun ids H' fr => f20_ok (g_x0.mono (Nat.zero_le _) fr.ext0.abv) e12) ?_
 rintro v B1 ⟨abB1, ivB1⟩ rfl
 refine ⟨_, rfl, ?_⟩
 refine WJ.adv 8 rfl ?_
 obtain ⟨K44, hK44, hp⟩ : ∃ K, K = _ ∧ Option.bind _ K = some r := ⟨_, rfl, cutS hp⟩
 refine WJ.cut 2 (α := Int × Hp) (fun y => [(0, .v (.slice a_x0 x0.length c_x0)), (1, .v (.slice a_x1 x1.length c_x1)), (6, .v (.int .i64 y.1))]) (fun y => []) (fun y => []) (fun y => y.2) (fun y => K44 ((y.1)) = some r) ?_ (fun j44 => ?_)
 ·rintro ⟨x6_44, B3⟩ hp
  subst hK44
  show WJ _ _ _ B3 [] _ _ ⟨[(0, .v (.slice a_x0 x0.length c_x0)), (1, .v (.slice a_x1 x1.length c_x1)), (6, .v (.int .i64 x6_44))], [], true, 0⟩
  refine WJ.cn 204 hp rfl rfl rfl rfl rfl rfl rfl rfl rfl (fun hc23 hp => ?_) (fun hc23 hp => ?_)
  ·obtain rfl := endS (show some _ = some r from hp)
   exact WJ.rt 208 rfl rfl rfl (fun ids H' fr => ⟨fr.ext0, rfl⟩)
  ·obtain ⟨t27, e27, hp⟩ := bindS hp
   refine WJ.cl 207 (R := R_3 t27) (fun hm h k => R_3.mono hm h k) rfl (fun ids H' fr => f64_ok (g_x0.mono (Nat.zero_le _) fr.ext0.abv) (g_x1.mono (Nat.zero_le _) fr.ext0.abv) e27) ?_
   rintro v B4 ⟨abB4, ivB4⟩ rfl
   refine ⟨_, rfl, ?_⟩
   obtain ⟨t30, e30, hp⟩ := bindS hp
   refine WJ.cl 202 (R := R_3 t30) (fun hm h k => R_3.mono hm h k) rfl (fun ids H' fr => f64_ok (g_x1.mono (Nat.zero_le _) fr.ext0.abv) (g_x0.mono (Nat.zero_le _) fr.ext0.abv) e30) ?_
   rintro v B5 ⟨abB5, ivB5⟩ rfl
   refine ⟨_, rfl, ?_⟩
   refine WJ.adv 5 rfl ?_
   obtain ⟨K45, hK45, hp⟩ : ∃ K, K = _ ∧ Option.bind _ K = some r := ⟨_, rfl, cutS hp⟩
   refine WJ.cut 2 (α := Unit) (fun y => [(8, .v (.int .i64 t27))]) (fun y => []) (fun y => []) (fun y => B5) (fun y => K45 ((Sum.inr ())) = some r) ?_ (fun j45 => ?_)
   ·rintro u hp
    subst hK45
    show WJ _ _ _ B5 [] _ _ ⟨[(8, .v (.int .i64 t27))], [], true, 0⟩
    obtain rfl := endS (show some _ = some r from hp)
    exact WJ.rt 206 rfl rfl rfl (fun ids H' fr => ⟨fr.ext0, rfl⟩)
   ·refine WJ.ci 202 hp rfl rfl rfl rfl rfl rfl rfl rfl rfl (fun hc32 hp => ?_) (fun hc32 hp => ?_)
    ·subst hK45
     obtain rfl := endS (show some _ = some r from hp)
     exact WJ.rt 217 rfl rfl rfl (fun ids H' fr => ⟨fr.ext0, rfl⟩)
    ·refine WJ.ci 202 hp rfl rfl rfl rfl rfl rfl rfl rfl rfl (fun hc35 hp => ?_) (fun hc35 hp => ?_)
     ·refine WJ.ci 203 hp rfl rfl rfl rfl rfl rfl rfl rfl rfl (fun hc39 hp => ?_) (fun hc39 hp => ?_)
      ·subst hK45
       obtain rfl := endS (show some _ = some r from hp)
       exact WJ.rt 210 rfl rfl rfl (fun ids H' fr => ⟨fr.ext0, rfl⟩)
      ·exact WJ.goto 5 (j45 () hp) rfl rfl (by exact ⟨rfl, trivial⟩) rfl rfl rfl
     ·exact WJ.goto 9 (j45 () hp) rfl rfl (by exact ⟨rfl, trivial⟩) rfl rfl rfl
 ·refine WJ.ci 202 hp rfl rfl rfl rfl rfl rfl rfl rfl rfl (fun hc16 hp => ?_) (fun hc16 hp => ?_)
  ·obtain ⟨⟨t19_0, t19_1⟩, e19, hp⟩ := bindS hp
   refine WJ.cl 204 (R := R_24_3 ⟨t19_0, t19_1⟩) (fun hm h k => R_24_3.mono hm h k) rfl (fun ids H' fr => f20_ok (g_x1.mono (Nat.zero_le _) fr.ext0.abv) e19) ?_
   rintro v B2 ⟨abB2, ivB2⟩ rfl
   refine ⟨_, rfl, ?_⟩
   exact WJ.goto 5 (j44 (t19_0, B2) hp) rfl rfl (by exact ⟨rfl, rfl, rfl, trivial⟩) rfl rfl rfl
  ·exact WJ.goto 3 (j44 (t12_0, B1) hp) rfl rfl (by exact ⟨rfl, rfl, rfl, trivial⟩) rfl rfl rfl
/-! 31 tipstaff/trace.Same -/
def f31 (k : Nat) (x0 : List ViewT) (x1 : List ViewT) : Option (Bool × Int) :=
 (f29 k x0 x1).bind fun (t11_0, t11_1) =>
 if t11_1 = 0 then
  (some (decide (t11_0 < 0))).bind fun t18 =>
  some (t18, t11_1)
 else
  some (false, t11_1)
set_option maxHeartbeats 40000000 in
set_option maxRecDepth 20000 in
theorem f31_ok {k : Nat} {H : Hp} {a_x0 : Option Addr} {c_x0 : Nat} {a_x1 : Option Addr} {c_x1 : Nat} {x0 : List ViewT} {x1 : List ViewT} {r : Bool × Int} (g_x0 : SlF 0 H ViewTC a_x0 c_x0 x0) (g_x1 : SlF 0 H ViewTC a_x1 c_x1 x1) (hp : f31 k x0 x1 = some r) :
  SCall Tryz.prog 31 [.slice a_x0 x0.length c_x0, .slice a_x1 x1.length c_x1] H (Ret fun v H' => Ext H H' ∧ R_4_24 r H.next H' v) := by
 unfold f31 at hp
 replace hp := topS hp
 refine SCall.g Tryz.func31 rfl rfl rfl rfl rfl (l := [(0, .v (.slice a_x0 x0.length c_x0)), (1, .v (.slice a_x1 x1.length c_x1))]) (fun _ => rfl) (fun B abB => ?_)
 obtain ⟨⟨t11_0, t11_1⟩, e11, hp⟩ := bindS hp
 refine WJ.cl 209 (R := R_3_24 ⟨t11_0, t11_1⟩) (fun hm h k => R_3_24.mono hm h k) rfl (fun ids H' fr => f29_ok (g_x0.mono (Nat.zero_le _) fr.ext0.abv) (g_x1.mono (Nat.zero_le _) fr.ext0.abv) e11) ?_
 rintro v B1 ⟨abB1, ivB1⟩ rfl
 refine ⟨_, rfl, ?_⟩
 refine WJ.ci 209 hp rfl rfl rfl rfl rfl rfl rfl rfl rfl (fun hc15 hp => ?_) (fun hc15 hp => ?_)
 ·obtain ⟨t18, e18, hp⟩ := bindS hp
  refine WJ.cv 202 (b := t18) (H0 := ⟨.nil, 0, 0⟩) rfl rfl rfl rfl rfl rfl (by rw [← endS e18]; exact rfl) rfl ?_
  obtain rfl := endS (show some _ = some r from hp)
  exact WJ.rt 205 rfl rfl rfl (fun ids H' fr => ⟨fr.ext0, rfl⟩)
 ·obtain rfl := endS (show some _ = some r from hp)
  exact WJ.rt 208 rfl rfl rfl (fun ids H' fr => ⟨fr.ext0, rfl⟩)
/-! 32 tipstaff/tipstaffref38.Same -/
def f32 (k : Nat) (x0 : List ViewT) (x1 : List ViewT) : Option (Bool × Int) :=
 (f30 k x0 x1).bind fun (t11_0, t11_1) =>
 if t11_1 = 0 then
  (some (decide (t11_0 < 0))).bind fun t18 =>
  some (t18, t11_1)
 else
  some (false, t11_1)
set_option maxHeartbeats 40000000 in
set_option maxRecDepth 20000 in
theorem f32_ok {k : Nat} {H : Hp} {a_x0 : Option Addr} {c_x0 : Nat} {a_x1 : Option Addr} {c_x1 : Nat} {x0 : List ViewT} {x1 : List ViewT} {r : Bool × Int} (g_x0 : SlF 0 H ViewTC a_x0 c_x0 x0) (g_x1 : SlF 0 H ViewTC a_x1 c_x1 x1) (hp : f32 k x0 x1 = some r) :
  SCall Tryz.prog 32 [.slice a_x0 x0.length c_x0, .slice a_x1 x1.length c_x1] H (Ret fun v H' => Ext H H' ∧ R_4_24 r H.next H' v) := by
 unfold f32 at hp
 replace hp := topS hp
 refine SCall.g Tryz.func32 rfl rfl rfl rfl rfl (l := [(0, .v (.slice a_x0 x0.length c_x0)), (1, .v (.slice a_x1 x1.length c_x1))]) (fun _ => rfl) (fun B abB => ?_)
 obtain ⟨⟨t11_0, t11_1⟩, e11, hp⟩ := bindS hp
 refine WJ.cl 209 (R := R_3_24 ⟨t11_0, t11_1⟩) (fun hm h k => R_3_24.mono hm h k) rfl (fun ids H' fr => f30_ok (g_x0.mono (Nat.zero_le _) fr.ext0.abv) (g_x1.mono (Nat.zero_le _) fr.ext0.abv) e11) ?_
 rintro v B1 ⟨abB1, ivB1⟩ rfl
 refine ⟨_, rfl, ?_⟩
 refine WJ.ci 209 hp rfl rfl rfl rfl rfl rfl rfl rfl rfl (fun hc15 hp => ?_) (fun hc15 hp => ?_)
 ·obtain ⟨t18, e18, hp⟩ := bindS hp
  refine WJ.cv 202 (b := t18) (H0 := ⟨.nil, 0, 0⟩) rfl rfl rfl rfl rfl rfl (by rw [← endS e18]; exact rfl) rfl ?_
  obtain rfl := endS (show some _ = some r from hp)
  exact WJ.rt 205 rfl rfl rfl (fun ids H' fr => ⟨fr.ext0, rfl⟩)
 ·obtain rfl := endS (show some _ = some r from hp)
  exact WJ.rt 208 rfl rfl rfl (fun ids H' fr => ⟨fr.ext0, rfl⟩)
/-! 65 tipstaff/trace.own -/
def f65 (x0 : ViewT) : Option ViewT :=
 (f106 x0.Replies).bind fun t5 =>
 (f107 x0.Sights).bind fun t8 =>
 some (ViewT.mk x0.Tick t5 t8 x0.Up x0.Down x0.Word)
set_option maxHeartbeats 40000000 in
set_option maxRecDepth 20000 in
theorem f65_ok {H : Hp} {zo : Option Addr} {zp : Nat} {zq : Option Addr} {zr : Nat} {x0 : ViewT} {r : ViewT} (za6 : SlF 0 H ReplyC zo zp x0.Replies) (za7 : SlF 0 H SightC zq zr x0.Sights) (hp : f65 x0 = some r) :
  SCall Tryz.prog 65 [.agg ⟨[.int .i64 x0.Tick, .slice zo x0.Replies.length zp, .slice zq x0.Sights.length zr, .int .u64 x0.Up, .int .u64 x0.Down, .int .i64 x0.Word]⟩] H (Ret fun v H' => Ext H H' ∧ R_48 r H.next H' v) := by
 obtain ⟨z0, zn, zs, z1, z2, z3⟩ := x0
 unfold f65 at hp
 replace hp := topS hp
 refine SCall.g Tryz.func65 rfl rfl rfl rfl rfl (l := [(0, .v (.agg ⟨[.int .i64 z0, .slice zo zn.length zp, .slice zq zs.length zr, .int .u64 z1, .int .u64 z2, .int .i64 z3]⟩))]) (fun _ => rfl) (fun B abB => ?_)
 have zb0 := za6.mono (Nat.le_refl _) abB
 have zb1 := za7.mono (Nat.le_refl _) abB
 refine WJ.adv 3 rfl ?_
 refine WJ.liftS (loc := []) rfl rfl (fun bv0 => ?_)
 refine WJ.adv 1 rfl ?_
 refine WJ.liftS (loc := []) rfl rfl (fun bv1 => ?_)
 refine WJ.drCG (c := 5) (m := 5) 202 rfl gmix (by kernel_rfl) (by kernel_rfl) rfl rfl (fun D1 eD1 abD1 obD1 => ?_)
 have zjl := zb0
 have zjm := zb1
 refine WD.hd (v := .slice zo zn.length zp) rfl rfl rfl rfl (fun ids H' s0 h0 f => side_load rfl rfl rfl (obD1 0 _ _ rfl rfl) h0 f) (fun ids H' fr => opD_load rfl (evV_eq _ _ _ _ _ rfl) (fr.ldOwn (j := 0) rfl rfl)) rfl ?_
 obtain ⟨t5, e5, hp⟩ := bindS hp
 refine WD.cl (R := R_44 t5) (fun hm h k => R_44.mono hm h k) rfl (fun ids H' fr => f106_ok (zb0.mono (Nat.zero_le _) (fr.abv.le (Nat.zero_le _))) e5) ?_
 rintro v B2 ⟨abB2, ivB2⟩ ⟨a_t5, c_t5, rfl, g_t5⟩
 refine ⟨_, rfl, ?_⟩
 replace zb0 := zb0.mono (Nat.le_refl _) (abB2.le (Nat.zero_le _))
 replace zb1 := zb1.mono (Nat.le_refl _) (abB2.le (Nat.zero_le _))
 refine WD.hd (v := .slice zq zs.length zr) rfl rfl rfl rfl (fun ids H' s0 h0 f => side_load rfl rfl rfl (obD1 0 _ _ rfl rfl) h0 f) (fun ids H' fr => opD_load rfl (evV_eq _ _ _ _ _ rfl) (fr.ldOwn (j := 0) rfl rfl)) rfl ?_
 refine WD.done rfl ?_
 refine WJ.ph2 ?_
 obtain ⟨t8, e8, hp⟩ := bindS hp
 refine WD.cl (R := R_45 t8) (fun hm h k => R_45.mono hm h k) rfl (fun ids H' fr => f107_ok (zb1.mono (Nat.zero_le _) (fr.abv.le (Nat.zero_le _))) e8) ?_
 rintro v B3 ⟨abB3, ivB3⟩ ⟨a_t8, c_t8, rfl, g_t8⟩
 refine ⟨_, rfl, ?_⟩
 replace zb0 := zb0.mono (Nat.le_refl _) (abB3.le (Nat.zero_le _))
 replace zb1 := zb1.mono (Nat.le_refl _) (abB3.le (Nat.zero_le _))
 replace g_t5 := g_t5.mono (Nat.le_refl _) (abB3.le (Nat.zero_le _))
 refine WD.sb (j := 0) rfl rfl rfl rfl rfl rfl rfl rfl rfl rfl ?_
 refine WD.sb (j := 0) rfl rfl rfl rfl rfl rfl rfl rfl rfl rfl ?_
 refine WD.done rfl ?_
 refine WJ.hd (v := .agg ⟨[.int .i64 z0, .slice a_t5 t5.length c_t5, .slice a_t8 t8.length c_t8, .int .u64 z1, .int .u64 z2, .int .i64 z3]⟩) 202 rfl rfl rfl rfl (fun ids H' fr => opD_load rfl (evV_eq _ _ _ _ _ rfl) (fr.ldOwn (j := 0) rfl rfl)) rfl ?_
 refine WJ.sb 200 (j := 1) rfl rfl rfl rfl rfl rfl rfl rfl rfl rfl ?_
 obtain rfl := endS (show some _ = some r from hp)
 exact WJ.rto 201 rfl (.cell (v := .agg ⟨[.int .i64 z0, .slice a_t5 t5.length c_t5, .slice a_t8 t8.length c_t8, .int .u64 z1, .int .u64 z2, .int .i64 z3]⟩) 1 rfl rfl rfl .nil) rfl (fun ids H' fr => ⟨fr.ext0, ⟨_, _, _, _, rfl, (g_t5.mono (Nat.le_refl _) (fr.abv.le (Nat.zero_le _))), (g_t8.mono (Nat.le_refl _) (fr.abv.le (Nat.zero_le _)))⟩⟩)
/-! 33 tipstaff/trace.Part -/
def f33_l1 (x0 : List ViewT) (x1 : Int) (x2 : Int) : Nat → (List ViewT) → Int → Option ((List ViewT))
 | 0, _, _ => none
 | n + 1, l0_h48, za8 =>
  (some (decide (za8 < (x0.length : Int)))).bind fun t27 =>
  if t27 then
   (rd x0 za8).bind fun t28 =>
   (if t28.Tick ≥ x1 then
    if t28.Tick < x2 then
     (f65 (ViewT.mk t28.Tick t28.Replies t28.Sights t28.Up t28.Down t28.Word)).bind fun t42 =>
     (apd 80 l0_h48 ([(ViewT.mk t42.Tick t42.Replies t42.Sights t42.Up t42.Down t42.Word)] : List ViewT)).bind fun l44 =>
     some (l44)
    else
     some (l0_h48)
   else
    some (l0_h48)).bind fun l0_49 =>
    f33_l1 x0 x1 x2 n l0_49 (IntKind.i64.wrap (za8 + 1))
  else
   some (l0_h48)
def f33 (k : Nat) (x0 : List ViewT) (x1 : Int) (x2 : Int) : Option ((List ViewT) × Int) :=
 (f19 k x0).bind fun (t15_0, t15_1) =>
 if t15_0 = 0 then
  if x1 > x2 then
   some ([], 2)
  else
   (f33_l1 x0 x1 x2 k ([]) 0).bind fun l0_48 =>
    some (l0_48, 0)
 else
  some ([], t15_0)
set_option maxHeartbeats 40000000 in
set_option maxRecDepth 20000 in
theorem f33_ok {k : Nat} {H : Hp} {a_x0 : Option Addr} {c_x0 : Nat} {x0 : List ViewT} {x1 : Int} {x2 : Int} {r : (List ViewT) × Int} (g_x0 : SlF 0 H ViewTC a_x0 c_x0 x0) (hp : f33 k x0 x1 x2 = some r) :
  SCall Tryz.prog 33 [.slice a_x0 x0.length c_x0, .int .i64 x1, .int .i64 x2] H (Ret fun v H' => Ext H H' ∧ R_23_24 r H.next H' v) := by
 unfold f33 at hp
 replace hp := topS hp
 refine SCall.g Tryz.func33 rfl rfl rfl rfl rfl (l := [(0, .v (.slice a_x0 x0.length c_x0)), (1, .v (.int .i64 x1)), (2, .v (.int .i64 x2))]) (fun _ => rfl) (fun B abB => ?_)
 have gbg_x0 := g_x0.mono (Nat.le_refl _) abB
 obtain ⟨⟨t15_0, t15_1⟩, e15, hp⟩ := bindS hp
 refine WJ.cl 209 (R := R_24_3 ⟨t15_0, t15_1⟩) (fun hm h k => R_24_3.mono hm h k) rfl (fun ids H' fr => f19_ok (gbg_x0.mono (Nat.zero_le _) (fr.abv.le (Nat.zero_le _))) e15) ?_
 rintro v B1 ⟨abB1, ivB1⟩ rfl
 refine ⟨_, rfl, ?_⟩
 replace gbg_x0 := gbg_x0.mono (Nat.le_refl _) (abB1.le (Nat.zero_le _))
 refine WJ.cn 209 hp rfl rfl rfl rfl rfl rfl rfl rfl rfl (fun hc19 hp => ?_) (fun hc19 hp => ?_)
 ·obtain rfl := endS (show some _ = some r from hp)
  exact WJ.rt 208 rfl rfl rfl (fun ids H' fr => ⟨fr.ext0, ⟨_, _, rfl, SlF.nil⟩⟩)
 ·refine WJ.ci 208 hp rfl rfl rfl rfl rfl rfl rfl rfl rfl (fun hc23 hp => ?_) (fun hc23 hp => ?_)
  ·obtain rfl := endS (show some _ = some r from hp)
   exact WJ.rt 207 rfl rfl rfl (fun ids H' fr => ⟨fr.ext0, ⟨_, _, rfl, SlF.nil⟩⟩)
  ·refine WJ.adv 15 rfl ?_
   refine WJ.nw 6 ?_
   have rn0 : RepL ViewTC H.next B1 [] ([] : List ViewT) := rfl
   obtain ⟨K48, hK48, hp⟩ : ∃ K, K = _ ∧ Option.bind _ K = some r := ⟨_, rfl, cutS hp⟩
   refine WJ.cut 2 (α := (List ViewT) × (Option Addr) × Nat × (List Value) × Hp) (fun y => [(10, .v (.slice y.2.1 y.1.length y.2.2.1))]) (fun y => []) (fun y => [⟨y.2.1, y.2.2.1, 6, y.2.2.2.1⟩]) (fun y => y.2.2.2.2) (fun y => K48 (y.1) = some r ∧ SlF 0 y.2.2.2.2 ViewTC a_x0 c_x0 x0 ∧ RepL ViewTC H.next y.2.2.2.2 [] ([] : List ViewT) ∧ RepL ViewTC H.next y.2.2.2.2 y.2.2.2.1 y.1) ?_ (fun j48 => ?_)
   ·rintro ⟨l0_48, a0_48, c0_48, cs0_48, B5⟩ ⟨hp, gbg_x0, rn0, r0_48⟩
    subst hK48
    show WJ _ _ _ B5 [⟨a0_48, c0_48, 6, cs0_48⟩] _ _ ⟨[(10, .v (.slice a0_48 l0_48.length c0_48))], [], true, 0⟩
    obtain rfl := endS (show some _ = some r from hp)
    exact WJ.rt 206 rfl rfl rfl (fun ids H' fr => ⟨fr.ext0, ⟨_, _, rfl, (fr.slN (j := 0) rfl rfl rfl r0_48 (Nat.le_refl _))⟩⟩)
   ·refine WJ.lp 200 (α := Nat × (List ViewT) × Int × (Option Addr) × Nat × (List Value) × Hp) (fun y => [(1, .v (.int .i64 x1)), (2, .v (.int .i64 x2)), (10, .v (.slice y.2.2.2.1 y.2.1.length y.2.2.2.2.1)), (24, .v (.slice a_x0 x0.length c_x0)), (25, .v (.int .i64 ((x0.length : Nat) : Int))), (26, .v (.int .i64 y.2.2.1))]) (fun y => []) (fun y => [⟨y.2.2.2.1, y.2.2.2.2.1, 6, y.2.2.2.2.2.1⟩]) (fun y => y.2.2.2.2.2.2) (fun y => y.1) (fun y => Option.bind (f33_l1 x0 x1 x2 y.1 y.2.1 y.2.2.1) K48 = some r ∧ SlF 0 y.2.2.2.2.2.2 ViewTC a_x0 c_x0 x0 ∧ RepL ViewTC H.next y.2.2.2.2.2.2 [] ([] : List ViewT) ∧ RepL ViewTC H.next y.2.2.2.2.2.2 y.2.2.2.2.2.1 y.2.1) (k, ([] : List ViewT), 0, none, 0, [], B1) rfl ⟨hp, gbg_x0, rn0, rn0⟩ (by exact ⟨rfl, rfl, rfl, rfl, rfl, rfl, trivial⟩) rfl rfl rfl ?_
    rintro ⟨n, l0_h48, za8, a0_h48, c0_h48, cs0_h48, B2⟩ ⟨hp, gbg_x0, rn0, r0_h48⟩ ih48
    show WJ _ _ _ B2 [⟨a0_h48, c0_h48, 6, cs0_h48⟩] _ _ ⟨[(1, .v (.int .i64 x1)), (2, .v (.int .i64 x2)), (10, .v (.slice a0_h48 l0_h48.length c0_h48)), (24, .v (.slice a_x0 x0.length c_x0)), (25, .v (.int .i64 ((x0.length : Nat) : Int))), (26, .v (.int .i64 za8))], [], true, 0⟩
    replace hp : Option.bind (f33_l1 x0 x1 x2 n l0_h48 za8) K48 = some r := hp
    cases n with
    | zero => rw [f33_l1] at hp; exact (noS hp).elim
    | succ n =>
     rw [f33_l1] at hp
     obtain ⟨t27, e27, hp⟩ := bindS hp
     refine WJ.cv 202 (b := t27) (H0 := ⟨.nil, 0, 0⟩) rfl rfl rfl rfl rfl rfl (by rw [← endS e27]; exact rfl) rfl ?_
     cases t27
     ·replace hp := (itS hp).2 Bool.false_ne_true
      exact WJ.goto 4 (j48 (l0_h48, a0_h48, c0_h48, cs0_h48, B2) ⟨hp, gbg_x0, rn0, r0_h48⟩) rfl rfl (by exact ⟨rfl, trivial⟩) rfl rfl rfl
     ·replace hp := (itS hp).1 rfl
      obtain ⟨⟨za9, zbp, zbq, zb2, zb3, zb4⟩, e28, hp⟩ := bindS hp
      obtain ⟨b28, o28, cs28, i28, ⟨zb5, zb6, zb7, zb8, rfl, zbr, zbs⟩, p28⟩ := gbg_x0.at e28 u23 sz48
      refine WJ.hd (v := .pointer (some ⟨b28, o28, none⟩)) 208 rfl rfl rfl rfl (fun ids H' fr => opD_indexAddr rfl (evV_eq _ _ _ _ _ rfl) (evV_eq _ _ _ _ _ rfl) (i28 _)) rfl ?_
      refine WJ.hd (v := .agg ⟨[.int .i64 za9, .slice zb5 zbp.length zb6, .slice zb7 zbq.length zb8, .int .u64 zb2, .int .u64 zb3, .int .i64 zb4]⟩) 200 rfl rfl rfl rfl (fun ids H' fr => opD_load rfl (evV_eq _ _ _ _ _ rfl) ((p28.mono (Nat.zero_le _) (fr.abv.le (Nat.zero_le _))).loadN (d := 0) ag48 sz48 rfl rfl)) rfl ?_
      refine WJ.adv 1 rfl ?_
      refine WJ.liftS (loc := []) rfl rfl (fun bv0 => ?_)
      refine WJ.sb 200 (j := 1) rfl rfl rfl rfl rfl rfl rfl rfl rfl rfl ?_
      refine WJ.adv 2 rfl ?_
      obtain ⟨K49, hK49, hp⟩ : ∃ K, K = _ ∧ Option.bind _ K = some r := ⟨_, rfl, cutS hp⟩
      refine WJ.cut 3 (α := (List ViewT) × (Option Addr) × Nat × (List Value) × Hp) (fun y => [(1, .v (.int .i64 x1)), (2, .v (.int .i64 x2)), (10, .v (.slice y.2.1 y.1.length y.2.2.1)), (24, .v (.slice a_x0 x0.length c_x0)), (25, .v (.int .i64 ((x0.length : Nat) : Int))), (26, .v (.int .i64 za8))]) (fun y => []) (fun y => [⟨y.2.1, y.2.2.1, 6, y.2.2.2.1⟩, ⟨some ⟨bv0, 0, none⟩, 6, 1, [.int .i64 za9, .slice zb5 zbp.length zb6, .slice zb7 zbq.length zb8, .int .u64 zb2, .int .u64 zb3, .int .i64 zb4]⟩]) (fun y => y.2.2.2.2) (fun y => K49 ((y.1)) = some r ∧ SlF 0 y.2.2.2.2 ViewTC a_x0 c_x0 x0 ∧ RepL ViewTC H.next y.2.2.2.2 [] ([] : List ViewT) ∧ RepL ViewTC H.next y.2.2.2.2 cs0_h48 l0_h48 ∧ SlF 0 y.2.2.2.2 ReplyC zb5 zb6 zbp ∧ SlF 0 y.2.2.2.2 SightC zb7 zb8 zbq ∧ RepL ViewTC H.next y.2.2.2.2 y.2.2.2.1 y.1) ?_ (fun j49 => ?_)
      ·rintro ⟨l0_49, a0_49, c0_49, cs0_49, B4⟩ ⟨hp, gbg_x0, rn0, r0_h48, zbr, zbs, r0_49⟩
       subst hK49
       show WJ _ _ _ B4 [⟨a0_49, c0_49, 6, cs0_49⟩, ⟨some ⟨bv0, 0, none⟩, 6, 1, [.int .i64 za9, .slice zb5 zbp.length zb6, .slice zb7 zbq.length zb8, .int .u64 zb2, .int .u64 zb3, .int .i64 zb4]⟩] _ _ ⟨[(1, .v (.int .i64 x1)), (2, .v (.int .i64 x2)), (10, .v (.slice a0_49 l0_49.length c0_49)), (24, .v (.slice a_x0 x0.length c_x0)), (25, .v (.int .i64 ((x0.length : Nat) : Int))), (26, .v (.int .i64 za8))], [], true, 0⟩
       exact WJ.ag 204 rfl (by exact ⟨rfl, rfl, rfl, rfl, rfl, rfl, trivial⟩) rfl rfl rfl (ih48 (n, l0_49, IntKind.i64.wrap (za8 + 1), a0_49, c0_49, cs0_49, B4) ⟨hp, gbg_x0, rn0, r0_49⟩ (Nat.lt_succ_self _))
      ·refine WJ.hd (v := .int .i64 za9) 202 rfl rfl rfl rfl (fun ids H' fr => opD_load rfl (evV_eq _ _ _ _ _ rfl) (fr.ldOwn (j := 1) rfl rfl)) rfl ?_
       refine WJ.ci 201 hp rfl rfl rfl rfl rfl rfl rfl rfl rfl (fun hc33 hp => ?_) (fun hc33 hp => ?_)
       ·refine WJ.hd (v := .int .i64 za9) 202 rfl rfl rfl rfl (fun ids H' fr => opD_load rfl (evV_eq _ _ _ _ _ rfl) (fr.ldOwn (j := 1) rfl rfl)) rfl ?_
        refine WJ.ci 201 hp rfl rfl rfl rfl rfl rfl rfl rfl rfl (fun hc38 hp => ?_) (fun hc38 hp => ?_)
        ·refine WJ.hd (v := .agg ⟨[.int .i64 za9, .slice zb5 zbp.length zb6, .slice zb7 zbq.length zb8, .int .u64 zb2, .int .u64 zb3, .int .i64 zb4]⟩) 205 rfl rfl rfl rfl (fun ids H' fr => opD_load rfl (evV_eq _ _ _ _ _ rfl) (fr.ldOwn (j := 1) rfl rfl)) rfl ?_
         obtain ⟨⟨zac, zag, zah, zai, zaj, zak⟩, e42, hp⟩ := bindS hp
         refine WJ.cl 200 (R := R_48 ⟨zac, zag, zah, zai, zaj, zak⟩) (fun hm h k => R_48.mono hm h k) rfl (fun ids H' fr => f65_ok (x0 := (ViewT.mk za9 zbp zbq zb2 zb3 zb4)) (zbr.mono (Nat.zero_le _) (fr.abv.le (Nat.zero_le _))) (zbs.mono (Nat.zero_le _) (fr.abv.le (Nat.zero_le _))) e42) ?_
         rintro v B3 ⟨abB3, ivB3⟩ ⟨zau, zav, zaw, zax, rfl, zcl, zcm⟩
         refine ⟨_, rfl, ?_⟩
         replace gbg_x0 := gbg_x0.mono (Nat.le_refl _) (abB3.le (Nat.zero_le _))
         replace rn0 := rn0.mono (Nat.le_refl _) (abB3.le (Nat.zero_le _))
         replace r0_h48 := r0_h48.mono (Nat.le_refl _) (abB3.le (Nat.zero_le _))
         replace zbr := zbr.mono (Nat.le_refl _) (abB3.le (Nat.zero_le _))
         replace zbs := zbs.mono (Nat.le_refl _) (abB3.le (Nat.zero_le _))
         replace p28 := p28.mono (Nat.le_refl _) (abB3.le (Nat.zero_le _))
         refine WJ.bs (cs := [.int .i64 zac, .slice zau zag.length zav, .slice zaw zah.length zax, .int .u64 zai, .int .u64 zaj, .int .i64 zak]) (sz := 6) (pl := [(0, .agg ⟨[.int .i64 zac, .slice zau zag.length zav, .slice zaw zah.length zax, .int .u64 zai, .int .u64 zaj, .int .i64 zak]⟩)]) 200 rfl rfl rfl rfl rfl (fun _ _ => rfl) (fun _ => by rfl) rfl rfl ?_
         intro b43
         refine ⟨_, rfl, ?_⟩
         obtain ⟨l44, e44, hp⟩ := bindS hp
         obtain ⟨bd44, rfl⟩ := apd_some e44
         refine WJ.apN (cs := cs0_h48) (new := [.int .i64 zac, .slice zau zag.length zav, .slice zaw zah.length zax, .int .u64 zai, .int .u64 zaj, .int .i64 zak]) (L := l0_h48) (L2 := ([(ViewT.mk zac zag zah zai zaj zak)] : List ViewT)) 200 0 rfl rfl rfl rfl rfl rfl rfl rfl r0_h48.len (el23 rfl) rfl rfl (fun ids H' fr => fr.srcBox (j := 2) rfl rfl (by decide)) rfl rfl bd44 ?_
         intro a44 c44
         refine ⟨_, rfl, ?_⟩
         have rp44 : RepL ViewTC H.next B3 (cs0_h48 ++ [.int .i64 zac, .slice zau zag.length zav, .slice zaw zah.length zax, .int .u64 zai, .int .u64 zaj, .int .i64 zak]) (l0_h48 ++ ([(ViewT.mk zac zag zah zai zaj zak)] : List ViewT)) := r0_h48.append ⟨[.int .i64 zac, .slice zau zag.length zav, .slice zaw zah.length zax, .int .u64 zai, .int .u64 zaj, .int .i64 zak], [], rfl, ⟨_, _, _, _, rfl, zcl, zcm⟩, rfl⟩
         refine WJ.pop [⟨a44, c44, 6, (cs0_h48 ++ [.int .i64 zac, .slice zau zag.length zav, .slice zaw zah.length zax, .int .u64 zai, .int .u64 zaj, .int .i64 zak])⟩, ⟨some ⟨bv0, 0, none⟩, 6, 1, [.int .i64 za9, .slice zb5 zbp.length zb6, .slice zb7 zbq.length zb8, .int .u64 zb2, .int .u64 zb3, .int .i64 zb4]⟩] rfl ?_
         exact WJ.goto 3 (j49 ((l0_h48 ++ ([(ViewT.mk zac zag zah zai zaj zak)] : List ViewT)), a44, c44, (cs0_h48 ++ [.int .i64 zac, .slice zau zag.length zav, .slice zaw zah.length zax, .int .u64 zai, .int .u64 zaj, .int .i64 zak]), B3) ⟨hp, gbg_x0, rn0, r0_h48, zbr, zbs, rp44⟩) rfl rfl (by exact ⟨rfl, rfl, rfl, rfl, rfl, rfl, trivial⟩) rfl rfl rfl
        ·exact WJ.goto 5 (j49 (l0_h48, a0_h48, c0_h48, cs0_h48, B2) ⟨hp, gbg_x0, rn0, r0_h48, zbr, zbs, r0_h48⟩) rfl rfl (by exact ⟨rfl, rfl, rfl, rfl, rfl, rfl, trivial⟩) rfl rfl rfl
       ·exact WJ.goto 10 (j49 (l0_h48, a0_h48, c0_h48, cs0_h48, B2) ⟨hp, gbg_x0, rn0, r0_h48, zbr, zbs, r0_h48⟩) rfl rfl (by exact ⟨rfl, rfl, rfl, rfl, rfl, rfl, trivial⟩) rfl rfl rfl
/-! 66 tipstaff/tipstaffref38.own -/
def f66 (x0 : ViewT) : Option ViewT :=
 (apd 16 ([] : List Reply) x0.Replies).bind fun l6 =>
 (apd 24 ([] : List Sight) x0.Sights).bind fun l11 =>
 some (ViewT.mk x0.Tick l6 l11 x0.Up x0.Down x0.Word)
set_option maxHeartbeats 40000000 in
set_option maxRecDepth 20000 in
theorem f66_ok {H : Hp} {zo : Option Addr} {zp : Nat} {zq : Option Addr} {zr : Nat} {x0 : ViewT} {r : ViewT} (za6 : SlF 0 H ReplyC zo zp x0.Replies) (za7 : SlF 0 H SightC zq zr x0.Sights) (hp : f66 x0 = some r) :
  SCall Tryz.prog 66 [.agg ⟨[.int .i64 x0.Tick, .slice zo x0.Replies.length zp, .slice zq x0.Sights.length zr, .int .u64 x0.Up, .int .u64 x0.Down, .int .i64 x0.Word]⟩] H (Ret fun v H' => Ext H H' ∧ R_48 r H.next H' v) := by
 obtain ⟨z0, zn, zs, z1, z2, z3⟩ := x0
 unfold f66 at hp
 replace hp := topS hp
 refine SCall.g Tryz.func66 rfl rfl rfl rfl rfl (l := [(0, .v (.agg ⟨[.int .i64 z0, .slice zo zn.length zp, .slice zq zs.length zr, .int .u64 z1, .int .u64 z2, .int .i64 z3]⟩))]) (fun _ => rfl) (fun B abB => ?_)
 refine WJ.bs (cs := encL Reply.cs ([] : List Reply)) (sz := 2) (pl := []) 207 rfl rfl rfl rfl rfl (fun _ _ => rfl) (fun _ => by rfl) rfl rfl ?_
 intro b3
 refine ⟨_, rfl, ?_⟩
 obtain ⟨l6, e6, hp⟩ := bindS hp
 obtain ⟨bd6, rfl⟩ := apd_some e6
 refine WJ.ap (L := ([] : List Reply)) (L2 := zn) 202 0 rfl rfl rfl rfl rfl rfl rfl rfl (el44 rfl) rfl (fun _ => rfl) (fun _ => rfl) rfl (fun ids H' fr => (za6.mono (Nat.zero_le _) fr.ext0.abv).srcF) bd6 ?_
 intro a6 c6
 refine ⟨_, rfl, ?_⟩
 refine WJ.bs (cs := encL Sight.cs ([] : List Sight)) (sz := 3) (pl := []) 205 rfl rfl rfl rfl rfl (fun _ _ => rfl) (fun _ => by rfl) rfl rfl ?_
 intro b8
 refine ⟨_, rfl, ?_⟩
 obtain ⟨l11, e11, hp⟩ := bindS hp
 obtain ⟨bd11, rfl⟩ := apd_some e11
 refine WJ.ap (L := ([] : List Sight)) (L2 := zs) 202 1 rfl rfl rfl rfl rfl rfl rfl rfl (el45 rfl) rfl (fun _ => rfl) (fun _ => rfl) rfl (fun ids H' fr => (za7.mono (Nat.zero_le _) fr.ext0.abv).srcF) bd11 ?_
 intro a11 c11
 refine ⟨_, rfl, ?_⟩
 obtain rfl := endS (show some _ = some r from hp)
 exact WJ.rt 208 rfl rfl rfl (fun ids H' fr => ⟨fr.ext0, ⟨_, _, _, _, rfl, (fr.slOwn (j := 0) rfl rfl (Nat.le_refl _)), (fr.slOwn (j := 1) rfl rfl (Nat.le_refl _))⟩⟩)
/-! 34 tipstaff/tipstaffref38.Part -/
def f34_l1 (x0 : List ViewT) (x1 : Int) (x2 : Int) : Nat → (List ViewT) → Int → Option ((List ViewT))
 | 0, _, _ => none
 | n + 1, l0_h54, zan =>
  if zan < (x0.length : Int) then
   ((rd x0 zan).bind fun t35 =>
   if t35.Tick ≥ x1 then
    (rd x0 zan).bind fun t43 =>
    if t43.Tick < x2 then
     (rd x0 zan).bind fun t52 =>
     (f66 t52).bind fun t54 =>
     (apd 80 l0_h54 ([(ViewT.mk t54.Tick t54.Replies t54.Sights t54.Up t54.Down t54.Word)] : List ViewT)).bind fun l56 =>
     some (l56)
    else
     some (l0_h54)
   else
    some (l0_h54)).bind fun l0_55 =>
    f34_l1 x0 x1 x2 n l0_55 (IntKind.i64.wrap (zan + 1))
  else
   some (l0_h54)
def f34 (k : Nat) (x0 : List ViewT) (x1 : Int) (x2 : Int) : Option ((List ViewT) × Int) :=
 (f20 k x0).bind fun (t14_0, t14_1) =>
 (if t14_0 = 0 then
  if x1 > x2 then
   some ((2 : Int))
  else
   some (t14_0)
 else
  some (t14_0)).bind fun x8_53 =>
  if x8_53 = 0 then
   (f34_l1 x0 x1 x2 k ([]) 0).bind fun l0_54 =>
    some (l0_54, 0)
  else
   some ([], x8_53)
set_option maxHeartbeats 40000000 in
set_option maxRecDepth 20000 in
theorem f34_ok {k : Nat} {H : Hp} {a_x0 : Option Addr} {c_x0 : Nat} {x0 : List ViewT} {x1 : Int} {x2 : Int} {r : (List ViewT) × Int} (g_x0 : SlF 0 H ViewTC a_x0 c_x0 x0) (hp : f34 k x0 x1 x2 = some r) :
  SCall Tryz.prog 34 [.slice a_x0 x0.length c_x0, .int .i64 x1, .int .i64 x2] H (Ret fun v H' => Ext H H' ∧ R_23_24 r H.next H' v) := by
 unfold f34 at hp
 replace hp := topS hp
 refine SCall.g Tryz.func34 rfl rfl rfl rfl rfl (l := [(0, .v (.slice a_x0 x0.length c_x0)), (1, .v (.int .i64 x1)), (2, .v (.int .i64 x2))]) (fun _ => rfl) (fun B abB => ?_)
 have gbg_x0 := g_x0.mono (Nat.le_refl _) abB
 obtain ⟨⟨t14_0, t14_1⟩, e14, hp⟩ := bindS hp
 refine WJ.cl 208 (R := R_24_3 ⟨t14_0, t14_1⟩) (fun hm h k => R_24_3.mono hm h k) rfl (fun ids H' fr => f20_ok (gbg_x0.mono (Nat.zero_le _) (fr.abv.le (Nat.zero_le _))) e14) ?_
 rintro v B1 ⟨abB1, ivB1⟩ rfl
 refine ⟨_, rfl, ?_⟩
 replace gbg_x0 := gbg_x0.mono (Nat.le_refl _) (abB1.le (Nat.zero_le _))
 refine WJ.adv 8 rfl ?_
 obtain ⟨K53, hK53, hp⟩ : ∃ K, K = _ ∧ Option.bind _ K = some r := ⟨_, rfl, cutS hp⟩
 refine WJ.cut 2 (α := Int) (fun y => [(0, .v (.slice a_x0 x0.length c_x0)), (1, .v (.int .i64 x1)), (2, .v (.int .i64 x2)), (8, .v (.int .i64 y))]) (fun y => []) (fun y => []) (fun y => B1) (fun y => K53 ((y)) = some r) ?_ (fun j53 => ?_)
 ·rintro x8_53 hp
  subst hK53
  show WJ _ _ _ B1 [] _ _ ⟨[(0, .v (.slice a_x0 x0.length c_x0)), (1, .v (.int .i64 x1)), (2, .v (.int .i64 x2)), (8, .v (.int .i64 x8_53))], [], true, 0⟩
  refine WJ.cn 204 hp rfl rfl rfl rfl rfl rfl rfl rfl rfl (fun hc25 hp => ?_) (fun hc25 hp => ?_)
  ·obtain rfl := endS (show some _ = some r from hp)
   exact WJ.rt 208 rfl rfl rfl (fun ids H' fr => ⟨fr.ext0, ⟨_, _, rfl, SlF.nil⟩⟩)
  ·refine WJ.adv 13 rfl ?_
   refine WJ.nw 6 ?_
   have rn0 : RepL ViewTC H.next B1 [] ([] : List ViewT) := rfl
   obtain ⟨K54, hK54, hp⟩ : ∃ K, K = _ ∧ Option.bind _ K = some r := ⟨_, rfl, cutS hp⟩
   refine WJ.cut 2 (α := (List ViewT) × (Option Addr) × Nat × (List Value) × Hp) (fun y => [(10, .v (.slice y.2.1 y.1.length y.2.2.1))]) (fun y => []) (fun y => [⟨y.2.1, y.2.2.1, 6, y.2.2.2.1⟩]) (fun y => y.2.2.2.2) (fun y => K54 (y.1) = some r ∧ SlF 0 y.2.2.2.2 ViewTC a_x0 c_x0 x0 ∧ RepL ViewTC H.next y.2.2.2.2 [] ([] : List ViewT) ∧ RepL ViewTC H.next y.2.2.2.2 y.2.2.2.1 y.1) ?_ (fun j54 => ?_)
   ·rintro ⟨l0_54, a0_54, c0_54, cs0_54, B5⟩ ⟨hp, gbg_x0, rn0, r0_54⟩
    subst hK54
    show WJ _ _ _ B5 [⟨a0_54, c0_54, 6, cs0_54⟩] _ _ ⟨[(10, .v (.slice a0_54 l0_54.length c0_54))], [], true, 0⟩
    obtain rfl := endS (show some _ = some r from hp)
    exact WJ.rt 206 rfl rfl rfl (fun ids H' fr => ⟨fr.ext0, ⟨_, _, rfl, (fr.slN (j := 0) rfl rfl rfl r0_54 (Nat.le_refl _))⟩⟩)
   ·refine WJ.lp 200 (α := Nat × (List ViewT) × Int × (Option Addr) × Nat × (List Value) × Hp) (fun y => [(0, .v (.slice a_x0 x0.length c_x0)), (1, .v (.int .i64 x1)), (2, .v (.int .i64 x2)), (10, .v (.slice y.2.2.2.1 y.2.1.length y.2.2.2.2.1)), (11, .v (.int .i64 y.2.2.1))]) (fun y => []) (fun y => [⟨y.2.2.2.1, y.2.2.2.2.1, 6, y.2.2.2.2.2.1⟩]) (fun y => y.2.2.2.2.2.2) (fun y => y.1) (fun y => Option.bind (f34_l1 x0 x1 x2 y.1 y.2.1 y.2.2.1) K54 = some r ∧ SlF 0 y.2.2.2.2.2.2 ViewTC a_x0 c_x0 x0 ∧ RepL ViewTC H.next y.2.2.2.2.2.2 [] ([] : List ViewT) ∧ RepL ViewTC H.next y.2.2.2.2.2.2 y.2.2.2.2.2.1 y.2.1) (k, ([] : List ViewT), 0, none, 0, [], B1) rfl ⟨hp, gbg_x0, rn0, rn0⟩ (by exact ⟨rfl, rfl, rfl, rfl, rfl, trivial⟩) rfl rfl rfl ?_
    rintro ⟨n, l0_h54, zan, a0_h54, c0_h54, cs0_h54, B2⟩ ⟨hp, gbg_x0, rn0, r0_h54⟩ ih54
    show WJ _ _ _ B2 [⟨a0_h54, c0_h54, 6, cs0_h54⟩] _ _ ⟨[(0, .v (.slice a_x0 x0.length c_x0)), (1, .v (.int .i64 x1)), (2, .v (.int .i64 x2)), (10, .v (.slice a0_h54 l0_h54.length c0_h54)), (11, .v (.int .i64 zan))], [], true, 0⟩
    replace hp : Option.bind (f34_l1 x0 x1 x2 n l0_h54 zan) K54 = some r := hp
    cases n with
    | zero => rw [f34_l1] at hp; exact (noS hp).elim
    | succ n =>
     rw [f34_l1] at hp
     refine WJ.ci 206 hp rfl rfl rfl rfl rfl rfl rfl rfl rfl (fun hc30 hp => ?_) (fun hc30 hp => ?_)
     ·refine WJ.adv 6 rfl ?_
      obtain ⟨K55, hK55, hp⟩ : ∃ K, K = _ ∧ Option.bind _ K = some r := ⟨_, rfl, cutS hp⟩
      refine WJ.cut 3 (α := (List ViewT) × (Option Addr) × Nat × (List Value) × Hp) (fun y => [(0, .v (.slice a_x0 x0.length c_x0)), (1, .v (.int .i64 x1)), (2, .v (.int .i64 x2)), (10, .v (.slice y.2.1 y.1.length y.2.2.1)), (11, .v (.int .i64 zan))]) (fun y => []) (fun y => [⟨y.2.1, y.2.2.1, 6, y.2.2.2.1⟩]) (fun y => y.2.2.2.2) (fun y => K55 ((y.1)) = some r ∧ SlF 0 y.2.2.2.2 ViewTC a_x0 c_x0 x0 ∧ RepL ViewTC H.next y.2.2.2.2 [] ([] : List ViewT) ∧ RepL ViewTC H.next y.2.2.2.2 cs0_h54 l0_h54 ∧ RepL ViewTC H.next y.2.2.2.2 y.2.2.2.1 y.1) ?_ (fun j55 => ?_)
      ·rintro ⟨l0_55, a0_55, c0_55, cs0_55, B4⟩ ⟨hp, gbg_x0, rn0, r0_h54, r0_55⟩
       subst hK55
       show WJ _ _ _ B4 [⟨a0_55, c0_55, 6, cs0_55⟩] _ _ ⟨[(0, .v (.slice a_x0 x0.length c_x0)), (1, .v (.int .i64 x1)), (2, .v (.int .i64 x2)), (10, .v (.slice a0_55 l0_55.length c0_55)), (11, .v (.int .i64 zan))], [], true, 0⟩
       exact WJ.ag 205 rfl (by exact ⟨rfl, rfl, rfl, rfl, rfl, trivial⟩) rfl rfl rfl (ih54 (n, l0_55, IntKind.i64.wrap (zan + 1), a0_55, c0_55, cs0_55, B4) ⟨hp, gbg_x0, rn0, r0_55⟩ (Nat.lt_succ_self _))
      ·obtain ⟨⟨zcs, zbb, zbc, zfx, zfy, zfz⟩, e35, hp⟩ := bindS hp
       obtain ⟨b35, o35, cs35, i35, ⟨zbd, zbe, zbf, zbg, rfl, zt, zu⟩, p35⟩ := gbg_x0.at e35 u23 sz48
       refine WJ.hd (v := .pointer (some ⟨b35, o35, none⟩)) 203 rfl rfl rfl rfl (fun ids H' fr => opD_indexAddr rfl (evV_eq _ _ _ _ _ rfl) (evV_eq _ _ _ _ _ rfl) (i35 _)) rfl ?_
       refine WJ.hd (v := .int .i64 zcs) 201 rfl rfl rfl rfl (fun ids H' fr => opD_load rfl (evV_eq _ _ _ _ _ rfl) ((p35.mono (Nat.zero_le _) (fr.abv.le (Nat.zero_le _))).load (d := 0) ag3 rfl)) rfl ?_
       refine WJ.ci 201 hp rfl rfl rfl rfl rfl rfl rfl rfl rfl (fun hc39 hp => ?_) (fun hc39 hp => ?_)
       ·obtain ⟨⟨zgk, zjn, zjo, zjp, zjq, zjr⟩, e43, hp⟩ := bindS hp
        obtain ⟨b43, o43, cs43, i43, ⟨zjs, zjt, zju, zjv, rfl, ze7, ze8⟩, p43⟩ := gbg_x0.at e43 u23 sz48
        refine WJ.hd (v := .pointer (some ⟨b43, o43, none⟩)) 203 rfl rfl rfl rfl (fun ids H' fr => opD_indexAddr rfl (evV_eq _ _ _ _ _ rfl) (evV_eq _ _ _ _ _ rfl) (i43 _)) rfl ?_
        refine WJ.hd (v := .int .i64 zgk) 201 rfl rfl rfl rfl (fun ids H' fr => opD_load rfl (evV_eq _ _ _ _ _ rfl) ((p43.mono (Nat.zero_le _) (fr.abv.le (Nat.zero_le _))).load (d := 0) ag3 rfl)) rfl ?_
        refine WJ.ci 201 hp rfl rfl rfl rfl rfl rfl rfl rfl rfl (fun hc47 hp => ?_) (fun hc47 hp => ?_)
        ·obtain ⟨⟨ze9, zfa, zfb, zfc, zfd, zfe⟩, e52, hp⟩ := bindS hp
         obtain ⟨b52, o52, cs52, i52, ⟨zgl, zgm, zgn, zgo, rfl, zd2, zd3⟩, p52⟩ := gbg_x0.at e52 u23 sz48
         refine WJ.hd (v := .pointer (some ⟨b52, o52, none⟩)) 207 rfl rfl rfl rfl (fun ids H' fr => opD_indexAddr rfl (evV_eq _ _ _ _ _ rfl) (evV_eq _ _ _ _ _ rfl) (i52 _)) rfl ?_
         refine WJ.hd (v := .agg ⟨[.int .i64 ze9, .slice zgl zfa.length zgm, .slice zgn zfb.length zgo, .int .u64 zfc, .int .u64 zfd, .int .i64 zfe]⟩) 200 rfl rfl rfl rfl (fun ids H' fr => opD_load rfl (evV_eq _ _ _ _ _ rfl) ((p52.mono (Nat.zero_le _) (fr.abv.le (Nat.zero_le _))).loadN (d := 0) ag48 sz48 rfl rfl)) rfl ?_
         obtain ⟨⟨zao, zap, zaq, zar, zas, zat⟩, e54, hp⟩ := bindS hp
         refine WJ.cl 200 (R := R_48 ⟨zao, zap, zaq, zar, zas, zat⟩) (fun hm h k => R_48.mono hm h k) rfl (fun ids H' fr => f66_ok (x0 := (ViewT.mk ze9 zfa zfb zfc zfd zfe)) (zd2.mono (Nat.zero_le _) (fr.abv.le (Nat.zero_le _))) (zd3.mono (Nat.zero_le _) (fr.abv.le (Nat.zero_le _))) e54) ?_
         rintro v B3 ⟨abB3, ivB3⟩ ⟨zbt, zbu, zbv, zbw, rfl, zgp, zgq⟩
         refine ⟨_, rfl, ?_⟩
         replace gbg_x0 := gbg_x0.mono (Nat.le_refl _) (abB3.le (Nat.zero_le _))
         replace rn0 := rn0.mono (Nat.le_refl _) (abB3.le (Nat.zero_le _))
         replace r0_h54 := r0_h54.mono (Nat.le_refl _) (abB3.le (Nat.zero_le _))
         replace zt := zt.mono (Nat.le_refl _) (abB3.le (Nat.zero_le _))
         replace zu := zu.mono (Nat.le_refl _) (abB3.le (Nat.zero_le _))
         replace p35 := p35.mono (Nat.le_refl _) (abB3.le (Nat.zero_le _))
         replace ze7 := ze7.mono (Nat.le_refl _) (abB3.le (Nat.zero_le _))
         replace ze8 := ze8.mono (Nat.le_refl _) (abB3.le (Nat.zero_le _))
         replace p43 := p43.mono (Nat.le_refl _) (abB3.le (Nat.zero_le _))
         replace zd2 := zd2.mono (Nat.le_refl _) (abB3.le (Nat.zero_le _))
         replace zd3 := zd3.mono (Nat.le_refl _) (abB3.le (Nat.zero_le _))
         replace p52 := p52.mono (Nat.le_refl _) (abB3.le (Nat.zero_le _))
         refine WJ.bs (cs := [.int .i64 zao, .slice zbt zap.length zbu, .slice zbv zaq.length zbw, .int .u64 zar, .int .u64 zas, .int .i64 zat]) (sz := 6) (pl := [(0, .agg ⟨[.int .i64 zao, .slice zbt zap.length zbu, .slice zbv zaq.length zbw, .int .u64 zar, .int .u64 zas, .int .i64 zat]⟩)]) 200 rfl rfl rfl rfl rfl (fun _ _ => rfl) (fun _ => by rfl) rfl rfl ?_
         intro b55
         refine ⟨_, rfl, ?_⟩
         obtain ⟨l56, e56, hp⟩ := bindS hp
         obtain ⟨bd56, rfl⟩ := apd_some e56
         refine WJ.apN (cs := cs0_h54) (new := [.int .i64 zao, .slice zbt zap.length zbu, .slice zbv zaq.length zbw, .int .u64 zar, .int .u64 zas, .int .i64 zat]) (L := l0_h54) (L2 := ([(ViewT.mk zao zap zaq zar zas zat)] : List ViewT)) 200 0 rfl rfl rfl rfl rfl rfl rfl rfl r0_h54.len (el23 rfl) rfl rfl (fun ids H' fr => fr.srcBox (j := 1) rfl rfl (by decide)) rfl rfl bd56 ?_
         intro a56 c56
         refine ⟨_, rfl, ?_⟩
         have rp56 : RepL ViewTC H.next B3 (cs0_h54 ++ [.int .i64 zao, .slice zbt zap.length zbu, .slice zbv zaq.length zbw, .int .u64 zar, .int .u64 zas, .int .i64 zat]) (l0_h54 ++ ([(ViewT.mk zao zap zaq zar zas zat)] : List ViewT)) := r0_h54.append ⟨[.int .i64 zao, .slice zbt zap.length zbu, .slice zbv zaq.length zbw, .int .u64 zar, .int .u64 zas, .int .i64 zat], [], rfl, ⟨_, _, _, _, rfl, zgp, zgq⟩, rfl⟩
         refine WJ.pop [⟨a56, c56, 6, (cs0_h54 ++ [.int .i64 zao, .slice zbt zap.length zbu, .slice zbv zaq.length zbw, .int .u64 zar, .int .u64 zas, .int .i64 zat])⟩] rfl ?_
         exact WJ.goto 3 (j55 ((l0_h54 ++ ([(ViewT.mk zao zap zaq zar zas zat)] : List ViewT)), a56, c56, (cs0_h54 ++ [.int .i64 zao, .slice zbt zap.length zbu, .slice zbv zaq.length zbw, .int .u64 zar, .int .u64 zas, .int .i64 zat]), B3) ⟨hp, gbg_x0, rn0, r0_h54, rp56⟩) rfl rfl (by exact ⟨rfl, rfl, rfl, rfl, rfl, trivial⟩) rfl rfl rfl
        ·exact WJ.goto 5 (j55 (l0_h54, a0_h54, c0_h54, cs0_h54, B2) ⟨hp, gbg_x0, rn0, r0_h54, r0_h54⟩) rfl rfl (by exact ⟨rfl, rfl, rfl, rfl, rfl, trivial⟩) rfl rfl rfl
       ·exact WJ.goto 13 (j55 (l0_h54, a0_h54, c0_h54, cs0_h54, B2) ⟨hp, gbg_x0, rn0, r0_h54, r0_h54⟩) rfl rfl (by exact ⟨rfl, rfl, rfl, rfl, rfl, trivial⟩) rfl rfl rfl
     ·exact WJ.goto 3 (j54 (l0_h54, a0_h54, c0_h54, cs0_h54, B2) ⟨hp, gbg_x0, rn0, r0_h54⟩) rfl rfl (by exact ⟨rfl, trivial⟩) rfl rfl rfl
 ·refine WJ.ci 202 hp rfl rfl rfl rfl rfl rfl rfl rfl rfl (fun hc18 hp => ?_) (fun hc18 hp => ?_)
  ·refine WJ.ci 203 hp rfl rfl rfl rfl rfl rfl rfl rfl rfl (fun hc22 hp => ?_) (fun hc22 hp => ?_)
   ·exact WJ.goto 6 (j53 2 hp) rfl rfl (by exact ⟨rfl, rfl, rfl, rfl, trivial⟩) rfl rfl rfl
   ·exact WJ.goto 4 (j53 t14_0 hp) rfl rfl (by exact ⟨rfl, rfl, rfl, rfl, trivial⟩) rfl rfl rfl
  ·exact WJ.goto 8 (j53 t14_0 hp) rfl rfl (by exact ⟨rfl, rfl, rfl, rfl, trivial⟩) rfl rfl rfl
/-! 84 tipstaff/tipstaffkit.SameSights -/
def f84_l1 (x0 : List Sight) (x1 : List Sight) : Nat → Int → Option ((Bool) ⊕ (Unit))
 | 0, _ => none
 | n + 1, x5 =>
  if x5 < (x0.length : Int) then
   (rd x0 x5).bind fun t19 =>
   (rd x1 x5).bind fun t23 =>
   if t19 = t23 then
    f84_l1 x0 x1 n (IntKind.i64.wrap (x5 + 1))
   else
    some (Sum.inl (false : Bool))
  else
   some (Sum.inr ())
def f84 (k : Nat) (x0 : List Sight) (x1 : List Sight) : Option Bool :=
 if (x0.length : Int) = (x1.length : Int) then
  (f84_l1 x0 x1 k 0).bind fun s => match s with
   | .inl st => some st
   | .inr _ => 
    some true
 else
  some false
set_option maxHeartbeats 40000000 in
set_option maxRecDepth 20000 in
theorem f84_ok {k : Nat} {H : Hp} {a_x0 : Option Addr} {c_x0 : Nat} {a_x1 : Option Addr} {c_x1 : Nat} {x0 : List Sight} {x1 : List Sight} {r : Bool} (g_x0 : SlF 0 H SightC a_x0 c_x0 x0) (g_x1 : SlF 0 H SightC a_x1 c_x1 x1) (hp : f84 k x0 x1 = some r) :
  SCall Tryz.prog 84 [.slice a_x0 x0.length c_x0, .slice a_x1 x1.length c_x1] H (Ret fun v H' => Ext H H' ∧ R_4 r H.next H' v) := by
 unfold f84 at hp
 replace hp := topS hp
 refine SCall.g Tryz.func84 rfl rfl rfl rfl rfl (l := [(0, .v (.slice a_x0 x0.length c_x0)), (1, .v (.slice a_x1 x1.length c_x1))]) (fun _ => rfl) (fun B abB => ?_)
 refine WJ.cn 211 hp rfl rfl rfl rfl rfl rfl rfl rfl rfl (fun hc10 hp => ?_) (fun hc10 hp => ?_)
 ·obtain rfl := endS (show some _ = some r from hp)
  exact WJ.rt 206 rfl rfl rfl (fun ids H' fr => ⟨fr.ext0, rfl⟩)
 ·refine WJ.adv 9 rfl ?_
  obtain ⟨K56, hK56, hp⟩ : ∃ K, K = _ ∧ Option.bind _ K = some r := ⟨_, rfl, cutS hp⟩
  refine WJ.cut 2 (α := Unit) (fun y => []) (fun y => []) (fun y => []) (fun y => B) (fun y => K56 (Sum.inr ()) = some r) ?_ (fun j56 => ?_)
  ·rintro u hp
   subst hK56
   show WJ _ _ _ B [] _ _ ⟨[], [], true, 0⟩
   obtain rfl := endS (show some _ = some r from hp)
   exact WJ.rt 204 rfl rfl rfl (fun ids H' fr => ⟨fr.ext0, rfl⟩)
  ·refine WJ.lp 200 (α := Nat × Int) (fun y => [(0, .v (.slice a_x0 x0.length c_x0)), (1, .v (.slice a_x1 x1.length c_x1)), (5, .v (.int .i64 y.2))]) (fun y => []) (fun y => []) (fun y => B) (fun y => y.1) (fun y => Option.bind (f84_l1 x0 x1 y.1 y.2) K56 = some r) (k, 0) rfl hp (by exact ⟨rfl, rfl, rfl, trivial⟩) rfl rfl rfl ?_
   rintro ⟨n, x5⟩ hp ih56
   show WJ _ _ _ B [] _ _ ⟨[(0, .v (.slice a_x0 x0.length c_x0)), (1, .v (.slice a_x1 x1.length c_x1)), (5, .v (.int .i64 x5))], [], true, 0⟩
   replace hp : Option.bind (f84_l1 x0 x1 n x5) K56 = some r := hp
   cases n with
   | zero => rw [f84_l1] at hp; exact (noS hp).elim
   | succ n =>
    rw [f84_l1] at hp
    refine WJ.ci 206 hp rfl rfl rfl rfl rfl rfl rfl rfl rfl (fun hc14 hp => ?_) (fun hc14 hp => ?_)
    ·refine WJ.dr 206 rfl gmix (by kernel_rfl) (by kernel_rfl) rfl ?_
     obtain ⟨⟨zci, zcz, zc0⟩, e19, hp⟩ := bindS hp
     obtain ⟨b19, o19, cs19, i19, rfl, p19⟩ := g_x0.at e19 u45 sz84
     refine WD.hd (v := .pointer (some ⟨b19, o19, none⟩)) rfl rfl rfl rfl (fun _ _ _ _ _ => side_no) (fun ids H' fr => opD_indexAddr rfl (evV_eq _ _ _ _ _ rfl) (evV_eq _ _ _ _ _ rfl) (i19 _)) rfl ?_
     refine WD.hd (v := .agg ⟨[.int .i64 zci, .int .i64 zcz, .bool zc0]⟩) rfl rfl rfl rfl (fun _ _ _ _ _ => side_no) (fun ids H' fr => opD_load rfl (evV_eq _ _ _ _ _ rfl) ((p19.mono (Nat.zero_le _) fr.ext0.abv).loadN (d := 0) ag84 sz84 rfl rfl)) rfl ?_
     obtain ⟨⟨zff, zfg, zfh⟩, e23, hp⟩ := bindS hp
     obtain ⟨b23, o23, cs23, i23, rfl, p23⟩ := g_x1.at e23 u45 sz84
     refine WD.hd (v := .pointer (some ⟨b23, o23, none⟩)) rfl rfl rfl rfl (fun _ _ _ _ _ => side_no) (fun ids H' fr => opD_indexAddr rfl (evV_eq _ _ _ _ _ rfl) (evV_eq _ _ _ _ _ rfl) (i23 _)) rfl ?_
     refine WD.hd (v := .agg ⟨[.int .i64 zff, .int .i64 zfg, .bool zfh]⟩) rfl rfl rfl rfl (fun _ _ _ _ _ => side_no) (fun ids H' fr => opD_load rfl (evV_eq _ _ _ _ _ rfl) ((p23.mono (Nat.zero_le _) fr.ext0.abv).loadN (d := 0) ag84 sz84 rfl rfl)) rfl ?_
     refine WD.cn hp rfl rfl rfl rfl rfl rfl (opD_neS rfl rfl rfl rfl gd84 (eq84 zci zcz zc0 zff zfg zfh)) rfl rfl (fun hc25 hp => ?_) (fun hc25 hp => ?_)
     ·refine WD.done rfl ?_
      subst hK56
      obtain rfl := endS (show some _ = some r from hp)
      exact WJ.rt 205 rfl rfl rfl (fun ids H' fr => ⟨fr.ext0, rfl⟩)
     ·refine WD.done rfl ?_
      exact WJ.ag 208 rfl (by exact ⟨rfl, rfl, rfl, trivial⟩) rfl rfl rfl (ih56 (n, IntKind.i64.wrap (x5 + 1)) hp (Nat.lt_succ_self _))
    ·exact WJ.goto 3 (j56 () hp) rfl rfl (by exact trivial) rfl rfl rfl
/-! 43 tipstaff/tipstaffkit.SameView -/
def f43_l1 (zn : List Reply) (zv : List Reply) : Nat → Int → Option ((Bool) ⊕ (Unit))
 | 0, _ => none
 | n + 1, x5 =>
  if x5 < (zn.length : Int) then
   (rd zn x5).bind fun t51 =>
   (rd zv x5).bind fun t56 =>
   if t51 = t56 then
    f43_l1 zn zv n (IntKind.i64.wrap (x5 + 1))
   else
    some (Sum.inl (false : Bool))
  else
   some (Sum.inr ())
def f43 (k : Nat) (x0 : ViewT) (x1 : ViewT) : Option Bool :=
 if x0.Tick = x1.Tick then
  if x0.Up = x1.Up then
   if x0.Down = x1.Down then
    if x0.Word = x1.Word then
     if (x0.Replies.length : Int) = (x1.Replies.length : Int) then
      (f43_l1 x0.Replies x1.Replies k 0).bind fun s => match s with
       | .inl st => some st
       | .inr _ => 
        (f84 k x0.Sights x1.Sights).bind fun t63 =>
        some t63
     else
      some false
    else
     some false
   else
    some false
  else
   some false
 else
  some false
set_option maxHeartbeats 40000000 in
set_option maxRecDepth 20000 in
theorem f43_ok {k : Nat} {H : Hp} {zo : Option Addr} {zp : Nat} {zq : Option Addr} {zr : Nat} {zw : Option Addr} {zx : Nat} {zy : Option Addr} {zz : Nat} {x0 : ViewT} {x1 : ViewT} {r : Bool} (za6 : SlF 0 H ReplyC zo zp x0.Replies) (za7 : SlF 0 H SightC zq zr x0.Sights) (zb9 : SlF 0 H ReplyC zw zx x1.Replies) (zca : SlF 0 H SightC zy zz x1.Sights) (hp : f43 k x0 x1 = some r) :
  SCall Tryz.prog 43 [.agg ⟨[.int .i64 x0.Tick, .slice zo x0.Replies.length zp, .slice zq x0.Sights.length zr, .int .u64 x0.Up, .int .u64 x0.Down, .int .i64 x0.Word]⟩, .agg ⟨[.int .i64 x1.Tick, .slice zw x1.Replies.length zx, .slice zy x1.Sights.length zz, .int .u64 x1.Up, .int .u64 x1.Down, .int .i64 x1.Word]⟩] H (Ret fun v H' => Ext H H' ∧ R_4 r H.next H' v) := by
 obtain ⟨z0, zn, zs, z1, z2, z3⟩ := x0
 obtain ⟨z8, zv, z6, z9, zaa, zab⟩ := x1
 unfold f43 at hp
 replace hp := topS hp
 refine SCall.g Tryz.func43 rfl rfl rfl rfl rfl (l := [(0, .v (.agg ⟨[.int .i64 z0, .slice zo zn.length zp, .slice zq zs.length zr, .int .u64 z1, .int .u64 z2, .int .i64 z3]⟩)), (1, .v (.agg ⟨[.int .i64 z8, .slice zw zv.length zx, .slice zy z6.length zz, .int .u64 z9, .int .u64 zaa, .int .i64 zab]⟩))]) (fun _ => rfl) (fun B abB => ?_)
 refine WJ.cn 213 hp rfl rfl rfl rfl rfl rfl rfl rfl rfl (fun hc10 hp => ?_) (fun hc10 hp => ?_)
 ·obtain rfl := endS (show some _ = some r from hp)
  exact WJ.rt 236 rfl rfl rfl (fun ids H' fr => ⟨fr.ext0, rfl⟩)
 ·refine WJ.cn 205 hp rfl rfl rfl rfl rfl rfl rfl rfl rfl (fun hc16 hp => ?_) (fun hc16 hp => ?_)
  ·obtain rfl := endS (show some _ = some r from hp)
   exact WJ.rt 230 rfl rfl rfl (fun ids H' fr => ⟨fr.ext0, rfl⟩)
  ·refine WJ.cn 206 hp rfl rfl rfl rfl rfl rfl rfl rfl rfl (fun hc23 hp => ?_) (fun hc23 hp => ?_)
   ·obtain rfl := endS (show some _ = some r from hp)
    exact WJ.rt 223 rfl rfl rfl (fun ids H' fr => ⟨fr.ext0, rfl⟩)
   ·refine WJ.cn 206 hp rfl rfl rfl rfl rfl rfl rfl rfl rfl (fun hc30 hp => ?_) (fun hc30 hp => ?_)
    ·obtain rfl := endS (show some _ = some r from hp)
     exact WJ.rt 216 rfl rfl rfl (fun ids H' fr => ⟨fr.ext0, rfl⟩)
    ·refine WJ.cn 208 hp rfl rfl rfl rfl rfl rfl rfl rfl rfl (fun hc39 hp => ?_) (fun hc39 hp => ?_)
     ·obtain rfl := endS (show some _ = some r from hp)
      exact WJ.rt 207 rfl rfl rfl (fun ids H' fr => ⟨fr.ext0, rfl⟩)
     ·refine WJ.adv 10 rfl ?_
      obtain ⟨K57, hK57, hp⟩ : ∃ K, K = _ ∧ Option.bind _ K = some r := ⟨_, rfl, cutS hp⟩
      refine WJ.cut 2 (α := Unit) (fun y => [(2, .p 0 0), (3, .p 1 0)]) (fun y => [[.int .i64 z0, .slice zo zn.length zp, .slice zq zs.length zr, .int .u64 z1, .int .u64 z2, .int .i64 z3], [.int .i64 z8, .slice zw zv.length zx, .slice zy z6.length zz, .int .u64 z9, .int .u64 zaa, .int .i64 zab]]) (fun y => []) (fun y => B) (fun y => K57 (Sum.inr ()) = some r) ?_ (fun j57 => ?_)
      ·rintro u hp
       subst hK57
       show WJ _ _ _ B [] _ _ ⟨[(2, .p 0 0), (3, .p 1 0)], [[.int .i64 z0, .slice zo zn.length zp, .slice zq zs.length zr, .int .u64 z1, .int .u64 z2, .int .i64 z3], [.int .i64 z8, .slice zw zv.length zx, .slice zy z6.length zz, .int .u64 z9, .int .u64 zaa, .int .i64 zab]], true, 0⟩
       obtain ⟨t63, e63, hp⟩ := bindS hp
       refine WJ.cl 206 (R := R_4 t63) (fun hm h k => R_4.mono hm h k) rfl (fun ids H' fr => f84_ok (za7.mono (Nat.zero_le _) fr.ext0.abv) (zca.mono (Nat.zero_le _) fr.ext0.abv) e63) ?_
       rintro v B1 ⟨abB1, ivB1⟩ rfl
       refine ⟨_, rfl, ?_⟩
       obtain rfl := endS (show some _ = some r from hp)
       exact WJ.rt 202 rfl rfl rfl (fun ids H' fr => ⟨fr.ext0, rfl⟩)
      ·refine WJ.lp 200 (α := Nat × Int) (fun y => [(2, .p 0 0), (3, .p 1 0), (5, .v (.int .i64 y.2))]) (fun y => [[.int .i64 z0, .slice zo zn.length zp, .slice zq zs.length zr, .int .u64 z1, .int .u64 z2, .int .i64 z3], [.int .i64 z8, .slice zw zv.length zx, .slice zy z6.length zz, .int .u64 z9, .int .u64 zaa, .int .i64 zab]]) (fun y => []) (fun y => B) (fun y => y.1) (fun y => Option.bind (f43_l1 zn zv y.1 y.2) K57 = some r) (k, 0) rfl hp (by exact ⟨rfl, rfl, rfl, trivial⟩) rfl rfl rfl ?_
       rintro ⟨n, x5⟩ hp ih57
       show WJ _ _ _ B [] _ _ ⟨[(2, .p 0 0), (3, .p 1 0), (5, .v (.int .i64 x5))], [[.int .i64 z0, .slice zo zn.length zp, .slice zq zs.length zr, .int .u64 z1, .int .u64 z2, .int .i64 z3], [.int .i64 z8, .slice zw zv.length zx, .slice zy z6.length zz, .int .u64 z9, .int .u64 zaa, .int .i64 zab]], true, 0⟩
       replace hp : Option.bind (f43_l1 zn zv n x5) K57 = some r := hp
       cases n with
       | zero => rw [f43_l1] at hp; exact (noS hp).elim
       | succ n =>
        rw [f43_l1] at hp
        refine WJ.ci 207 hp rfl rfl rfl rfl rfl rfl rfl rfl rfl (fun hc45 hp => ?_) (fun hc45 hp => ?_)
        ·refine WJ.dr 206 rfl gmix (by kernel_rfl) (by kernel_rfl) rfl ?_
         obtain ⟨⟨zfi, zfj⟩, e51, hp⟩ := bindS hp
         obtain ⟨b51, o51, cs51, i51, rfl, p51⟩ := za6.at e51 u44 sz87
         refine WD.hd (v := .pointer (some ⟨b51, o51, none⟩)) rfl rfl rfl rfl (fun _ _ _ _ _ => side_no) (fun ids H' fr => opD_indexAddr rfl (evV_eq _ _ _ _ _ rfl) (evV_eq _ _ _ _ _ rfl) (i51 _)) rfl ?_
         refine WD.hd (v := .agg ⟨[.int .i64 zfi, .int .i64 zfj]⟩) rfl rfl rfl rfl (fun _ _ _ _ _ => side_no) (fun ids H' fr => opD_load rfl (evV_eq _ _ _ _ _ rfl) ((p51.mono (Nat.zero_le _) fr.ext0.abv).loadN (d := 0) ag87 sz87 rfl rfl)) rfl ?_
         obtain ⟨⟨zfk, zfl⟩, e56, hp⟩ := bindS hp
         obtain ⟨b56, o56, cs56, i56, rfl, p56⟩ := zb9.at e56 u44 sz87
         refine WD.hd (v := .pointer (some ⟨b56, o56, none⟩)) rfl rfl rfl rfl (fun _ _ _ _ _ => side_no) (fun ids H' fr => opD_indexAddr rfl (evV_eq _ _ _ _ _ rfl) (evV_eq _ _ _ _ _ rfl) (i56 _)) rfl ?_
         refine WD.hd (v := .agg ⟨[.int .i64 zfk, .int .i64 zfl]⟩) rfl rfl rfl rfl (fun _ _ _ _ _ => side_no) (fun ids H' fr => opD_load rfl (evV_eq _ _ _ _ _ rfl) ((p56.mono (Nat.zero_le _) fr.ext0.abv).loadN (d := 0) ag87 sz87 rfl rfl)) rfl ?_
         refine WD.cn hp rfl rfl rfl rfl rfl rfl (opD_neS rfl rfl rfl rfl gd87 (eq87 zfi zfj zfk zfl)) rfl rfl (fun hc58 hp => ?_) (fun hc58 hp => ?_)
         ·refine WD.done rfl ?_
          subst hK57
          obtain rfl := endS (show some _ = some r from hp)
          exact WJ.rt 205 rfl rfl rfl (fun ids H' fr => ⟨fr.ext0, rfl⟩)
         ·refine WD.done rfl ?_
          exact WJ.ag 208 rfl (by exact ⟨rfl, rfl, rfl, trivial⟩) rfl rfl rfl (ih57 (n, IntKind.i64.wrap (x5 + 1)) hp (Nat.lt_succ_self _))
        ·exact WJ.goto 3 (j57 () hp) rfl rfl (by exact ⟨rfl, rfl, trivial⟩) rfl rfl rfl
/-! 14 tipstaff/tipstaffkit.SameViews -/
def f14_l1 (k : Nat) (x0 : List ViewT) (x1 : List ViewT) : Nat → Int → Option ((Bool) ⊕ (Unit))
 | 0, _ => none
 | n + 1, x5 =>
  if x5 < (x0.length : Int) then
   (rd x0 x5).bind fun t19 =>
   (rd x1 x5).bind fun t23 =>
   (f43 k t19 t23).bind fun t25 =>
   if t25 then
    f14_l1 k x0 x1 n (IntKind.i64.wrap (x5 + 1))
   else
    some (Sum.inl (false : Bool))
  else
   some (Sum.inr ())
def f14 (k : Nat) (x0 : List ViewT) (x1 : List ViewT) : Option Bool :=
 if (x0.length : Int) = (x1.length : Int) then
  (f14_l1 k x0 x1 k 0).bind fun s => match s with
   | .inl st => some st
   | .inr _ => 
    some true
 else
  some false
set_option maxHeartbeats 40000000 in
set_option maxRecDepth 20000 in
theorem f14_ok {k : Nat} {H : Hp} {a_x0 : Option Addr} {c_x0 : Nat} {a_x1 : Option Addr} {c_x1 : Nat} {x0 : List ViewT} {x1 : List ViewT} {r : Bool} (g_x0 : SlF 0 H ViewTC a_x0 c_x0 x0) (g_x1 : SlF 0 H ViewTC a_x1 c_x1 x1) (hp : f14 k x0 x1 = some r) :
  SCall Tryz.prog 14 [.slice a_x0 x0.length c_x0, .slice a_x1 x1.length c_x1] H (Ret fun v H' => Ext H H' ∧ R_4 r H.next H' v) := by
 unfold f14 at hp
 replace hp := topS hp
 refine SCall.g Tryz.func14 rfl rfl rfl rfl rfl (l := [(0, .v (.slice a_x0 x0.length c_x0)), (1, .v (.slice a_x1 x1.length c_x1))]) (fun _ => rfl) (fun B abB => ?_)
 refine WJ.cn 211 hp rfl rfl rfl rfl rfl rfl rfl rfl rfl (fun hc10 hp => ?_) (fun hc10 hp => ?_)
 ·obtain rfl := endS (show some _ = some r from hp)
  exact WJ.rt 206 rfl rfl rfl (fun ids H' fr => ⟨fr.ext0, rfl⟩)
 ·refine WJ.adv 9 rfl ?_
  obtain ⟨K58, hK58, hp⟩ : ∃ K, K = _ ∧ Option.bind _ K = some r := ⟨_, rfl, cutS hp⟩
  refine WJ.cut 2 (α := Hp) (fun y => []) (fun y => []) (fun y => []) (fun y => y) (fun y => K58 (Sum.inr ()) = some r) ?_ (fun j58 => ?_)
  ·rintro B3 hp
   subst hK58
   show WJ _ _ _ B3 [] _ _ ⟨[], [], true, 0⟩
   obtain rfl := endS (show some _ = some r from hp)
   exact WJ.rt 204 rfl rfl rfl (fun ids H' fr => ⟨fr.ext0, rfl⟩)
  ·refine WJ.lp 200 (α := Nat × Int × Hp) (fun y => [(0, .v (.slice a_x0 x0.length c_x0)), (1, .v (.slice a_x1 x1.length c_x1)), (5, .v (.int .i64 y.2.1))]) (fun y => []) (fun y => []) (fun y => y.2.2) (fun y => y.1) (fun y => Option.bind (f14_l1 k x0 x1 y.1 y.2.1) K58 = some r) (k, 0, B) rfl hp (by exact ⟨rfl, rfl, rfl, trivial⟩) rfl rfl rfl ?_
   rintro ⟨n, x5, B1⟩ hp ih58
   show WJ _ _ _ B1 [] _ _ ⟨[(0, .v (.slice a_x0 x0.length c_x0)), (1, .v (.slice a_x1 x1.length c_x1)), (5, .v (.int .i64 x5))], [], true, 0⟩
   replace hp : Option.bind (f14_l1 k x0 x1 n x5) K58 = some r := hp
   cases n with
   | zero => rw [f14_l1] at hp; exact (noS hp).elim
   | succ n =>
    rw [f14_l1] at hp
    refine WJ.ci 206 hp rfl rfl rfl rfl rfl rfl rfl rfl rfl (fun hc14 hp => ?_) (fun hc14 hp => ?_)
    ·refine WJ.dr 206 rfl gmix (by kernel_rfl) (by kernel_rfl) rfl ?_
     obtain ⟨⟨zcb, zcc, zcd, zdk, zdl, zdm⟩, e19, hp⟩ := bindS hp
     obtain ⟨b19, o19, cs19, i19, ⟨zcn, zco, zcp, zcq, rfl, zae, zaf⟩, p19⟩ := g_x0.at e19 u23 sz48
     refine WD.hd (v := .pointer (some ⟨b19, o19, none⟩)) rfl rfl rfl rfl (fun _ _ _ _ _ => side_no) (fun ids H' fr => opD_indexAddr rfl (evV_eq _ _ _ _ _ rfl) (evV_eq _ _ _ _ _ rfl) (i19 _)) rfl ?_
     refine WD.hd (v := .agg ⟨[.int .i64 zcb, .slice zcn zcc.length zco, .slice zcp zcd.length zcq, .int .u64 zdk, .int .u64 zdl, .int .i64 zdm]⟩) rfl rfl rfl rfl (fun _ _ _ _ _ => side_no) (fun ids H' fr => opD_load rfl (evV_eq _ _ _ _ _ rfl) ((p19.mono (Nat.zero_le _) fr.ext0.abv).loadN (d := 0) ag48 sz48 rfl rfl)) rfl ?_
     obtain ⟨⟨zcr, zdn, zdo, zdp, zdq, zdr⟩, e23, hp⟩ := bindS hp
     obtain ⟨b23, o23, cs23, i23, ⟨ze1, ze2, ze3, ze4, rfl, ze5, ze6⟩, p23⟩ := g_x1.at e23 u23 sz48
     refine WD.hd (v := .pointer (some ⟨b23, o23, none⟩)) rfl rfl rfl rfl (fun _ _ _ _ _ => side_no) (fun ids H' fr => opD_indexAddr rfl (evV_eq _ _ _ _ _ rfl) (evV_eq _ _ _ _ _ rfl) (i23 _)) rfl ?_
     refine WD.hd (v := .agg ⟨[.int .i64 zcr, .slice ze1 zdn.length ze2, .slice ze3 zdo.length ze4, .int .u64 zdp, .int .u64 zdq, .int .i64 zdr]⟩) rfl rfl rfl rfl (fun _ _ _ _ _ => side_no) (fun ids H' fr => opD_load rfl (evV_eq _ _ _ _ _ rfl) ((p23.mono (Nat.zero_le _) fr.ext0.abv).loadN (d := 0) ag48 sz48 rfl rfl)) rfl ?_
     obtain ⟨t25, e25, hp⟩ := bindS hp
     refine WD.cl (R := R_4 t25) (fun hm h k => R_4.mono hm h k) rfl (fun ids H' fr => f43_ok (x0 := (ViewT.mk zcb zcc zcd zdk zdl zdm)) (x1 := (ViewT.mk zcr zdn zdo zdp zdq zdr)) (zae.mono (Nat.zero_le _) fr.ext0.abv) (zaf.mono (Nat.zero_le _) fr.ext0.abv) (ze5.mono (Nat.zero_le _) fr.ext0.abv) (ze6.mono (Nat.zero_le _) fr.ext0.abv) e25) ?_
     rintro v B2 ⟨abB2, ivB2⟩ rfl
     refine ⟨_, rfl, ?_⟩
     cases t25
     ·replace hp := (itS hp).2 Bool.false_ne_true
      refine WD.done rfl ?_
      subst hK58
      obtain rfl := endS (show some _ = some r from hp)
      exact WJ.rt 205 rfl rfl rfl (fun ids H' fr => ⟨fr.ext0, rfl⟩)
     ·replace hp := (itS hp).1 rfl
      refine WD.done rfl ?_
      exact WJ.ag 208 rfl (by exact ⟨rfl, rfl, rfl, trivial⟩) rfl rfl rfl (ih58 (n, IntKind.i64.wrap (x5 + 1), B2) hp (Nat.lt_succ_self _))
    ·exact WJ.goto 3 (j58 B1 hp) rfl rfl (by exact trivial) rfl rfl rfl
/-! 8 tipstaff/tipstafflaw38.TraceCompares -/
def f8 (k : Nat) (x0 : List ViewT) (x1 : List ViewT) (x2 : Part) : Option Bool :=
 (f18 k x0).bind fun t20 =>
 if t20 then
  (f18 k x1).bind fun t24 =>
  if t24 then
   (f17 k x0).bind fun t29 =>
   (f17 k x1).bind fun t31 =>
   (f29 k t29 t31).bind fun (t35_0, t35_1) =>
   (f30 k x0 x1).bind fun (t41_0, t41_1) =>
   (f31 k t29 t31).bind fun (t47_0, t47_1) =>
   (f32 k x0 x1).bind fun (t53_0, t53_1) =>
   if t35_0 = t41_0 then
    if t35_1 = t41_1 then
     (some (!(t47_0 == t53_0))).bind fun t67 =>
     if t67 then
      some false
     else
      if t47_1 = t53_1 then
       (f33 k t29 x2.From x2.To).bind fun (t80_0, t80_1) =>
       (f34 k x0 x2.From x2.To).bind fun (t89_0, t89_1) =>
       (f14 k t80_0 t89_0).bind fun t94 =>
       if t94 then
        if t80_1 = t89_1 then
         (f14 k t29 x0).bind fun t103 =>
         if t103 then
          (f14 k t31 x1).bind fun t108 =>
          if t108 then
           (f11).bind fun t111 =>
           some t111
          else
           some false
         else
          some false
        else
         some false
       else
        some false
      else
       some false
    else
     some false
   else
    some false
  else
   (f11).bind fun t27 =>
   some t27
 else
  (f11).bind fun t27 =>
  some t27
set_option maxHeartbeats 40000000 in
set_option maxRecDepth 20000 in
theorem f8_ok {k : Nat} {H : Hp} {a_x0 : Option Addr} {c_x0 : Nat} {a_x1 : Option Addr} {c_x1 : Nat} {x0 : List ViewT} {x1 : List ViewT} {x2 : Part} {r : Bool} (g_x0 : SlF 0 H ViewTC a_x0 c_x0 x0) (g_x1 : SlF 0 H ViewTC a_x1 c_x1 x1) (hp : f8 k x0 x1 x2 = some r) :
  SCall Tryz.prog 8 [.slice a_x0 x0.length c_x0, .slice a_x1 x1.length c_x1, .agg ⟨[.int .i64 x2.From, .int .i64 x2.To]⟩] H (Ret fun v H' => Ext H H' ∧ R_4 r H.next H' v) := by
 obtain ⟨zgr, zgs⟩ := x2
 unfold f8 at hp
 replace hp := topS hp
 refine SCall.g Tryz.func8 rfl rfl rfl rfl rfl (l := [(0, .v (.slice a_x0 x0.length c_x0)), (1, .v (.slice a_x1 x1.length c_x1)), (2, .v (.agg ⟨[.int .i64 zgr, .int .i64 zgs]⟩))]) (fun _ => rfl) (fun B abB => ?_)
 obtain ⟨t20, e20, hp⟩ := bindS hp
 refine WJ.cl 209 (R := R_4 t20) (fun hm h k => R_4.mono hm h k) rfl (fun ids H' fr => f18_ok (g_x0.mono (Nat.zero_le _) fr.ext0.abv) e20) ?_
 rintro v B1 ⟨abB1, ivB1⟩ rfl
 refine ⟨_, rfl, ?_⟩
 cases t20
 ·replace hp := (itS hp).2 Bool.false_ne_true
  obtain ⟨t27, e27, hp⟩ := bindS hp
  refine WJ.cl 210 (R := R_4 t27) (fun hm h k => R_4.mono hm h k) rfl (fun ids H' fr => f11_ok e27) ?_
  rintro v B2 ⟨abB2, ivB2⟩ rfl
  refine ⟨_, rfl, ?_⟩
  obtain rfl := endS (show some _ = some r from hp)
  exact WJ.rt 202 rfl rfl rfl (fun ids H' fr => ⟨fr.ext0, rfl⟩)
 ·replace hp := (itS hp).1 rfl
  obtain ⟨t24, e24, hp⟩ := bindS hp
  refine WJ.cl 203 (R := R_4 t24) (fun hm h k => R_4.mono hm h k) rfl (fun ids H' fr => f18_ok (g_x1.mono (Nat.zero_le _) fr.ext0.abv) e24) ?_
  rintro v B3 ⟨abB3, ivB3⟩ rfl
  refine ⟨_, rfl, ?_⟩
  cases t24
  ·replace hp := (itS hp).2 Bool.false_ne_true
   obtain ⟨t27, e27, hp⟩ := bindS hp
   refine WJ.cl 206 (R := R_4 t27) (fun hm h k => R_4.mono hm h k) rfl (fun ids H' fr => f11_ok e27) ?_
   rintro v B4 ⟨abB4, ivB4⟩ rfl
   refine ⟨_, rfl, ?_⟩
   obtain rfl := endS (show some _ = some r from hp)
   exact WJ.rt 202 rfl rfl rfl (fun ids H' fr => ⟨fr.ext0, rfl⟩)
  ·replace hp := (itS hp).1 rfl
   obtain ⟨t29, e29, hp⟩ := bindS hp
   refine WJ.cl 208 (R := R_23 t29) (fun hm h k => R_23.mono hm h k) rfl (fun ids H' fr => f17_ok (g_x0.mono (Nat.zero_le _) fr.ext0.abv) e29) ?_
   rintro v B5 ⟨abB5, ivB5⟩ ⟨a_t29, c_t29, rfl, g_t29⟩
   refine ⟨_, rfl, ?_⟩
   obtain ⟨t31, e31, hp⟩ := bindS hp
   refine WJ.cl 201 (R := R_23 t31) (fun hm h k => R_23.mono hm h k) rfl (fun ids H' fr => f17_ok (g_x1.mono (Nat.zero_le _) fr.ext0.abv) e31) ?_
   rintro v B6 ⟨abB6, ivB6⟩ ⟨a_t31, c_t31, rfl, g_t31⟩
   refine ⟨_, rfl, ?_⟩
   replace g_t29 := g_t29.mono (Nat.le_refl _) (abB6.le (Nat.zero_le _))
   obtain ⟨⟨t35_0, t35_1⟩, e35, hp⟩ := bindS hp
   refine WJ.cl 207 (R := R_3_24 ⟨t35_0, t35_1⟩) (fun hm h k => R_3_24.mono hm h k) rfl (fun ids H' fr => f29_ok (g_t29.mono (Nat.zero_le _) (fr.abv.le (Nat.zero_le _))) (g_t31.mono (Nat.zero_le _) (fr.abv.le (Nat.zero_le _))) e35) ?_
   rintro v B7 ⟨abB7, ivB7⟩ rfl
   refine ⟨_, rfl, ?_⟩
   replace g_t29 := g_t29.mono (Nat.le_refl _) (abB7.le (Nat.zero_le _))
   replace g_t31 := g_t31.mono (Nat.le_refl _) (abB7.le (Nat.zero_le _))
   obtain ⟨⟨t41_0, t41_1⟩, e41, hp⟩ := bindS hp
   refine WJ.cl 210 (R := R_3_24 ⟨t41_0, t41_1⟩) (fun hm h k => R_3_24.mono hm h k) rfl (fun ids H' fr => f30_ok (g_x0.mono (Nat.zero_le _) fr.ext0.abv) (g_x1.mono (Nat.zero_le _) fr.ext0.abv) e41) ?_
   rintro v B8 ⟨abB8, ivB8⟩ rfl
   refine ⟨_, rfl, ?_⟩
   replace g_t29 := g_t29.mono (Nat.le_refl _) (abB8.le (Nat.zero_le _))
   replace g_t31 := g_t31.mono (Nat.le_refl _) (abB8.le (Nat.zero_le _))
   obtain ⟨⟨t47_0, t47_1⟩, e47, hp⟩ := bindS hp
   refine WJ.cl 210 (R := R_4_24 ⟨t47_0, t47_1⟩) (fun hm h k => R_4_24.mono hm h k) rfl (fun ids H' fr => f31_ok (g_t29.mono (Nat.zero_le _) (fr.abv.le (Nat.zero_le _))) (g_t31.mono (Nat.zero_le _) (fr.abv.le (Nat.zero_le _))) e47) ?_
   rintro v B9 ⟨abB9, ivB9⟩ rfl
   refine ⟨_, rfl, ?_⟩
   replace g_t29 := g_t29.mono (Nat.le_refl _) (abB9.le (Nat.zero_le _))
   replace g_t31 := g_t31.mono (Nat.le_refl _) (abB9.le (Nat.zero_le _))
   obtain ⟨⟨t53_0, t53_1⟩, e53, hp⟩ := bindS hp
   refine WJ.cl 210 (R := R_4_24 ⟨t53_0, t53_1⟩) (fun hm h k => R_4_24.mono hm h k) rfl (fun ids H' fr => f32_ok (g_x0.mono (Nat.zero_le _) fr.ext0.abv) (g_x1.mono (Nat.zero_le _) fr.ext0.abv) e53) ?_
   rintro v B10 ⟨abB10, ivB10⟩ rfl
   refine ⟨_, rfl, ?_⟩
   replace g_t29 := g_t29.mono (Nat.le_refl _) (abB10.le (Nat.zero_le _))
   replace g_t31 := g_t31.mono (Nat.le_refl _) (abB10.le (Nat.zero_le _))
   refine WJ.cn 211 hp rfl rfl rfl rfl rfl rfl rfl rfl rfl (fun hc58 hp => ?_) (fun hc58 hp => ?_)
   ·obtain rfl := endS (show some _ = some r from hp)
    exact WJ.rt 221 rfl rfl rfl (fun ids H' fr => ⟨fr.ext0, rfl⟩)
   ·refine WJ.cn 203 hp rfl rfl rfl rfl rfl rfl rfl rfl rfl (fun hc62 hp => ?_) (fun hc62 hp => ?_)
    ·obtain rfl := endS (show some _ = some r from hp)
     exact WJ.rt 217 rfl rfl rfl (fun ids H' fr => ⟨fr.ext0, rfl⟩)
    ·obtain ⟨t67, e67, hp⟩ := bindS hp
     refine WJ.cv 204 (b := t67) (H0 := ⟨.nil, 0, 0⟩) rfl rfl rfl rfl rfl rfl (by rw [← endS e67]; exact rfl) rfl ?_
     cases t67
     ·replace hp := (itS hp).2 Bool.false_ne_true
      refine WJ.cn 204 hp rfl rfl rfl rfl rfl rfl rfl rfl rfl (fun hc72 hp => ?_) (fun hc72 hp => ?_)
      ·obtain rfl := endS (show some _ = some r from hp)
       exact WJ.rt 207 rfl rfl rfl (fun ids H' fr => ⟨fr.ext0, rfl⟩)
      ·obtain ⟨⟨t80_0, t80_1⟩, e80, hp⟩ := bindS hp
       refine WJ.cl 211 (R := R_23_24 ⟨t80_0, t80_1⟩) (fun hm h k => R_23_24.mono hm h k) rfl (fun ids H' fr => f33_ok (g_t29.mono (Nat.zero_le _) (fr.abv.le (Nat.zero_le _))) e80) ?_
       rintro v B11 ⟨abB11, ivB11⟩ ⟨a_t80_0, c_t80_0, rfl, g_t80_0⟩
       refine ⟨_, rfl, ?_⟩
       replace g_t29 := g_t29.mono (Nat.le_refl _) (abB11.le (Nat.zero_le _))
       replace g_t31 := g_t31.mono (Nat.le_refl _) (abB11.le (Nat.zero_le _))
       obtain ⟨⟨t89_0, t89_1⟩, e89, hp⟩ := bindS hp
       refine WJ.cl 213 (R := R_23_24 ⟨t89_0, t89_1⟩) (fun hm h k => R_23_24.mono hm h k) rfl (fun ids H' fr => f34_ok (g_x0.mono (Nat.zero_le _) fr.ext0.abv) e89) ?_
       rintro v B12 ⟨abB12, ivB12⟩ ⟨a_t89_0, c_t89_0, rfl, g_t89_0⟩
       refine ⟨_, rfl, ?_⟩
       replace g_t29 := g_t29.mono (Nat.le_refl _) (abB12.le (Nat.zero_le _))
       replace g_t31 := g_t31.mono (Nat.le_refl _) (abB12.le (Nat.zero_le _))
       replace g_t80_0 := g_t80_0.mono (Nat.le_refl _) (abB12.le (Nat.zero_le _))
       obtain ⟨t94, e94, hp⟩ := bindS hp
       refine WJ.cl 210 (R := R_4 t94) (fun hm h k => R_4.mono hm h k) rfl (fun ids H' fr => f14_ok (g_t80_0.mono (Nat.zero_le _) (fr.abv.le (Nat.zero_le _))) (g_t89_0.mono (Nat.zero_le _) (fr.abv.le (Nat.zero_le _))) e94) ?_
       rintro v B13 ⟨abB13, ivB13⟩ rfl
       refine ⟨_, rfl, ?_⟩
       replace g_t29 := g_t29.mono (Nat.le_refl _) (abB13.le (Nat.zero_le _))
       replace g_t31 := g_t31.mono (Nat.le_refl _) (abB13.le (Nat.zero_le _))
       replace g_t80_0 := g_t80_0.mono (Nat.le_refl _) (abB13.le (Nat.zero_le _))
       replace g_t89_0 := g_t89_0.mono (Nat.le_refl _) (abB13.le (Nat.zero_le _))
       cases t94
       ·replace hp := (itS hp).2 Bool.false_ne_true
        obtain rfl := endS (show some _ = some r from hp)
        exact WJ.rt 220 rfl rfl rfl (fun ids H' fr => ⟨fr.ext0, rfl⟩)
       ·replace hp := (itS hp).1 rfl
        refine WJ.ci 203 hp rfl rfl rfl rfl rfl rfl rfl rfl rfl (fun hc98 hp => ?_) (fun hc98 hp => ?_)
        ·obtain ⟨t103, e103, hp⟩ := bindS hp
         refine WJ.cl 204 (R := R_4 t103) (fun hm h k => R_4.mono hm h k) rfl (fun ids H' fr => f14_ok (g_t29.mono (Nat.zero_le _) (fr.abv.le (Nat.zero_le _))) (g_x0.mono (Nat.zero_le _) fr.ext0.abv) e103) ?_
         rintro v B14 ⟨abB14, ivB14⟩ rfl
         refine ⟨_, rfl, ?_⟩
         replace g_t29 := g_t29.mono (Nat.le_refl _) (abB14.le (Nat.zero_le _))
         replace g_t31 := g_t31.mono (Nat.le_refl _) (abB14.le (Nat.zero_le _))
         replace g_t80_0 := g_t80_0.mono (Nat.le_refl _) (abB14.le (Nat.zero_le _))
         replace g_t89_0 := g_t89_0.mono (Nat.le_refl _) (abB14.le (Nat.zero_le _))
         cases t103
         ·replace hp := (itS hp).2 Bool.false_ne_true
          obtain rfl := endS (show some _ = some r from hp)
          exact WJ.rt 211 rfl rfl rfl (fun ids H' fr => ⟨fr.ext0, rfl⟩)
         ·replace hp := (itS hp).1 rfl
          obtain ⟨t108, e108, hp⟩ := bindS hp
          refine WJ.cl 204 (R := R_4 t108) (fun hm h k => R_4.mono hm h k) rfl (fun ids H' fr => f14_ok (g_t31.mono (Nat.zero_le _) (fr.abv.le (Nat.zero_le _))) (g_x1.mono (Nat.zero_le _) fr.ext0.abv) e108) ?_
          rintro v B15 ⟨abB15, ivB15⟩ rfl
          refine ⟨_, rfl, ?_⟩
          replace g_t29 := g_t29.mono (Nat.le_refl _) (abB15.le (Nat.zero_le _))
          replace g_t31 := g_t31.mono (Nat.le_refl _) (abB15.le (Nat.zero_le _))
          replace g_t80_0 := g_t80_0.mono (Nat.le_refl _) (abB15.le (Nat.zero_le _))
          replace g_t89_0 := g_t89_0.mono (Nat.le_refl _) (abB15.le (Nat.zero_le _))
          cases t108
          ·replace hp := (itS hp).2 Bool.false_ne_true
           obtain rfl := endS (show some _ = some r from hp)
           exact WJ.rt 206 rfl rfl rfl (fun ids H' fr => ⟨fr.ext0, rfl⟩)
          ·replace hp := (itS hp).1 rfl
           obtain ⟨t111, e111, hp⟩ := bindS hp
           refine WJ.cl 202 (R := R_4 t111) (fun hm h k => R_4.mono hm h k) rfl (fun ids H' fr => f11_ok e111) ?_
           rintro v B16 ⟨abB16, ivB16⟩ rfl
           refine ⟨_, rfl, ?_⟩
           replace g_t29 := g_t29.mono (Nat.le_refl _) (abB16.le (Nat.zero_le _))
           replace g_t31 := g_t31.mono (Nat.le_refl _) (abB16.le (Nat.zero_le _))
           replace g_t80_0 := g_t80_0.mono (Nat.le_refl _) (abB16.le (Nat.zero_le _))
           replace g_t89_0 := g_t89_0.mono (Nat.le_refl _) (abB16.le (Nat.zero_le _))
           obtain rfl := endS (show some _ = some r from hp)
           exact WJ.rt 203 rfl rfl rfl (fun ids H' fr => ⟨fr.ext0, rfl⟩)
        ·obtain rfl := endS (show some _ = some r from hp)
         exact WJ.rt 216 rfl rfl rfl (fun ids H' fr => ⟨fr.ext0, rfl⟩)
     ·replace hp := (itS hp).1 rfl
      obtain rfl := endS (show some _ = some r from hp)
      exact WJ.rt 212 rfl rfl rfl (fun ids H' fr => ⟨fr.ext0, rfl⟩)
end
end Go.Proofs.YtppedainpmjbmaaGreatDoor
