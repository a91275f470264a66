import Derived.Test.YthemdclmlcblbaaDoorFB
set_option linter.unusedVariables false
set_option linter.unusedSimpArgs false
namespace Go.Proofs.YthemdclmlcblbaaDoor
open Go Go.Det Go.RowKit
noncomputable section
/-! 7 tipstaff/config.Times -/
def f7 (k : Nat) (x0 : Config) : Option (Times × Int) :=
 (f9 k x0).bind fun t9 =>
 if t9 = 0 then
  (f24 k x0.Gaps).bind fun (t17_0, t17_1) =>
  (f25 k x0 t17_0).bind fun t22 =>
  (f26 (DoorRule.mk x0.Width x0.Dwell x0.Retries)).bind fun (t32_0, t32_1) =>
  some ((Times.mk t22 t32_0 (IntKind.i64.wrap (t22 + t32_0)) (IntKind.i64.wrap (t22 + (IntKind.i64.wrap ((IntKind.i64.wrap (x0.Trips + 1)) * (IntKind.i64.wrap (t22 + t32_0)))))) (IntKind.i64.wrap (x0.Slots * (IntKind.i64.wrap (t22 + (IntKind.i64.wrap ((IntKind.i64.wrap (x0.Trips + 1)) * (IntKind.i64.wrap (t22 + t32_0))))))))), 0)
 else
  some ((Times.mk 0 0 0 0 0), t9)
set_option maxHeartbeats 40000000 in
set_option maxRecDepth 20000 in
theorem f7_ok {k : Nat} {H : Hp} {zr : Option Addr} {zs : Nat} {zd : Option Addr} {ze : Nat} {zi : Option Addr} {zj : Nat} {x0 : Config} {r : Times × Int} (z8 : SlF 0 H intC zr zs x0.Gaps) (z9 : SlF 0 H (slC intC) zd ze x0.Rota) (zaa : SlF 0 H intC zi zj x0.Keys) (hp : f7 k x0 = some r) :
  SCall Tryd.prog 7 [.agg ⟨[.int .i64 x0.Floors, .slice zr x0.Gaps.length zs, .int .i64 x0.Cars, .int .i64 x0.Speed, .int .i64 x0.Brake, .int .i64 x0.Tol, .int .i64 x0.Width, .int .i64 x0.Dwell, .int .i64 x0.Retries, .int .i64 x0.Empty, .int .i64 x0.Full, .int .i64 x0.Trips, .int .i64 x0.Slots, .slice zd x0.Rota.length ze, .int .u64 x0.Rules_0_Mask, .int .i64 x0.Rules_0_Home, .int .i64 x0.Rules_0_Calls, .int .u64 x0.Rules_1_Mask, .int .i64 x0.Rules_1_Home, .int .i64 x0.Rules_1_Calls, .int .u64 x0.Rules_2_Mask, .int .i64 x0.Rules_2_Home, .int .i64 x0.Rules_2_Calls, .slice zi x0.Keys.length zj, .int .i64 x0.Life]⟩] H (Ret fun v H' => Ext H H' ∧ R_34_35 r H.next H' v) := by
 obtain ⟨zn, zt, zy, zz, z0, z1, zv, zw, zx, zq, z2, z3, zu, za, zb, zc, zg, zf, zk, zm, zl, zo, zp, zh, z4⟩ := x0
 unfold f7 at hp
 replace hp := topS hp
 refine SCall.g Tryd.func7 rfl rfl rfl rfl rfl (l := [(0, .v (.agg ⟨[.int .i64 zn, .slice zr zt.length zs, .int .i64 zy, .int .i64 zz, .int .i64 z0, .int .i64 z1, .int .i64 zv, .int .i64 zw, .int .i64 zx, .int .i64 zq, .int .i64 z2, .int .i64 z3, .int .i64 zu, .slice zd za.length ze, .int .u64 zb, .int .i64 zc, .int .i64 zg, .int .u64 zf, .int .i64 zk, .int .i64 zm, .int .u64 zl, .int .i64 zo, .int .i64 zp, .slice zi zh.length zj, .int .i64 z4]⟩))]) (fun _ => rfl) (fun B abB => ?_)
 obtain ⟨t9, e9, hp⟩ := bindS hp
 refine WJ.cl 210 (R := R_35 t9) (fun hm h k => R_35.mono hm h k) rfl (fun ids H' fr => f9_ok (x0 := (Config.mk zn zt zy zz z0 z1 zv zw zx zq z2 z3 zu za zb zc zg zf zk zm zl zo zp zh z4)) (z8.mono (Nat.zero_le _) fr.ext0.abv) (z9.mono (Nat.zero_le _) fr.ext0.abv) (zaa.mono (Nat.zero_le _) fr.ext0.abv) e9) ?_
 rintro v B1 ⟨abB1, ivB1⟩ rfl
 refine ⟨_, rfl, ?_⟩
 refine WJ.cn 205 hp rfl rfl rfl rfl rfl rfl rfl rfl rfl (fun hc11 hp => ?_) (fun hc11 hp => ?_)
 ·obtain rfl := endS (show some _ = some r from hp)
  exact WJ.rt 209 rfl rfl rfl (fun ids H' fr => ⟨fr.ext0, rfl⟩)
 ·obtain ⟨⟨t17_0, t17_1⟩, e17, hp⟩ := bindS hp
  refine WJ.cl 207 (R := R_3_35 ⟨t17_0, t17_1⟩) (fun hm h k => R_3_35.mono hm h k) rfl (fun ids H' fr => f24_ok (z8.mono (Nat.zero_le _) fr.ext0.abv) e17) ?_
  rintro v B2 ⟨abB2, ivB2⟩ rfl
  refine ⟨_, rfl, ?_⟩
  obtain ⟨t22, e22, hp⟩ := bindS hp
  refine WJ.cl 210 (R := R_3 t22) (fun hm h k => R_3.mono hm h k) rfl (fun ids H' fr => f25_ok (x0 := (Config.mk zn zt zy zz z0 z1 zv zw zx zq z2 z3 zu za zb zc zg zf zk zm zl zo zp zh z4)) (z8.mono (Nat.zero_le _) fr.ext0.abv) (z9.mono (Nat.zero_le _) fr.ext0.abv) (zaa.mono (Nat.zero_le _) fr.ext0.abv) e22) ?_
  rintro v B3 ⟨abB3, ivB3⟩ rfl
  refine ⟨_, rfl, ?_⟩
  obtain ⟨⟨t32_0, t32_1⟩, e32, hp⟩ := bindS hp
  refine WJ.cl 213 (R := R_3_35 ⟨t32_0, t32_1⟩) (fun hm h k => R_3_35.mono hm h k) rfl (fun ids H' fr => f26_ok (x0 := (DoorRule.mk zv zw zx)) e32) ?_
  rintro v B4 ⟨abB4, ivB4⟩ rfl
  refine ⟨_, rfl, ?_⟩
  obtain rfl := endS (show some _ = some r from hp)
  exact WJ.rt 246 rfl rfl rfl (fun ids H' fr => ⟨fr.ext0, rfl⟩)
/-! 10 tipstaff/tipstaffref27.Check -/
def f10_l1 (zt : List Int) : Nat → Int → Option ((Int) ⊕ (Unit))
 | 0, _ => none
 | n + 1, x3 =>
  if x3 < (zt.length : Int) then
   (rd zt x3).bind fun t25 =>
   (f34 t25 1 1000).bind fun t27 =>
   if t27 then
    f10_l1 zt n (IntKind.i64.wrap (x3 + 1))
   else
    some (Sum.inl (2 : Int))
  else
   some (Sum.inr ())
def f10 (k : Nat) (x0 : Config) : Option Int :=
 (f33 x0).bind fun t6 =>
 if t6 then
  if (x0.Gaps.length : Int) = (IntKind.i64.wrap (x0.Floors - 1)) then
   (f10_l1 x0.Gaps k 0).bind fun s => match s with
    | .inl st => some st
    | .inr _ => 
     (f35 k x0).bind fun t30 =>
     if t30 = 0 then
      (f36 k x0).bind fun t35 =>
      some t35
     else
      some t30
  else
   some 3
 else
  some 2
set_option maxHeartbeats 40000000 in
set_option maxRecDepth 20000 in
theorem f10_ok {k : Nat} {H : Hp} {zr : Option Addr} {zs : Nat} {zd : Option Addr} {ze : Nat} {zi : Option Addr} {zj : Nat} {x0 : Config} {r : Int} (z8 : SlF 0 H intC zr zs x0.Gaps) (z9 : SlF 0 H (slC intC) zd ze x0.Rota) (zaa : SlF 0 H intC zi zj x0.Keys) (hp : f10 k x0 = some r) :
  SCall Tryd.prog 10 [.agg ⟨[.int .i64 x0.Floors, .slice zr x0.Gaps.length zs, .int .i64 x0.Cars, .int .i64 x0.Speed, .int .i64 x0.Brake, .int .i64 x0.Tol, .int .i64 x0.Width, .int .i64 x0.Dwell, .int .i64 x0.Retries, .int .i64 x0.Empty, .int .i64 x0.Full, .int .i64 x0.Trips, .int .i64 x0.Slots, .slice zd x0.Rota.length ze, .int .u64 x0.Rules_0_Mask, .int .i64 x0.Rules_0_Home, .int .i64 x0.Rules_0_Calls, .int .u64 x0.Rules_1_Mask, .int .i64 x0.Rules_1_Home, .int .i64 x0.Rules_1_Calls, .int .u64 x0.Rules_2_Mask, .int .i64 x0.Rules_2_Home, .int .i64 x0.Rules_2_Calls, .slice zi x0.Keys.length zj, .int .i64 x0.Life]⟩] H (Ret fun v H' => Ext H H' ∧ R_35 r H.next H' v) := by
 obtain ⟨zn, zt, zy, zz, z0, z1, zv, zw, zx, zq, z2, z3, zu, za, zb, zc, zg, zf, zk, zm, zl, zo, zp, zh, z4⟩ := x0
 unfold f10 at hp
 replace hp := topS hp
 refine SCall.g Tryd.func10 rfl rfl rfl rfl rfl (l := [(0, .v (.agg ⟨[.int .i64 zn, .slice zr zt.length zs, .int .i64 zy, .int .i64 zz, .int .i64 z0, .int .i64 z1, .int .i64 zv, .int .i64 zw, .int .i64 zx, .int .i64 zq, .int .i64 z2, .int .i64 z3, .int .i64 zu, .slice zd za.length ze, .int .u64 zb, .int .i64 zc, .int .i64 zg, .int .u64 zf, .int .i64 zk, .int .i64 zm, .int .u64 zl, .int .i64 zo, .int .i64 zp, .slice zi zh.length zj, .int .i64 z4]⟩))]) (fun _ => rfl) (fun B abB => ?_)
 obtain ⟨t6, e6, hp⟩ := bindS hp
 refine WJ.cl 209 (R := R_4 t6) (fun hm h k => R_4.mono hm h k) rfl (fun ids H' fr => f33_ok (x0 := (Config.mk zn zt zy zz z0 z1 zv zw zx zq z2 z3 zu za zb zc zg zf zk zm zl zo zp zh z4)) (z8.mono (Nat.zero_le _) fr.ext0.abv) (z9.mono (Nat.zero_le _) fr.ext0.abv) (zaa.mono (Nat.zero_le _) fr.ext0.abv) e6) ?_
 rintro v B1 ⟨abB1, ivB1⟩ rfl
 refine ⟨_, rfl, ?_⟩
 cases t6
 ·replace hp := (itS hp).2 Bool.false_ne_true
  obtain rfl := endS (show some _ = some r from hp)
  exact WJ.rt 207 rfl rfl rfl (fun ids H' fr => ⟨fr.ext0, rfl⟩)
 ·replace hp := (itS hp).1 rfl
  refine WJ.cn 213 hp rfl rfl rfl rfl rfl rfl rfl rfl rfl (fun hc14 hp => ?_) (fun hc14 hp => ?_)
  ·obtain rfl := endS (show some _ = some r from hp)
   exact WJ.rt 206 rfl rfl rfl (fun ids H' fr => ⟨fr.ext0, rfl⟩)
  ·refine WJ.adv 9 rfl ?_
   obtain ⟨K37, hK37, hp⟩ : ∃ K, K = _ ∧ Option.bind _ K = some r := ⟨_, rfl, cutS hp⟩
   refine WJ.cut 2 (α := Hp) (fun y => [(1, .p 0 0)]) (fun y => [[.int .i64 zn, .slice zr zt.length zs, .int .i64 zy, .int .i64 zz, .int .i64 z0, .int .i64 z1, .int .i64 zv, .int .i64 zw, .int .i64 zx, .int .i64 zq, .int .i64 z2, .int .i64 z3, .int .i64 zu, .slice zd za.length ze, .int .u64 zb, .int .i64 zc, .int .i64 zg, .int .u64 zf, .int .i64 zk, .int .i64 zm, .int .u64 zl, .int .i64 zo, .int .i64 zp, .slice zi zh.length zj, .int .i64 z4]]) (fun y => []) (fun y => y) (fun y => K37 (Sum.inr ()) = some r) ?_ (fun j37 => ?_)
   ·rintro B4 hp
    subst hK37
    show WJ _ _ _ B4 [] _ _ ⟨[(1, .p 0 0)], [[.int .i64 zn, .slice zr zt.length zs, .int .i64 zy, .int .i64 zz, .int .i64 z0, .int .i64 z1, .int .i64 zv, .int .i64 zw, .int .i64 zx, .int .i64 zq, .int .i64 z2, .int .i64 z3, .int .i64 zu, .slice zd za.length ze, .int .u64 zb, .int .i64 zc, .int .i64 zg, .int .u64 zf, .int .i64 zk, .int .i64 zm, .int .u64 zl, .int .i64 zo, .int .i64 zp, .slice zi zh.length zj, .int .i64 z4]], true, 0⟩
    obtain ⟨t30, e30, hp⟩ := bindS hp
    refine WJ.cl 203 (R := R_35 t30) (fun hm h k => R_35.mono hm h k) rfl (fun ids H' fr => f35_ok (x0 := (Config.mk zn zt zy zz z0 z1 zv zw zx zq z2 z3 zu za zb zc zg zf zk zm zl zo zp zh z4)) (z8.mono (Nat.zero_le _) fr.ext0.abv) (z9.mono (Nat.zero_le _) fr.ext0.abv) (zaa.mono (Nat.zero_le _) fr.ext0.abv) e30) ?_
    rintro v B5 ⟨abB5, ivB5⟩ rfl
    refine ⟨_, rfl, ?_⟩
    refine WJ.cn 206 hp rfl rfl rfl rfl rfl rfl rfl rfl rfl (fun hc32 hp => ?_) (fun hc32 hp => ?_)
    ·obtain rfl := endS (show some _ = some r from hp)
     exact WJ.rt 207 rfl rfl rfl (fun ids H' fr => ⟨fr.ext0, rfl⟩)
    ·obtain ⟨t35, e35, hp⟩ := bindS hp
     refine WJ.cl 206 (R := R_35 t35) (fun hm h k => R_35.mono hm h k) rfl (fun ids H' fr => f36_ok (x0 := (Config.mk zn zt zy zz z0 z1 zv zw zx zq z2 z3 zu za zb zc zg zf zk zm zl zo zp zh z4)) (z8.mono (Nat.zero_le _) fr.ext0.abv) (z9.mono (Nat.zero_le _) fr.ext0.abv) (zaa.mono (Nat.zero_le _) fr.ext0.abv) e35) ?_
     rintro v B6 ⟨abB6, ivB6⟩ rfl
     refine ⟨_, rfl, ?_⟩
     obtain rfl := endS (show some _ = some r from hp)
     exact WJ.rt 202 rfl rfl rfl (fun ids H' fr => ⟨fr.ext0, rfl⟩)
   ·refine WJ.lp 200 (α := Nat × Int × Hp) (fun y => [(1, .p 0 0), (3, .v (.int .i64 y.2.1))]) (fun y => [[.int .i64 zn, .slice zr zt.length zs, .int .i64 zy, .int .i64 zz, .int .i64 z0, .int .i64 z1, .int .i64 zv, .int .i64 zw, .int .i64 zx, .int .i64 zq, .int .i64 z2, .int .i64 z3, .int .i64 zu, .slice zd za.length ze, .int .u64 zb, .int .i64 zc, .int .i64 zg, .int .u64 zf, .int .i64 zk, .int .i64 zm, .int .u64 zl, .int .i64 zo, .int .i64 zp, .slice zi zh.length zj, .int .i64 z4]]) (fun y => []) (fun y => y.2.2) (fun y => y.1) (fun y => Option.bind (f10_l1 zt y.1 y.2.1) K37 = some r) (k, 0, B1) rfl hp (by exact ⟨rfl, rfl, trivial⟩) rfl rfl rfl ?_
    rintro ⟨n, x3, B2⟩ hp ih37
    show WJ _ _ _ B2 [] _ _ ⟨[(1, .p 0 0), (3, .v (.int .i64 x3))], [[.int .i64 zn, .slice zr zt.length zs, .int .i64 zy, .int .i64 zz, .int .i64 z0, .int .i64 z1, .int .i64 zv, .int .i64 zw, .int .i64 zx, .int .i64 zq, .int .i64 z2, .int .i64 z3, .int .i64 zu, .slice zd za.length ze, .int .u64 zb, .int .i64 zc, .int .i64 zg, .int .u64 zf, .int .i64 zk, .int .i64 zm, .int .u64 zl, .int .i64 zo, .int .i64 zp, .slice zi zh.length zj, .int .i64 z4]], true, 0⟩
    replace hp : Option.bind (f10_l1 zt n x3) K37 = some r := hp
    cases n with
    | zero => rw [f10_l1] at hp; exact (noS hp).elim
    | succ n =>
     rw [f10_l1] at hp
     refine WJ.ci 207 hp rfl rfl rfl rfl rfl rfl rfl rfl rfl (fun hc19 hp => ?_) (fun hc19 hp => ?_)
     ·obtain ⟨t25, e25, hp⟩ := bindS hp
      obtain ⟨b25, o25, cs25, i25, rfl, p25⟩ := z8.at e25 u22 sz3
      refine WJ.hd (v := .pointer (some ⟨b25, o25, none⟩)) 210 rfl rfl rfl rfl (fun ids H' fr => opD_indexAddr rfl (evV_eq _ _ _ _ _ rfl) (evV_eq _ _ _ _ _ rfl) (i25 _)) rfl ?_
      refine WJ.hd (v := .int .i64 t25) 200 rfl rfl rfl rfl (fun ids H' fr => opD_load rfl (evV_eq _ _ _ _ _ rfl) ((p25.mono (Nat.zero_le _) fr.ext0.abv).load (d := 0) ag3 rfl)) rfl ?_
      obtain ⟨t27, e27, hp⟩ := bindS hp
      refine WJ.cl 200 (R := R_4 t27) (fun hm h k => R_4.mono hm h k) rfl (fun ids H' fr => f34_ok e27) ?_
      rintro v B3 ⟨abB3, ivB3⟩ rfl
      refine ⟨_, rfl, ?_⟩
      cases t27
      ·replace hp := (itS hp).2 Bool.false_ne_true
       subst hK37
       obtain rfl := endS (show some _ = some r from hp)
       exact WJ.rt 207 rfl rfl rfl (fun ids H' fr => ⟨fr.ext0, rfl⟩)
      ·replace hp := (itS hp).1 rfl
       exact WJ.ag 210 rfl (by exact ⟨rfl, rfl, trivial⟩) rfl rfl rfl (ih37 (n, IntKind.i64.wrap (x3 + 1), B3) hp (Nat.lt_succ_self _))
     ·exact WJ.goto 3 (j37 B2 hp) rfl rfl (by exact ⟨rfl, trivial⟩) rfl rfl rfl
/-! 46 tipstaff/tipstaffref07.Check -/
def f46_l1 (x0 : List Int) : Nat → Int → Option ((Int × Int) ⊕ (Unit))
 | 0, _ => none
 | n + 1, x4 =>
  if x4 < (x0.length : Int) then
   (rd x0 x4).bind fun t21 =>
   if t21 < 1 then
    some (Sum.inl ((2, x4) : Int × Int))
   else
    (rd x0 x4).bind fun t27 =>
    if t27 > 1000 then
     some (Sum.inl ((2, x4) : Int × Int))
    else
     f46_l1 x0 n (IntKind.i64.wrap (x4 + 1))
  else
   some (Sum.inr ())
def f46 (k : Nat) (x0 : List Int) : Option (Int × Int) :=
 if (x0.length : Int) < 1 then
  some (4, 0)
 else
  if (x0.length : Int) > 63 then
   some (4, 0)
  else
   (f46_l1 x0 k 0).bind fun s => match s with
    | .inl st => some st
    | .inr _ => 
     some (0, 0)
set_option maxHeartbeats 40000000 in
set_option maxRecDepth 20000 in
theorem f46_ok {k : Nat} {H : Hp} {a_x0 : Option Addr} {c_x0 : Nat} {x0 : List Int} {r : Int × Int} (g_x0 : SlF 0 H intC a_x0 c_x0 x0) (hp : f46 k x0 = some r) :
  SCall Tryd.prog 46 [.slice a_x0 x0.length c_x0] H (Ret fun v H' => Ext H H' ∧ R_35_3 r H.next H' v) := by
 unfold f46 at hp
 replace hp := topS hp
 refine SCall.g Tryd.func46 rfl rfl rfl rfl rfl (l := [(0, .v (.slice a_x0 x0.length c_x0))]) (fun _ => rfl) (fun B abB => ?_)
 refine WJ.ci 210 hp rfl rfl rfl rfl rfl rfl rfl rfl rfl (fun hc7 hp => ?_) (fun hc7 hp => ?_)
 ·obtain rfl := endS (show some _ = some r from hp)
  exact WJ.rt 212 rfl rfl rfl (fun ids H' fr => ⟨fr.ext0, rfl⟩)
 ·refine WJ.ci 203 hp rfl rfl rfl rfl rfl rfl rfl rfl rfl (fun hc11 hp => ?_) (fun hc11 hp => ?_)
  ·obtain rfl := endS (show some _ = some r from hp)
   exact WJ.rt 208 rfl rfl rfl (fun ids H' fr => ⟨fr.ext0, rfl⟩)
  ·refine WJ.adv 10 rfl ?_
   obtain ⟨K38, hK38, hp⟩ : ∃ K, K = _ ∧ Option.bind _ K = some r := ⟨_, rfl, cutS hp⟩
   refine WJ.cut 2 (α := Unit) (fun y => []) (fun y => []) (fun y => []) (fun y => B) (fun y => K38 (Sum.inr ()) = some r) ?_ (fun j38 => ?_)
   ·rintro u hp
    subst hK38
    show WJ _ _ _ B [] _ _ ⟨[], [], true, 0⟩
    obtain rfl := endS (show some _ = some r from hp)
    exact WJ.rt 205 rfl rfl rfl (fun ids H' fr => ⟨fr.ext0, rfl⟩)
   ·refine WJ.lp 200 (α := Nat × Int) (fun y => [(0, .v (.slice a_x0 x0.length c_x0)), (4, .v (.int .i64 y.2))]) (fun y => []) (fun y => []) (fun y => B) (fun y => y.1) (fun y => Option.bind (f46_l1 x0 y.1 y.2) K38 = some r) (k, 0) rfl hp (by exact ⟨rfl, rfl, trivial⟩) rfl rfl rfl ?_
    rintro ⟨n, x4⟩ hp ih38
    show WJ _ _ _ B [] _ _ ⟨[(0, .v (.slice a_x0 x0.length c_x0)), (4, .v (.int .i64 x4))], [], true, 0⟩
    replace hp : Option.bind (f46_l1 x0 n x4) K38 = some r := hp
    cases n with
    | zero => rw [f46_l1] at hp; exact (noS hp).elim
    | succ n =>
     rw [f46_l1] at hp
     refine WJ.ci 206 hp rfl rfl rfl rfl rfl rfl rfl rfl rfl (fun hc16 hp => ?_) (fun hc16 hp => ?_)
     ·obtain ⟨t21, e21, hp⟩ := bindS hp
      obtain ⟨b21, o21, cs21, i21, rfl, p21⟩ := g_x0.at e21 u22 sz3
      refine WJ.hd (v := .pointer (some ⟨b21, o21, none⟩)) 209 rfl rfl rfl rfl (fun ids H' fr => opD_indexAddr rfl (evV_eq _ _ _ _ _ rfl) (evV_eq _ _ _ _ _ rfl) (i21 _)) rfl ?_
      refine WJ.hd (v := .int .i64 t21) 200 rfl rfl rfl rfl (fun ids H' fr => opD_load rfl (evV_eq _ _ _ _ _ rfl) ((p21.mono (Nat.zero_le _) fr.ext0.abv).load (d := 0) ag3 rfl)) rfl ?_
      refine WJ.ci 200 hp rfl rfl rfl rfl rfl rfl rfl rfl rfl (fun hc23 hp => ?_) (fun hc23 hp => ?_)
      ·subst hK38
       obtain rfl := endS (show some _ = some r from hp)
       exact WJ.rt 215 rfl rfl rfl (fun ids H' fr => ⟨fr.ext0, rfl⟩)
      ·obtain ⟨t27, e27, hp⟩ := bindS hp
       obtain ⟨b27, o27, cs27, i27, rfl, p27⟩ := g_x0.at e27 u22 sz3
       refine WJ.hd (v := .pointer (some ⟨b27, o27, none⟩)) 203 rfl rfl rfl rfl (fun ids H' fr => opD_indexAddr rfl (evV_eq _ _ _ _ _ rfl) (evV_eq _ _ _ _ _ rfl) (i27 _)) rfl ?_
       refine WJ.hd (v := .int .i64 t27) 200 rfl rfl rfl rfl (fun ids H' fr => opD_load rfl (evV_eq _ _ _ _ _ rfl) ((p27.mono (Nat.zero_le _) fr.ext0.abv).load (d := 0) ag3 rfl)) rfl ?_
       refine WJ.ci 200 hp rfl rfl rfl rfl rfl rfl rfl rfl rfl (fun hc29 hp => ?_) (fun hc29 hp => ?_)
       ·subst hK38
        obtain rfl := endS (show some _ = some r from hp)
        exact WJ.rt 209 rfl rfl rfl (fun ids H' fr => ⟨fr.ext0, rfl⟩)
       ·exact WJ.ag 210 rfl (by exact ⟨rfl, rfl, trivial⟩) rfl rfl rfl (ih38 (n, IntKind.i64.wrap (x4 + 1)) hp (Nat.lt_succ_self _))
     ·exact WJ.goto 3 (j38 () hp) rfl rfl (by exact trivial) rfl rfl rfl
/-! 47 tipstaff/tipstaffref07.positions -/
def f47_l1 (x0 : List Int) : Nat → (List Int) → Int → Option ((List Int))
 | 0, _, _ => none
 | n + 1, l0, x4 =>
  if x4 < (x0.length : Int) then
   (rd l0 x4).bind fun t15 =>
   (rd x0 x4).bind fun t19 =>
   (apd 8 l0 ([IntKind.i64.wrap (t15 + t19)])).bind fun l23 =>
   f47_l1 x0 n l23 (IntKind.i64.wrap (x4 + 1))
  else
   some (l0)
def f47 (k : Nat) (x0 : List Int) : Option (List Int) :=
 (f47_l1 x0 k ([0]) 0).bind fun l0_39 =>
  some l0_39
set_option maxHeartbeats 40000000 in
set_option maxRecDepth 20000 in
theorem f47_ok {k : Nat} {H : Hp} {a_x0 : Option Addr} {c_x0 : Nat} {x0 : List Int} {r : List Int} (g_x0 : SlF 0 H intC a_x0 c_x0 x0) (hp : f47 k x0 = some r) :
  SCall Tryd.prog 47 [.slice a_x0 x0.length c_x0] H (Ret fun v H' => Ext H H' ∧ R_22 r H.next H' v) := by
 unfold f47 at hp
 replace hp := topS hp
 refine SCall.g Tryd.func47 rfl rfl rfl rfl rfl (l := [(0, .v (.slice a_x0 x0.length c_x0))]) (fun _ => rfl) (fun B abB => ?_)
 refine WJ.bs (cs := encL iE [0]) (sz := 1) (pl := [(0, .int .i64 0)]) 206 rfl rfl rfl rfl rfl (fun _ _ => rfl) (fun _ => by rfl) rfl rfl ?_
 intro b5
 refine ⟨_, rfl, ?_⟩
 refine WJ.adv 8 rfl ?_
 obtain ⟨K39, hK39, hp⟩ : ∃ K, K = _ ∧ Option.bind _ K = some r := ⟨_, rfl, cutS hp⟩
 refine WJ.cut 2 (α := (List Int) × (Option Addr) × Nat) (fun y => [(3, .v (.slice y.2.1 y.1.length y.2.2))]) (fun y => []) (fun y => [⟨y.2.1, y.2.2, 1, encL iE y.1⟩]) (fun y => B) (fun y => K39 (y.1) = some r) ?_ (fun j39 => ?_)
 ·rintro ⟨l0_39, a0_39, c0_39⟩ hp
  subst hK39
  show WJ _ _ _ B [⟨a0_39, c0_39, 1, encL iE l0_39⟩] _ _ ⟨[(3, .v (.slice a0_39 l0_39.length c0_39))], [], true, 0⟩
  obtain rfl := endS (show some _ = some r from hp)
  exact WJ.rt 205 rfl rfl rfl (fun ids H' fr => ⟨fr.ext0, ⟨_, _, rfl, (fr.slOwn (j := 0) rfl rfl (Nat.le_refl _))⟩⟩)
 ·refine WJ.lp 200 (α := Nat × (List Int) × Int × (Option Addr) × Nat) (fun y => [(0, .v (.slice a_x0 x0.length c_x0)), (3, .v (.slice y.2.2.2.1 y.2.1.length y.2.2.2.2)), (4, .v (.int .i64 y.2.2.1))]) (fun y => []) (fun y => [⟨y.2.2.2.1, y.2.2.2.2, 1, encL iE y.2.1⟩]) (fun y => B) (fun y => y.1) (fun y => Option.bind (f47_l1 x0 y.1 y.2.1 y.2.2.1) K39 = some r) (k, [0], 0, (some ⟨b5, 0, none⟩), 1) rfl hp (by exact ⟨rfl, rfl, rfl, trivial⟩) rfl rfl rfl ?_
  rintro ⟨n, l0, x4, a0, c0⟩ hp ih39
  show WJ _ _ _ B [⟨a0, c0, 1, encL iE l0⟩] _ _ ⟨[(0, .v (.slice a_x0 x0.length c_x0)), (3, .v (.slice a0 l0.length c0)), (4, .v (.int .i64 x4))], [], true, 0⟩
  replace hp : Option.bind (f47_l1 x0 n l0 x4) K39 = some r := hp
  cases n with
  | zero => rw [f47_l1] at hp; exact (noS hp).elim
  | succ n =>
   rw [f47_l1] at hp
   refine WJ.ci 206 hp rfl rfl rfl rfl rfl rfl rfl rfl rfl (fun hc9 hp => ?_) (fun hc9 hp => ?_)
   ·refine WJ.dr 205 rfl gmix (by kernel_rfl) (by kernel_rfl) rfl ?_
    obtain ⟨t15, e15, hp⟩ := bindS hp
    refine WD.ownAddr (enc := iE) (sz := 1) 0 (fun _ => rfl) rfl rfl e15 (fun b15 hb15 => ?_)
    refine WD.hd (v := .pointer (some ⟨b15, (x4 : Int).toNat * 1, none⟩)) rfl rfl rfl rfl (fun _ _ _ _ _ => side_no) (fun ids H' fr => opD_indexAddr rfl (evV_eq _ _ _ _ _ rfl) (evV_eq _ _ _ _ _ rfl) (ownIdx hb15 e15 u22 sz3)) rfl ?_
    refine WD.hd (v := .int .i64 t15) rfl rfl rfl rfl (fun _ _ _ _ _ => side_no) (fun ids H' fr => opD_load rfl (evV_eq _ _ _ _ _ rfl) ((fr.ownEl (enc := iE) (sz := 1) (j := 0) (fun _ => rfl) rfl hb15 e15).load (d := 0) ag3 rfl)) rfl ?_
    obtain ⟨t19, e19, hp⟩ := bindS hp
    obtain ⟨b19, o19, cs19, i19, rfl, p19⟩ := g_x0.at e19 u22 sz3
    refine WD.hd (v := .pointer (some ⟨b19, o19, none⟩)) rfl rfl rfl rfl (fun _ _ _ _ _ => side_no) (fun ids H' fr => opD_indexAddr rfl (evV_eq _ _ _ _ _ rfl) (evV_eq _ _ _ _ _ rfl) (i19 _)) rfl ?_
    refine WD.hd (v := .int .i64 t19) rfl rfl rfl rfl (fun _ _ _ _ _ => side_no) (fun ids H' fr => opD_load rfl (evV_eq _ _ _ _ _ rfl) ((p19.mono (Nat.zero_le _) fr.ext0.abv).load (d := 0) ag3 rfl)) rfl ?_
    refine WD.bs (cs := encL iE [IntKind.i64.wrap (t15 + t19)]) (sz := 1) (pl := [(0, .int .i64 (IntKind.i64.wrap (t15 + t19)))]) rfl rfl rfl rfl rfl (fun _ _ => rfl) (fun _ => by rfl) rfl rfl ?_
    intro b22
    refine ⟨_, rfl, ?_⟩
    obtain ⟨l23, e23, hp⟩ := bindS hp
    obtain ⟨bd23, rfl⟩ := apd_some e23
    refine WD.ap (L := l0) (L2 := [IntKind.i64.wrap (t15 + t19)]) 0 rfl rfl rfl rfl rfl rfl rfl rfl (el22 rfl) rfl (fun _ => rfl) (fun _ => rfl) rfl (fun ids H' fr => fr.srcOwn (enc := iE) (sz := 1) (j := 1) (fun _ => rfl) (by decide) rfl) bd23 ?_
    intro a23 c23
    refine ⟨_, rfl, ?_⟩
    refine WD.pop [⟨a23, c23, 1, encL iE (l0 ++ ([IntKind.i64.wrap (t15 + t19)]))⟩] rfl ?_
    refine WD.done rfl ?_
    exact WJ.ag 206 rfl (by exact ⟨rfl, rfl, rfl, trivial⟩) rfl rfl rfl (ih39 (n, (l0 ++ ([IntKind.i64.wrap (t15 + t19)])), IntKind.i64.wrap (x4 + 1), a23, c23) hp (Nat.lt_succ_self _))
   ·exact WJ.goto 3 (j39 (l0, a0, c0) hp) rfl rfl (by exact ⟨rfl, trivial⟩) rfl rfl rfl
/-! 27 tipstaff/tipstaffref07.Height -/
def f27 (k : Nat) (x0 : List Int) : Option (Int × Int) :=
 (f46 k x0).bind fun (t8_0, t8_1) =>
 if t8_0 = 0 then
  (f47 k x0).bind fun t15 =>
  (rd t15 (x0.length : Int)).bind fun t18 =>
  some (t18, 0)
 else
  some (0, t8_0)
set_option maxHeartbeats 40000000 in
set_option maxRecDepth 20000 in
theorem f27_ok {k : Nat} {H : Hp} {a_x0 : Option Addr} {c_x0 : Nat} {x0 : List Int} {r : Int × Int} (g_x0 : SlF 0 H intC a_x0 c_x0 x0) (hp : f27 k x0 = some r) :
  SCall Tryd.prog 27 [.slice a_x0 x0.length c_x0] H (Ret fun v H' => Ext H H' ∧ R_3_35 r H.next H' v) := by
 unfold f27 at hp
 replace hp := topS hp
 refine SCall.g Tryd.func27 rfl rfl rfl rfl rfl (l := [(0, .v (.slice a_x0 x0.length c_x0))]) (fun _ => rfl) (fun B abB => ?_)
 obtain ⟨⟨t8_0, t8_1⟩, e8, hp⟩ := bindS hp
 refine WJ.cl 208 (R := R_35_3 ⟨t8_0, t8_1⟩) (fun hm h k => R_35_3.mono hm h k) rfl (fun ids H' fr => f46_ok (g_x0.mono (Nat.zero_le _) fr.ext0.abv) e8) ?_
 rintro v B1 ⟨abB1, ivB1⟩ rfl
 refine ⟨_, rfl, ?_⟩
 refine WJ.cn 210 hp rfl rfl rfl rfl rfl rfl rfl rfl rfl (fun hc12 hp => ?_) (fun hc12 hp => ?_)
 ·obtain rfl := endS (show some _ = some r from hp)
  exact WJ.rt 208 rfl rfl rfl (fun ids H' fr => ⟨fr.ext0, rfl⟩)
 ·obtain ⟨t15, e15, hp⟩ := bindS hp
  refine WJ.cl 206 (R := R_22 t15) (fun hm h k => R_22.mono hm h k) rfl (fun ids H' fr => f47_ok (g_x0.mono (Nat.zero_le _) fr.ext0.abv) e15) ?_
  rintro v B2 ⟨abB2, ivB2⟩ ⟨a_t15, c_t15, rfl, g_t15⟩
  refine ⟨_, rfl, ?_⟩
  obtain ⟨t18, e18, hp⟩ := bindS hp
  obtain ⟨b18, o18, cs18, i18, rfl, p18⟩ := g_t15.at e18 u22 sz3
  refine WJ.hd (v := .pointer (some ⟨b18, o18, none⟩)) 202 rfl rfl rfl rfl (fun ids H' fr => opD_indexAddr rfl (evV_eq _ _ _ _ _ rfl) (evV_eq _ _ _ _ _ rfl) (i18 _)) rfl ?_
  refine WJ.hd (v := .int .i64 t18) 200 rfl rfl rfl rfl (fun ids H' fr => opD_load rfl (evV_eq _ _ _ _ _ rfl) ((p18.mono (Nat.zero_le _) (fr.abv.le (Nat.zero_le _))).load (d := 0) ag3 rfl)) rfl ?_
  obtain rfl := endS (show some _ = some r from hp)
  exact WJ.rt 203 rfl rfl rfl (fun ids H' fr => ⟨fr.ext0, rfl⟩)
/-! 48 tipstaff/tipstaffref18.Rule -/
def f48 (x0 : DoorRule) : Option Int :=
 if x0.Width < 1 then
  some 2
 else
  if x0.Width > 20 then
   some 2
  else
   if x0.Dwell < 1 then
    some 2
   else
    if x0.Dwell > 50 then
     some 2
    else
     if x0.Retries < 0 then
      some 2
     else
      if x0.Retries > 5 then
       some 2
      else
       some 0
set_option maxHeartbeats 40000000 in
set_option maxRecDepth 20000 in
theorem f48_ok {H : Hp} {x0 : DoorRule} {r : Int} (hp : f48 x0 = some r) :
  SCall Tryd.prog 48 [.agg ⟨[.int .i64 x0.Width, .int .i64 x0.Dwell, .int .i64 x0.Retries]⟩] H (Ret fun v H' => Ext H H' ∧ R_35 r H.next H' v) := by
 obtain ⟨zv, zw, zx⟩ := x0
 unfold f48 at hp
 replace hp := topS hp
 refine SCall.g Tryd.func48 rfl rfl rfl rfl rfl (l := [(0, .v (.agg ⟨[.int .i64 zv, .int .i64 zw, .int .i64 zx]⟩))]) (fun _ => rfl) (fun B abB => ?_)
 refine WJ.ci 210 hp rfl rfl rfl rfl rfl rfl rfl rfl rfl (fun hc5 hp => ?_) (fun hc5 hp => ?_)
 ·obtain rfl := endS (show some _ = some r from hp)
  exact WJ.rt 231 rfl rfl rfl (fun ids H' fr => ⟨fr.ext0, rfl⟩)
 ·refine WJ.ci 203 hp rfl rfl rfl rfl rfl rfl rfl rfl rfl (fun hc9 hp => ?_) (fun hc9 hp => ?_)
  ·obtain rfl := endS (show some _ = some r from hp)
   exact WJ.rt 227 rfl rfl rfl (fun ids H' fr => ⟨fr.ext0, rfl⟩)
  ·refine WJ.ci 204 hp rfl rfl rfl rfl rfl rfl rfl rfl rfl (fun hc14 hp => ?_) (fun hc14 hp => ?_)
   ·obtain rfl := endS (show some _ = some r from hp)
    exact WJ.rt 222 rfl rfl rfl (fun ids H' fr => ⟨fr.ext0, rfl⟩)
   ·refine WJ.ci 204 hp rfl rfl rfl rfl rfl rfl rfl rfl rfl (fun hc19 hp => ?_) (fun hc19 hp => ?_)
    ·obtain rfl := endS (show some _ = some r from hp)
     exact WJ.rt 217 rfl rfl rfl (fun ids H' fr => ⟨fr.ext0, rfl⟩)
    ·refine WJ.ci 204 hp rfl rfl rfl rfl rfl rfl rfl rfl rfl (fun hc24 hp => ?_) (fun hc24 hp => ?_)
     ·obtain rfl := endS (show some _ = some r from hp)
      exact WJ.rt 212 rfl rfl rfl (fun ids H' fr => ⟨fr.ext0, rfl⟩)
     ·refine WJ.ci 204 hp rfl rfl rfl rfl rfl rfl rfl rfl rfl (fun hc29 hp => ?_) (fun hc29 hp => ?_)
      ·obtain rfl := endS (show some _ = some r from hp)
       exact WJ.rt 207 rfl rfl rfl (fun ids H' fr => ⟨fr.ext0, rfl⟩)
      ·obtain rfl := endS (show some _ = some r from hp)
       exact WJ.rt 208 rfl rfl rfl (fun ids H' fr => ⟨fr.ext0, rfl⟩)
/-! 28 tipstaff/tipstaffref18.Worst -/
def f28 (x0 : DoorRule) : Option (Int × Int) :=
 (f48 (DoorRule.mk x0.Width x0.Dwell x0.Retries)).bind fun t6 =>
 if t6 = 0 then
  some (IntKind.i64.wrap ((IntKind.i64.wrap ((IntKind.i64.wrap (2 * x0.Width)) + x0.Dwell)) + (IntKind.i64.wrap (x0.Retries * (IntKind.i64.wrap ((IntKind.i64.wrap ((IntKind.i64.wrap (2 * x0.Width)) - 1)) + x0.Dwell))))), 0)
 else
  some (0, t6)
set_option maxHeartbeats 40000000 in
set_option maxRecDepth 20000 in
theorem f28_ok {H : Hp} {x0 : DoorRule} {r : Int × Int} (hp : f28 x0 = some r) :
  SCall Tryd.prog 28 [.agg ⟨[.int .i64 x0.Width, .int .i64 x0.Dwell, .int .i64 x0.Retries]⟩] H (Ret fun v H' => Ext H H' ∧ R_3_35 r H.next H' v) := by
 obtain ⟨zv, zw, zx⟩ := x0
 unfold f28 at hp
 replace hp := topS hp
 refine SCall.g Tryd.func28 rfl rfl rfl rfl rfl (l := [(0, .v (.agg ⟨[.int .i64 zv, .int .i64 zw, .int .i64 zx]⟩))]) (fun _ => rfl) (fun B abB => ?_)
 obtain ⟨t6, e6, hp⟩ := bindS hp
 refine WJ.cl 209 (R := R_35 t6) (fun hm h k => R_35.mono hm h k) rfl (fun ids H' fr => f48_ok (x0 := (DoorRule.mk zv zw zx)) e6) ?_
 rintro v B1 ⟨abB1, ivB1⟩ rfl
 refine ⟨_, rfl, ?_⟩
 refine WJ.cn 206 hp rfl rfl rfl rfl rfl rfl rfl rfl rfl (fun hc8 hp => ?_) (fun hc8 hp => ?_)
 ·obtain rfl := endS (show some _ = some r from hp)
  exact WJ.rt 208 rfl rfl rfl (fun ids H' fr => ⟨fr.ext0, rfl⟩)
 ·obtain rfl := endS (show some _ = some r from hp)
  exact WJ.rt 225 rfl rfl rfl (fun ids H' fr => ⟨fr.ext0, rfl⟩)
/-! 57 tipstaff/tipstaffref08.asks -/
def f57 (x0 : Int) (x1 : Int) : Option Int :=
 if x0 < 0 then
  some 2
 else
  if x0 > 63000 then
   some 2
  else
   if x1 < 1 then
    some 2
   else
    if x1 > 20 then
     some 2
    else
     some 0
set_option maxHeartbeats 40000000 in
set_option maxRecDepth 20000 in
theorem f57_ok {H : Hp} {x0 : Int} {x1 : Int} {r : Int} (hp : f57 x0 x1 = some r) :
  SCall Tryd.prog 57 [.int .i64 x0, .int .i64 x1] H (Ret fun v H' => Ext H H' ∧ R_35 r H.next H' v) := by
 unfold f57 at hp
 replace hp := topS hp
 refine SCall.g Tryd.func57 rfl rfl rfl rfl rfl (l := [(0, .v (.int .i64 x0)), (1, .v (.int .i64 x1))]) (fun _ => rfl) (fun B abB => ?_)
 refine WJ.ci 208 hp rfl rfl rfl rfl rfl rfl rfl rfl rfl (fun hc6 hp => ?_) (fun hc6 hp => ?_)
 ·obtain rfl := endS (show some _ = some r from hp)
  exact WJ.rt 218 rfl rfl rfl (fun ids H' fr => ⟨fr.ext0, rfl⟩)
 ·refine WJ.ci 202 hp rfl rfl rfl rfl rfl rfl rfl rfl rfl (fun hc9 hp => ?_) (fun hc9 hp => ?_)
  ·obtain rfl := endS (show some _ = some r from hp)
   exact WJ.rt 215 rfl rfl rfl (fun ids H' fr => ⟨fr.ext0, rfl⟩)
  ·refine WJ.ci 203 hp rfl rfl rfl rfl rfl rfl rfl rfl rfl (fun hc13 hp => ?_) (fun hc13 hp => ?_)
   ·obtain rfl := endS (show some _ = some r from hp)
    exact WJ.rt 211 rfl rfl rfl (fun ids H' fr => ⟨fr.ext0, rfl⟩)
   ·refine WJ.ci 203 hp rfl rfl rfl rfl rfl rfl rfl rfl rfl (fun hc17 hp => ?_) (fun hc17 hp => ?_)
    ·obtain rfl := endS (show some _ = some r from hp)
     exact WJ.rt 207 rfl rfl rfl (fun ids H' fr => ⟨fr.ext0, rfl⟩)
    ·obtain rfl := endS (show some _ = some r from hp)
     exact WJ.rt 208 rfl rfl rfl (fun ids H' fr => ⟨fr.ext0, rfl⟩)
/-! 71 tipstaff/tipstaffref08.tri -/
def f71 (x0 : Int) : Option Int :=
 some (IntKind.i64.wrap ((IntKind.i64.wrap (x0 * (IntKind.i64.wrap (x0 + 1)))).tdiv 2))
set_option maxHeartbeats 40000000 in
set_option maxRecDepth 20000 in
theorem f71_ok {H : Hp} {x0 : Int} {r : Int} (hp : f71 x0 = some r) :
  SCall Tryd.prog 71 [.int .i64 x0] H (Ret fun v H' => Ext H H' ∧ R_3 r H.next H' v) := by
 unfold f71 at hp
 replace hp := topS hp
 refine SCall.g Tryd.func71 rfl rfl rfl rfl rfl (l := [(0, .v (.int .i64 x0))]) (fun _ => rfl) (fun B abB => ?_)
 refine WJ.hd (v := .int .i64 (IntKind.i64.wrap ((IntKind.i64.wrap (x0 * (IntKind.i64.wrap (x0 + 1)))).tdiv 2))) 210 rfl rfl rfl rfl (fun ids H' fr => opD_bin rfl (evV_eq _ _ _ _ _ rfl) (evV_eq _ _ _ _ _ rfl) (bin_quo (by decide))) rfl ?_
 obtain rfl := endS (show some _ = some r from hp)
 exact WJ.rt 202 rfl rfl rfl (fun ids H' fr => ⟨fr.ext0, rfl⟩)
/-! 66 tipstaff/tipstaffref08.next -/
def f66_l1 (x0 : Int) (x1 : Int) (x2 : Int) : Nat → Int → Option ((Int) ⊕ (Unit))
 | 0, _ => none
 | n + 1, x7 =>
  if x7 ≥ (IntKind.i64.wrap (x0 - 1)) then
   (if x7 ≥ 0 then
    if x7 ≤ x2 then
     (f71 x7).bind fun t25 =>
     if t25 ≤ x1 then
      some (Sum.inl (x7 : Int))
     else
      some (Sum.inr ())
    else
     some (Sum.inr ())
   else
    some (Sum.inr ())).bind fun s => match s with
    | .inl st => some (Sum.inl st)
    | .inr _ => 
     f66_l1 x0 x1 x2 n (IntKind.i64.wrap (x7 - 1))
  else
   some (Sum.inr ())
def f66 (k : Nat) (x0 : Int) (x1 : Int) (x2 : Int) : Option Int :=
 (f66_l1 x0 x1 x2 k (IntKind.i64.wrap (x0 + 1))).bind fun s => match s with
  | .inl st => some st
  | .inr _ => 
   some (-1)
set_option maxHeartbeats 40000000 in
set_option maxRecDepth 20000 in
theorem f66_ok {k : Nat} {H : Hp} {x0 : Int} {x1 : Int} {x2 : Int} {r : Int} (hp : f66 k x0 x1 x2 = some r) :
  SCall Tryd.prog 66 [.int .i64 x0, .int .i64 x1, .int .i64 x2] H (Ret fun v H' => Ext H H' ∧ R_3 r H.next H' v) := by
 unfold f66 at hp
 replace hp := topS hp
 refine SCall.g Tryd.func66 rfl rfl rfl rfl rfl (l := [(0, .v (.int .i64 x0)), (1, .v (.int .i64 x1)), (2, .v (.int .i64 x2))]) (fun _ => rfl) (fun B abB => ?_)
 refine WJ.adv 12 rfl ?_
 obtain ⟨K40, hK40, hp⟩ : ∃ K, K = _ ∧ Option.bind _ K = some r := ⟨_, rfl, cutS hp⟩
 refine WJ.cut 2 (α := Hp) (fun y => []) (fun y => []) (fun y => []) (fun y => y) (fun y => K40 (Sum.inr ()) = some r) ?_ (fun j40 => ?_)
 ·rintro B4 hp
  subst hK40
  show WJ _ _ _ B4 [] _ _ ⟨[], [], true, 0⟩
  obtain rfl := endS (show some _ = some r from hp)
  exact WJ.rt 204 rfl rfl rfl (fun ids H' fr => ⟨fr.ext0, rfl⟩)
 ·refine WJ.lp 200 (α := Nat × Int × Hp) (fun y => [(0, .v (.int .i64 x0)), (1, .v (.int .i64 x1)), (2, .v (.int .i64 x2)), (7, .v (.int .i64 y.2.1))]) (fun y => []) (fun y => []) (fun y => y.2.2) (fun y => y.1) (fun y => Option.bind (f66_l1 x0 x1 x2 y.1 y.2.1) K40 = some r) (k, IntKind.i64.wrap (x0 + 1), B) rfl hp (by exact ⟨rfl, rfl, rfl, rfl, trivial⟩) rfl rfl rfl ?_
  rintro ⟨n, x7, B1⟩ hp ih40
  show WJ _ _ _ B1 [] _ _ ⟨[(0, .v (.int .i64 x0)), (1, .v (.int .i64 x1)), (2, .v (.int .i64 x2)), (7, .v (.int .i64 x7))], [], true, 0⟩
  replace hp : Option.bind (f66_l1 x0 x1 x2 n x7) K40 = some r := hp
  cases n with
  | zero => rw [f66_l1] at hp; exact (noS hp).elim
  | succ n =>
   rw [f66_l1] at hp
   refine WJ.ci 206 hp rfl rfl rfl rfl rfl rfl rfl rfl rfl (fun hc13 hp => ?_) (fun hc13 hp => ?_)
   ·refine WJ.adv 6 rfl ?_
    obtain ⟨K41, hK41, hp⟩ : ∃ K, K = _ ∧ Option.bind _ K = some r := ⟨_, rfl, cutS hp⟩
    refine WJ.cut 3 (α := Hp) (fun y => [(0, .v (.int .i64 x0)), (1, .v (.int .i64 x1)), (2, .v (.int .i64 x2)), (7, .v (.int .i64 x7))]) (fun y => []) (fun y => []) (fun y => y) (fun y => K41 ((Sum.inr ())) = some r) ?_ (fun j41 => ?_)
    ·rintro B3 hp
     subst hK41
     show WJ _ _ _ B3 [] _ _ ⟨[(0, .v (.int .i64 x0)), (1, .v (.int .i64 x1)), (2, .v (.int .i64 x2)), (7, .v (.int .i64 x7))], [], true, 0⟩
     exact WJ.ag 205 rfl (by exact ⟨rfl, rfl, rfl, rfl, trivial⟩) rfl rfl rfl (ih40 (n, IntKind.i64.wrap (x7 - 1), B3) hp (Nat.lt_succ_self _))
    ·refine WJ.ci 202 hp rfl rfl rfl rfl rfl rfl rfl rfl rfl (fun hc17 hp => ?_) (fun hc17 hp => ?_)
     ·refine WJ.ci 203 hp rfl rfl rfl rfl rfl rfl rfl rfl rfl (fun hc21 hp => ?_) (fun hc21 hp => ?_)
      ·obtain ⟨t25, e25, hp⟩ := bindS hp
       refine WJ.cl 203 (R := R_3 t25) (fun hm h k => R_3.mono hm h k) rfl (fun ids H' fr => f71_ok e25) ?_
       rintro v B2 ⟨abB2, ivB2⟩ rfl
       refine ⟨_, rfl, ?_⟩
       refine WJ.ci 201 hp rfl rfl rfl rfl rfl rfl rfl rfl rfl (fun hc27 hp => ?_) (fun hc27 hp => ?_)
       ·subst hK41
        subst hK40
        obtain rfl := endS (show some _ = some r from hp)
        exact WJ.rt 208 rfl rfl rfl (fun ids H' fr => ⟨fr.ext0, rfl⟩)
       ·exact WJ.goto 5 (j41 B2 hp) rfl rfl (by exact ⟨rfl, rfl, rfl, rfl, trivial⟩) rfl rfl rfl
      ·exact WJ.goto 11 (j41 B1 hp) rfl rfl (by exact ⟨rfl, rfl, rfl, rfl, trivial⟩) rfl rfl rfl
     ·exact WJ.goto 15 (j41 B1 hp) rfl rfl (by exact ⟨rfl, rfl, rfl, rfl, trivial⟩) rfl rfl rfl
   ·exact WJ.goto 3 (j40 B1 hp) rfl rfl (by exact trivial) rfl rfl rfl
/-! 58 tipstaff/tipstaffref08.ride -/
def f58_l1 (k : Nat) (x1 : Int) : Nat → Int → Int → Int → Int → Option (Int × Int)
 | 0, _, _, _, _ => none
 | n + 1, x6, x7, x8, x9 =>
  if x9 > 0 then
   (f66 k x8 x9 x1).bind fun t19 =>
   f58_l1 k x1 n (IntKind.i64.wrap (x6 + 1)) (gmax x7 t19) t19 (IntKind.i64.wrap (x9 - t19))
  else
   some ((x6, x7))
def f58 (k : Nat) (x0 : Int) (x1 : Int) : Option (Int × Int) :=
 (f58_l1 k x1 k 0 0 0 x0).bind fun (x6_42, x7_42) =>
  some (x6_42, x7_42)
set_option maxHeartbeats 40000000 in
set_option maxRecDepth 20000 in
theorem f58_ok {k : Nat} {H : Hp} {x0 : Int} {x1 : Int} {r : Int × Int} (hp : f58 k x0 x1 = some r) :
  SCall Tryd.prog 58 [.int .i64 x0, .int .i64 x1] H (Ret fun v H' => Ext H H' ∧ R_3_3 r H.next H' v) := by
 unfold f58 at hp
 replace hp := topS hp
 refine SCall.g Tryd.func58 rfl rfl rfl rfl rfl (l := [(0, .v (.int .i64 x0)), (1, .v (.int .i64 x1))]) (fun _ => rfl) (fun B abB => ?_)
 refine WJ.adv 18 rfl ?_
 obtain ⟨K42, hK42, hp⟩ : ∃ K, K = _ ∧ Option.bind _ K = some r := ⟨_, rfl, cutS hp⟩
 refine WJ.cut 2 (α := Int × Int × Hp) (fun y => [(6, .v (.int .i64 y.1)), (7, .v (.int .i64 y.2.1))]) (fun y => []) (fun y => []) (fun y => y.2.2) (fun y => K42 ((y.1, y.2.1)) = some r) ?_ (fun j42 => ?_)
 ·rintro ⟨x6_42, x7_42, B3⟩ hp
  subst hK42
  show WJ _ _ _ B3 [] _ _ ⟨[(6, .v (.int .i64 x6_42)), (7, .v (.int .i64 x7_42))], [], true, 0⟩
  obtain rfl := endS (show some _ = some r from hp)
  exact WJ.rt 207 rfl rfl rfl (fun ids H' fr => ⟨fr.ext0, rfl⟩)
 ·refine WJ.lp 200 (α := Nat × Int × Int × Int × Int × Hp) (fun y => [(1, .v (.int .i64 x1)), (6, .v (.int .i64 y.2.1)), (7, .v (.int .i64 y.2.2.1)), (8, .v (.int .i64 y.2.2.2.1)), (9, .v (.int .i64 y.2.2.2.2.1))]) (fun y => []) (fun y => []) (fun y => y.2.2.2.2.2) (fun y => y.1) (fun y => Option.bind (f58_l1 k x1 y.1 y.2.1 y.2.2.1 y.2.2.2.1 y.2.2.2.2.1) K42 = some r) (k, 0, 0, 0, x0, B) rfl hp (by exact ⟨rfl, rfl, rfl, rfl, rfl, trivial⟩) rfl rfl rfl ?_
  rintro ⟨n, x6, x7, x8, x9, B1⟩ hp ih42
  show WJ _ _ _ B1 [] _ _ ⟨[(1, .v (.int .i64 x1)), (6, .v (.int .i64 x6)), (7, .v (.int .i64 x7)), (8, .v (.int .i64 x8)), (9, .v (.int .i64 x9))], [], true, 0⟩
  replace hp : Option.bind (f58_l1 k x1 n x6 x7 x8 x9) K42 = some r := hp
  cases n with
  | zero => rw [f58_l1] at hp; exact (noS hp).elim
  | succ n =>
   rw [f58_l1] at hp
   refine WJ.ci 204 hp rfl rfl rfl rfl rfl rfl rfl rfl rfl (fun hc12 hp => ?_) (fun hc12 hp => ?_)
   ·obtain ⟨t19, e19, hp⟩ := bindS hp
    refine WJ.cl 210 (R := R_3 t19) (fun hm h k => R_3.mono hm h k) rfl (fun ids H' fr => f66_ok e19) ?_
    rintro v B2 ⟨abB2, ivB2⟩ rfl
    refine ⟨_, rfl, ?_⟩
    refine WJ.hd (v := .int .i64 (gmax x7 t19)) 206 rfl rfl rfl rfl (fun ids H' fr => opD_max rfl rfl rfl (evV_eq (v := .v (.int .i64 x7)) _ _ _ _ _ rfl) (evV_eq (v := .v (.int .i64 t19)) _ _ _ _ _ rfl)) rfl ?_
    exact WJ.ag 214 rfl (by exact ⟨rfl, rfl, rfl, rfl, rfl, trivial⟩) rfl rfl rfl (ih42 (n, IntKind.i64.wrap (x6 + 1), gmax x7 t19, t19, IntKind.i64.wrap (x9 - t19), B2) hp (Nat.lt_succ_self _))
   ·exact WJ.goto 3 (j42 (x6, x7, B1) hp) rfl rfl (by exact ⟨rfl, rfl, trivial⟩) rfl rfl rfl
/-! 49 tipstaff/tipstaffref08.Travel -/
def f49 (k : Nat) (x0 : Int) (x1 : Int) : Option (Int × Int) :=
 (f57 x0 x1).bind fun t11 =>
 if t11 = 0 then
  (f58 k x0 x1).bind fun (t18_0, t18_1) =>
  some (t18_0, 0)
 else
  some (0, t11)
set_option maxHeartbeats 40000000 in
set_option maxRecDepth 20000 in
theorem f49_ok {k : Nat} {H : Hp} {x0 : Int} {x1 : Int} {r : Int × Int} (hp : f49 k x0 x1 = some r) :
  SCall Tryd.prog 49 [.int .i64 x0, .int .i64 x1] H (Ret fun v H' => Ext H H' ∧ R_3_35 r H.next H' v) := by
 unfold f49 at hp
 replace hp := topS hp
 refine SCall.g Tryd.func49 rfl rfl rfl rfl rfl (l := [(0, .v (.int .i64 x0)), (1, .v (.int .i64 x1))]) (fun _ => rfl) (fun B abB => ?_)
 obtain ⟨t11, e11, hp⟩ := bindS hp
 refine WJ.cl 210 (R := R_35 t11) (fun hm h k => R_35.mono hm h k) rfl (fun ids H' fr => f57_ok e11) ?_
 rintro v B1 ⟨abB1, ivB1⟩ rfl
 refine ⟨_, rfl, ?_⟩
 refine WJ.cn 205 hp rfl rfl rfl rfl rfl rfl rfl rfl rfl (fun hc13 hp => ?_) (fun hc13 hp => ?_)
 ·obtain rfl := endS (show some _ = some r from hp)
  exact WJ.rt 208 rfl rfl rfl (fun ids H' fr => ⟨fr.ext0, rfl⟩)
 ·obtain ⟨⟨t18_0, t18_1⟩, e18, hp⟩ := bindS hp
  refine WJ.cl 207 (R := R_3_3 ⟨t18_0, t18_1⟩) (fun hm h k => R_3_3.mono hm h k) rfl (fun ids H' fr => f58_ok e18) ?_
  rintro v B2 ⟨abB2, ivB2⟩ rfl
  refine ⟨_, rfl, ?_⟩
  obtain rfl := endS (show some _ = some r from hp)
  exact WJ.rt 212 rfl rfl rfl (fun ids H' fr => ⟨fr.ext0, rfl⟩)
/-! 29 tipstaff/tipstaffref27.way -/
def f29 (k : Nat) (x0 : Config) (x1 : Int) : Option Int :=
 (f49 k x1 x0.Speed).bind fun (t11_0, t11_1) =>
 some (IntKind.i64.wrap (t11_0 + (IntKind.i64.wrap (2 * x0.Brake))))
set_option maxHeartbeats 40000000 in
set_option maxRecDepth 20000 in
theorem f29_ok {k : Nat} {H : Hp} {zr : Option Addr} {zs : Nat} {zd : Option Addr} {ze : Nat} {zi : Option Addr} {zj : Nat} {x0 : Config} {x1 : Int} {r : Int} (z8 : SlF 0 H intC zr zs x0.Gaps) (z9 : SlF 0 H (slC intC) zd ze x0.Rota) (zaa : SlF 0 H intC zi zj x0.Keys) (hp : f29 k x0 x1 = some r) :
  SCall Tryd.prog 29 [.agg ⟨[.int .i64 x0.Floors, .slice zr x0.Gaps.length zs, .int .i64 x0.Cars, .int .i64 x0.Speed, .int .i64 x0.Brake, .int .i64 x0.Tol, .int .i64 x0.Width, .int .i64 x0.Dwell, .int .i64 x0.Retries, .int .i64 x0.Empty, .int .i64 x0.Full, .int .i64 x0.Trips, .int .i64 x0.Slots, .slice zd x0.Rota.length ze, .int .u64 x0.Rules_0_Mask, .int .i64 x0.Rules_0_Home, .int .i64 x0.Rules_0_Calls, .int .u64 x0.Rules_1_Mask, .int .i64 x0.Rules_1_Home, .int .i64 x0.Rules_1_Calls, .int .u64 x0.Rules_2_Mask, .int .i64 x0.Rules_2_Home, .int .i64 x0.Rules_2_Calls, .slice zi x0.Keys.length zj, .int .i64 x0.Life]⟩, .int .i64 x1] H (Ret fun v H' => Ext H H' ∧ R_3 r H.next H' v) := by
 obtain ⟨zn, zt, zy, zz, z0, z1, zv, zw, zx, zq, z2, z3, zu, za, zb, zc, zg, zf, zk, zm, zl, zo, zp, zh, z4⟩ := x0
 unfold f29 at hp
 replace hp := topS hp
 refine SCall.g Tryd.func29 rfl rfl rfl rfl rfl (l := [(0, .v (.agg ⟨[.int .i64 zn, .slice zr zt.length zs, .int .i64 zy, .int .i64 zz, .int .i64 z0, .int .i64 z1, .int .i64 zv, .int .i64 zw, .int .i64 zx, .int .i64 zq, .int .i64 z2, .int .i64 z3, .int .i64 zu, .slice zd za.length ze, .int .u64 zb, .int .i64 zc, .int .i64 zg, .int .u64 zf, .int .i64 zk, .int .i64 zm, .int .u64 zl, .int .i64 zo, .int .i64 zp, .slice zi zh.length zj, .int .i64 z4]⟩)), (1, .v (.int .i64 x1))]) (fun _ => rfl) (fun B abB => ?_)
 obtain ⟨⟨t11_0, t11_1⟩, e11, hp⟩ := bindS hp
 refine WJ.cl 210 (R := R_3_35 ⟨t11_0, t11_1⟩) (fun hm h k => R_3_35.mono hm h k) rfl (fun ids H' fr => f49_ok e11) ?_
 rintro v B1 ⟨abB1, ivB1⟩ rfl
 refine ⟨_, rfl, ?_⟩
 obtain rfl := endS (show some _ = some r from hp)
 exact WJ.rt 215 rfl rfl rfl (fun ids H' fr => ⟨fr.ext0, rfl⟩)
/-! 8 tipstaff/tipstaffref27.Times -/
def f8 (k : Nat) (x0 : Config) : Option (Times × Int) :=
 (f10 k x0).bind fun t11 =>
 if t11 = 0 then
  (f27 k x0.Gaps).bind fun (t19_0, t19_1) =>
  (f28 (DoorRule.mk x0.Width x0.Dwell x0.Retries)).bind fun (t30_0, t30_1) =>
  (f29 k x0 t19_0).bind fun t35 =>
  some ((Times.mk t35 t30_0 (IntKind.i64.wrap (t35 + t30_0)) (IntKind.i64.wrap (t35 + (IntKind.i64.wrap ((IntKind.i64.wrap (x0.Trips + 1)) * (IntKind.i64.wrap (t35 + t30_0)))))) (IntKind.i64.wrap (x0.Slots * (IntKind.i64.wrap (t35 + (IntKind.i64.wrap ((IntKind.i64.wrap (x0.Trips + 1)) * (IntKind.i64.wrap (t35 + t30_0))))))))), 0)
 else
  some ((Times.mk 0 0 0 0 0), t11)
set_option maxHeartbeats 40000000 in
set_option maxRecDepth 20000 in
theorem f8_ok {k : Nat} {H : Hp} {zr : Option Addr} {zs : Nat} {zd : Option Addr} {ze : Nat} {zi : Option Addr} {zj : Nat} {x0 : Config} {r : Times × Int} (z8 : SlF 0 H intC zr zs x0.Gaps) (z9 : SlF 0 H (slC intC) zd ze x0.Rota) (zaa : SlF 0 H intC zi zj x0.Keys) (hp : f8 k x0 = some r) :
  SCall Tryd.prog 8 [.agg ⟨[.int .i64 x0.Floors, .slice zr x0.Gaps.length zs, .int .i64 x0.Cars, .int .i64 x0.Speed, .int .i64 x0.Brake, .int .i64 x0.Tol, .int .i64 x0.Width, .int .i64 x0.Dwell, .int .i64 x0.Retries, .int .i64 x0.Empty, .int .i64 x0.Full, .int .i64 x0.Trips, .int .i64 x0.Slots, .slice zd x0.Rota.length ze, .int .u64 x0.Rules_0_Mask, .int .i64 x0.Rules_0_Home, .int .i64 x0.Rules_0_Calls, .int .u64 x0.Rules_1_Mask, .int .i64 x0.Rules_1_Home, .int .i64 x0.Rules_1_Calls, .int .u64 x0.Rules_2_Mask, .int .i64 x0.Rules_2_Home, .int .i64 x0.Rules_2_Calls, .slice zi x0.Keys.length zj, .int .i64 x0.Life]⟩] H (Ret fun v H' => Ext H H' ∧ R_34_35 r H.next H' v) := by
 obtain ⟨zn, zt, zy, zz, z0, z1, zv, zw, zx, zq, z2, z3, zu, za, zb, zc, zg, zf, zk, zm, zl, zo, zp, zh, z4⟩ := x0
 unfold f8 at hp
 replace hp := topS hp
 refine SCall.g Tryd.func8 rfl rfl rfl rfl rfl (l := [(0, .v (.agg ⟨[.int .i64 zn, .slice zr zt.length zs, .int .i64 zy, .int .i64 zz, .int .i64 z0, .int .i64 z1, .int .i64 zv, .int .i64 zw, .int .i64 zx, .int .i64 zq, .int .i64 z2, .int .i64 z3, .int .i64 zu, .slice zd za.length ze, .int .u64 zb, .int .i64 zc, .int .i64 zg, .int .u64 zf, .int .i64 zk, .int .i64 zm, .int .u64 zl, .int .i64 zo, .int .i64 zp, .slice zi zh.length zj, .int .i64 z4]⟩))]) (fun _ => rfl) (fun B abB => ?_)
 obtain ⟨t11, e11, hp⟩ := bindS hp
 refine WJ.cl 209 (R := R_35 t11) (fun hm h k => R_35.mono hm h k) rfl (fun ids H' fr => f10_ok (x0 := (Config.mk zn zt zy zz z0 z1 zv zw zx zq z2 z3 zu za zb zc zg zf zk zm zl zo zp zh z4)) (z8.mono (Nat.zero_le _) fr.ext0.abv) (z9.mono (Nat.zero_le _) fr.ext0.abv) (zaa.mono (Nat.zero_le _) fr.ext0.abv) e11) ?_
 rintro v B1 ⟨abB1, ivB1⟩ rfl
 refine ⟨_, rfl, ?_⟩
 refine WJ.cn 206 hp rfl rfl rfl rfl rfl rfl rfl rfl rfl (fun hc13 hp => ?_) (fun hc13 hp => ?_)
 ·obtain rfl := endS (show some _ = some r from hp)
  exact WJ.rt 209 rfl rfl rfl (fun ids H' fr => ⟨fr.ext0, rfl⟩)
 ·obtain ⟨⟨t19_0, t19_1⟩, e19, hp⟩ := bindS hp
  refine WJ.cl 207 (R := R_3_35 ⟨t19_0, t19_1⟩) (fun hm h k => R_3_35.mono hm h k) rfl (fun ids H' fr => f27_ok (z8.mono (Nat.zero_le _) fr.ext0.abv) e19) ?_
  rintro v B2 ⟨abB2, ivB2⟩ rfl
  refine ⟨_, rfl, ?_⟩
  obtain ⟨⟨t30_0, t30_1⟩, e30, hp⟩ := bindS hp
  refine WJ.cl 215 (R := R_3_35 ⟨t30_0, t30_1⟩) (fun hm h k => R_3_35.mono hm h k) rfl (fun ids H' fr => f28_ok (x0 := (DoorRule.mk zv zw zx)) e30) ?_
  rintro v B3 ⟨abB3, ivB3⟩ rfl
  refine ⟨_, rfl, ?_⟩
  obtain ⟨t35, e35, hp⟩ := bindS hp
  refine WJ.cl 210 (R := R_3 t35) (fun hm h k => R_3.mono hm h k) rfl (fun ids H' fr => f29_ok (x0 := (Config.mk zn zt zy zz z0 z1 zv zw zx zq z2 z3 zu za zb zc zg zf zk zm zl zo zp zh z4)) (z8.mono (Nat.zero_le _) fr.ext0.abv) (z9.mono (Nat.zero_le _) fr.ext0.abv) (zaa.mono (Nat.zero_le _) fr.ext0.abv) e35) ?_
  rintro v B4 ⟨abB4, ivB4⟩ rfl
  refine ⟨_, rfl, ?_⟩
  obtain rfl := endS (show some _ = some r from hp)
  exact WJ.rt 245 rfl rfl rfl (fun ids H' fr => ⟨fr.ext0, rfl⟩)
/-! 37 tipstaff/config.rule -/
def f37 (k : Nat) (x0 : Config) (x1 : Int) : Option (RuleT × (List Int) × Int) :=
 (f9 k x0).bind fun t11 =>
 (if t11 = 0 then
  (f31 x1 1 3).bind fun t16 =>
  if t16 then
   some (t11)
  else
   some ((2 : Int))
 else
  some (t11)).bind fun x7_44 =>
  if x7_44 = 0 then
   (f43 k x0.Gaps).bind fun (t26_0, t26_1) =>
   (rd ([(RuleT.mk x0.Rules_0_Mask x0.Rules_0_Home x0.Rules_0_Calls), (RuleT.mk x0.Rules_1_Mask x0.Rules_1_Home x0.Rules_1_Calls), (RuleT.mk x0.Rules_2_Mask x0.Rules_2_Home x0.Rules_2_Calls)] : List RuleT) (IntKind.i64.wrap (x1 - 1))).bind fun t32 =>
   some ((RuleT.mk t32.Mask t32.Home t32.Calls), t26_0, 0)
  else
   some ((RuleT.mk 0 0 0), [], x7_44)
set_option maxHeartbeats 40000000 in
set_option maxRecDepth 20000 in
theorem f37_ok {k : Nat} {H : Hp} {zr : Option Addr} {zs : Nat} {zd : Option Addr} {ze : Nat} {zi : Option Addr} {zj : Nat} {x0 : Config} {x1 : Int} {r : RuleT × (List Int) × Int} (z8 : SlF 0 H intC zr zs x0.Gaps) (z9 : SlF 0 H (slC intC) zd ze x0.Rota) (zaa : SlF 0 H intC zi zj x0.Keys) (hp : f37 k x0 x1 = some r) :
  SCall Tryd.prog 37 [.agg ⟨[.int .i64 x0.Floors, .slice zr x0.Gaps.length zs, .int .i64 x0.Cars, .int .i64 x0.Speed, .int .i64 x0.Brake, .int .i64 x0.Tol, .int .i64 x0.Width, .int .i64 x0.Dwell, .int .i64 x0.Retries, .int .i64 x0.Empty, .int .i64 x0.Full, .int .i64 x0.Trips, .int .i64 x0.Slots, .slice zd x0.Rota.length ze, .int .u64 x0.Rules_0_Mask, .int .i64 x0.Rules_0_Home, .int .i64 x0.Rules_0_Calls, .int .u64 x0.Rules_1_Mask, .int .i64 x0.Rules_1_Home, .int .i64 x0.Rules_1_Calls, .int .u64 x0.Rules_2_Mask, .int .i64 x0.Rules_2_Home, .int .i64 x0.Rules_2_Calls, .slice zi x0.Keys.length zj, .int .i64 x0.Life]⟩, .int .i64 x1] H (Ret fun v H' => Ext H H' ∧ R_26_22_35 r H.next H' v) := by
 obtain ⟨zn, zt, zy, zz, z0, z1, zv, zw, zx, zq, z2, z3, zu, za, zb, zc, zg, zf, zk, zm, zl, zo, zp, zh, z4⟩ := x0
 unfold f37 at hp
 replace hp := topS hp
 refine SCall.g Tryd.func37 rfl rfl rfl rfl rfl (l := [(0, .v (.agg ⟨[.int .i64 zn, .slice zr zt.length zs, .int .i64 zy, .int .i64 zz, .int .i64 z0, .int .i64 z1, .int .i64 zv, .int .i64 zw, .int .i64 zx, .int .i64 zq, .int .i64 z2, .int .i64 z3, .int .i64 zu, .slice zd za.length ze, .int .u64 zb, .int .i64 zc, .int .i64 zg, .int .u64 zf, .int .i64 zk, .int .i64 zm, .int .u64 zl, .int .i64 zo, .int .i64 zp, .slice zi zh.length zj, .int .i64 z4]⟩)), (1, .v (.int .i64 x1))]) (fun _ => rfl) (fun B abB => ?_)
 have z6 := z8.mono (Nat.le_refl _) abB
 have z7 := z9.mono (Nat.le_refl _) abB
 have z5 := zaa.mono (Nat.le_refl _) abB
 refine WJ.adv 3 rfl ?_
 refine WJ.liftS (loc := []) rfl rfl (fun bv0 => ?_)
 refine WJ.adv 1 rfl ?_
 refine WJ.liftS (loc := []) rfl rfl (fun bv1 => ?_)
 refine WJ.hd (v := .agg ⟨[.int .i64 zn, .slice zr zt.length zs, .int .i64 zy, .int .i64 zz, .int .i64 z0, .int .i64 z1, .int .i64 zv, .int .i64 zw, .int .i64 zx, .int .i64 zq, .int .i64 z2, .int .i64 z3, .int .i64 zu, .slice zd za.length ze, .int .u64 zb, .int .i64 zc, .int .i64 zg, .int .u64 zf, .int .i64 zk, .int .i64 zm, .int .u64 zl, .int .i64 zo, .int .i64 zp, .slice zi zh.length zj, .int .i64 z4]⟩) 205 rfl rfl rfl rfl (fun ids H' fr => opD_load rfl (evV_eq _ _ _ _ _ rfl) (fr.ldOwn (j := 0) rfl rfl)) rfl ?_
 obtain ⟨t11, e11, hp⟩ := bindS hp
 refine WJ.cl 200 (R := R_35 t11) (fun hm h k => R_35.mono hm h k) rfl (fun ids H' fr => f9_ok (x0 := (Config.mk zn zt zy zz z0 z1 zv zw zx zq z2 z3 zu za zb zc zg zf zk zm zl zo zp zh z4)) (z6.mono (Nat.zero_le _) (fr.abv.le (Nat.zero_le _))) (z7.mono (Nat.zero_le _) (fr.abv.le (Nat.zero_le _))) (z5.mono (Nat.zero_le _) (fr.abv.le (Nat.zero_le _))) e11) ?_
 rintro v B1 ⟨abB1, ivB1⟩ rfl
 refine ⟨_, rfl, ?_⟩
 replace z6 := z6.mono (Nat.le_refl _) (abB1.le (Nat.zero_le _))
 replace z7 := z7.mono (Nat.le_refl _) (abB1.le (Nat.zero_le _))
 replace z5 := z5.mono (Nat.le_refl _) (abB1.le (Nat.zero_le _))
 refine WJ.adv 4 rfl ?_
 obtain ⟨K44, hK44, hp⟩ : ∃ K, K = _ ∧ Option.bind _ K = some r := ⟨_, rfl, cutS hp⟩
 refine WJ.cut 2 (α := Int × Hp) (fun y => [(1, .v (.int .i64 x1)), (2, .v (.pointer (some ⟨bv0, 0, none⟩))), (4, .v (.pointer (some ⟨bv1, 0, none⟩))), (7, .v (.int .i64 y.1))]) (fun y => []) (fun y => [⟨some ⟨bv0, 0, none⟩, 25, 1, [.int .i64 zn, .slice zr zt.length zs, .int .i64 zy, .int .i64 zz, .int .i64 z0, .int .i64 z1, .int .i64 zv, .int .i64 zw, .int .i64 zx, .int .i64 zq, .int .i64 z2, .int .i64 z3, .int .i64 zu, .slice zd za.length ze, .int .u64 zb, .int .i64 zc, .int .i64 zg, .int .u64 zf, .int .i64 zk, .int .i64 zm, .int .u64 zl, .int .i64 zo, .int .i64 zp, .slice zi zh.length zj, .int .i64 z4]⟩, ⟨some ⟨bv1, 0, none⟩, 3, 1, [.int .u64 0, .int .i64 0, .int .i64 0]⟩]) (fun y => y.2) (fun y => K44 ((y.1)) = some r ∧ SlF 0 y.2 intC zr zs zt ∧ SlF 0 y.2 (slC intC) zd ze za ∧ SlF 0 y.2 intC zi zj zh) ?_ (fun j44 => ?_)
 ·rintro ⟨x7_44, B3⟩ ⟨hp, z6, z7, z5⟩
  subst hK44
  show WJ _ _ _ B3 [⟨some ⟨bv0, 0, none⟩, 25, 1, [.int .i64 zn, .slice zr zt.length zs, .int .i64 zy, .int .i64 zz, .int .i64 z0, .int .i64 z1, .int .i64 zv, .int .i64 zw, .int .i64 zx, .int .i64 zq, .int .i64 z2, .int .i64 z3, .int .i64 zu, .slice zd za.length ze, .int .u64 zb, .int .i64 zc, .int .i64 zg, .int .u64 zf, .int .i64 zk, .int .i64 zm, .int .u64 zl, .int .i64 zo, .int .i64 zp, .slice zi zh.length zj, .int .i64 z4]⟩, ⟨some ⟨bv1, 0, none⟩, 3, 1, [.int .u64 0, .int .i64 0, .int .i64 0]⟩] _ _ ⟨[(1, .v (.int .i64 x1)), (2, .v (.pointer (some ⟨bv0, 0, none⟩))), (4, .v (.pointer (some ⟨bv1, 0, none⟩))), (7, .v (.int .i64 x7_44))], [], true, 0⟩
  refine WJ.cn 204 hp rfl rfl rfl rfl rfl rfl rfl rfl rfl (fun hc20 hp => ?_) (fun hc20 hp => ?_)
  ·refine WJ.sb 206 (j := 1) rfl rfl rfl rfl rfl rfl rfl rfl rfl rfl ?_
   obtain rfl := endS (show some _ = some r from hp)
   exact WJ.rto 203 rfl (.cell (v := .agg ⟨[.int .u64 0, .int .i64 0, .int .i64 0]⟩) 1 rfl rfl rfl (.tmp rfl (.tmp rfl .nil))) rfl (fun ids H' fr => ⟨fr.ext0, ⟨_, _, rfl, SlF.nil⟩⟩)
  ·refine WJ.hd (v := .slice zr zt.length zs) 206 rfl rfl rfl rfl (fun ids H' fr => opD_load rfl (evV_eq _ _ _ _ _ rfl) (fr.ldOwn (j := 0) rfl rfl)) rfl ?_
   obtain ⟨⟨t26_0, t26_1⟩, e26, hp⟩ := bindS hp
   refine WJ.cl 200 (R := R_22_35 ⟨t26_0, t26_1⟩) (fun hm h k => R_22_35.mono hm h k) rfl (fun ids H' fr => f43_ok (z6.mono (Nat.zero_le _) (fr.abv.le (Nat.zero_le _))) e26) ?_
   rintro v B4 ⟨abB4, ivB4⟩ ⟨a_t26_0, c_t26_0, rfl, g_t26_0⟩
   refine ⟨_, rfl, ?_⟩
   replace z6 := z6.mono (Nat.le_refl _) (abB4.le (Nat.zero_le _))
   replace z7 := z7.mono (Nat.le_refl _) (abB4.le (Nat.zero_le _))
   replace z5 := z5.mono (Nat.le_refl _) (abB4.le (Nat.zero_le _))
   obtain ⟨⟨zca, zcb, zcc⟩, e32, hp⟩ := bindS hp
   refine WJ.hd (v := .pointer (some ⟨bv0, (14 + (IntKind.i64.wrap (x1 - 1) : Int).toNat * 3), none⟩)) 211 rfl rfl rfl rfl (fun ids H' fr => opD_indexAddr rfl (evV_eq _ _ _ _ _ rfl) (evV_eq _ _ _ _ _ rfl) (idxArr ua27 sz26 (rd_some e32).1 (rd_some e32).2.1)) rfl ?_
   refine WJ.hd (v := .agg ⟨[.int .u64 zca, .int .i64 zcb, .int .i64 zcc]⟩) 200 rfl rfl rfl rfl (fun ids H' fr => opD_load rfl (evV_eq _ _ _ _ _ rfl) ((fr.arrEl (j := 0) (enc := RuleT.cs) (sz := 3) (off := 14) (L := ([(RuleT.mk zb zc zg), (RuleT.mk zf zk zm), (RuleT.mk zl zo zp)] : List RuleT)) rfl (fun _ => rfl) rfl rfl e32).loadN (d := 0) ag26 sz26 rfl rfl)) rfl ?_
   refine WJ.sb 201 (j := 1) rfl rfl rfl rfl rfl rfl rfl rfl rfl rfl ?_
   obtain rfl := endS (show some _ = some r from hp)
   exact WJ.rto 203 rfl (.cell (v := .agg ⟨[.int .u64 zca, .int .i64 zcb, .int .i64 zcc]⟩) 1 rfl rfl rfl (.tmp rfl (.tmp rfl .nil))) rfl (fun ids H' fr => ⟨fr.ext0, ⟨_, _, rfl, (g_t26_0.mono (Nat.le_refl _) (fr.abv.le (Nat.zero_le _)))⟩⟩)
 ·refine WJ.ci 202 hp rfl rfl rfl rfl rfl rfl rfl rfl rfl (fun hc13 hp => ?_) (fun hc13 hp => ?_)
  ·obtain ⟨t16, e16, hp⟩ := bindS hp
   refine WJ.cl 202 (R := R_4 t16) (fun hm h k => R_4.mono hm h k) rfl (fun ids H' fr => f31_ok e16) ?_
   rintro v B2 ⟨abB2, ivB2⟩ rfl
   refine ⟨_, rfl, ?_⟩
   replace z6 := z6.mono (Nat.le_refl _) (abB2.le (Nat.zero_le _))
   replace z7 := z7.mono (Nat.le_refl _) (abB2.le (Nat.zero_le _))
   replace z5 := z5.mono (Nat.le_refl _) (abB2.le (Nat.zero_le _))
   cases t16
   ·replace hp := (itS hp).2 Bool.false_ne_true
    exact WJ.goto 7 (j44 (2, B2) ⟨hp, z6, z7, z5⟩) rfl rfl (by exact ⟨rfl, rfl, rfl, rfl, trivial⟩) rfl rfl rfl
   ·replace hp := (itS hp).1 rfl
    exact WJ.goto 5 (j44 (t11, B2) ⟨hp, z6, z7, z5⟩) rfl rfl (by exact ⟨rfl, rfl, rfl, rfl, trivial⟩) rfl rfl rfl
  ·exact WJ.goto 8 (j44 (t11, B1) ⟨hp, z6, z7, z5⟩) rfl rfl (by exact ⟨rfl, rfl, rfl, rfl, trivial⟩) rfl rfl rfl
/-! 11 tipstaff/config.Home -/
def f11 (k : Nat) (x0 : Config) (x1 : Int) : Option (Int × Int) :=
 (f37 k x0 x1).bind fun (t12_0, t12_1, t12_2) =>
 if t12_2 = 0 then
  (rd t12_1 t12_0.Home).bind fun t22 =>
  some (t22, 0)
 else
  some (0, t12_2)
set_option maxHeartbeats 40000000 in
set_option maxRecDepth 20000 in
theorem f11_ok {k : Nat} {H : Hp} {zr : Option Addr} {zs : Nat} {zd : Option Addr} {ze : Nat} {zi : Option Addr} {zj : Nat} {x0 : Config} {x1 : Int} {r : Int × Int} (z8 : SlF 0 H intC zr zs x0.Gaps) (z9 : SlF 0 H (slC intC) zd ze x0.Rota) (zaa : SlF 0 H intC zi zj x0.Keys) (hp : f11 k x0 x1 = some r) :
  SCall Tryd.prog 11 [.agg ⟨[.int .i64 x0.Floors, .slice zr x0.Gaps.length zs, .int .i64 x0.Cars, .int .i64 x0.Speed, .int .i64 x0.Brake, .int .i64 x0.Tol, .int .i64 x0.Width, .int .i64 x0.Dwell, .int .i64 x0.Retries, .int .i64 x0.Empty, .int .i64 x0.Full, .int .i64 x0.Trips, .int .i64 x0.Slots, .slice zd x0.Rota.length ze, .int .u64 x0.Rules_0_Mask, .int .i64 x0.Rules_0_Home, .int .i64 x0.Rules_0_Calls, .int .u64 x0.Rules_1_Mask, .int .i64 x0.Rules_1_Home, .int .i64 x0.Rules_1_Calls, .int .u64 x0.Rules_2_Mask, .int .i64 x0.Rules_2_Home, .int .i64 x0.Rules_2_Calls, .slice zi x0.Keys.length zj, .int .i64 x0.Life]⟩, .int .i64 x1] H (Ret fun v H' => Ext H H' ∧ R_3_35 r H.next H' v) := by
 obtain ⟨zn, zt, zy, zz, z0, z1, zv, zw, zx, zq, z2, z3, zu, za, zb, zc, zg, zf, zk, zm, zl, zo, zp, zh, z4⟩ := x0
 unfold f11 at hp
 replace hp := topS hp
 refine SCall.g Tryd.func11 rfl rfl rfl rfl rfl (l := [(0, .v (.agg ⟨[.int .i64 zn, .slice zr zt.length zs, .int .i64 zy, .int .i64 zz, .int .i64 z0, .int .i64 z1, .int .i64 zv, .int .i64 zw, .int .i64 zx, .int .i64 zq, .int .i64 z2, .int .i64 z3, .int .i64 zu, .slice zd za.length ze, .int .u64 zb, .int .i64 zc, .int .i64 zg, .int .u64 zf, .int .i64 zk, .int .i64 zm, .int .u64 zl, .int .i64 zo, .int .i64 zp, .slice zi zh.length zj, .int .i64 z4]⟩)), (1, .v (.int .i64 x1))]) (fun _ => rfl) (fun B abB => ?_)
 obtain ⟨⟨⟨t12_0_Mask, t12_0_Home, t12_0_Calls⟩, t12_1, t12_2⟩, e12, hp⟩ := bindS hp
 refine WJ.cl 210 (R := R_26_22_35 ⟨⟨t12_0_Mask, t12_0_Home, t12_0_Calls⟩, t12_1, t12_2⟩) (fun hm h k => R_26_22_35.mono hm h k) rfl (fun ids H' fr => f37_ok (x0 := (Config.mk zn zt zy zz z0 z1 zv zw zx zq z2 z3 zu za zb zc zg zf zk zm zl zo zp zh z4)) (z8.mono (Nat.zero_le _) fr.ext0.abv) (z9.mono (Nat.zero_le _) fr.ext0.abv) (zaa.mono (Nat.zero_le _) fr.ext0.abv) e12) ?_
 rintro v B1 ⟨abB1, ivB1⟩ ⟨a_t12_1, c_t12_1, rfl, g_t12_1⟩
 refine ⟨_, rfl, ?_⟩
 refine WJ.cn 213 hp rfl rfl rfl rfl rfl rfl rfl rfl rfl (fun hc17 hp => ?_) (fun hc17 hp => ?_)
 ·obtain rfl := endS (show some _ = some r from hp)
  exact WJ.rt 208 rfl rfl rfl (fun ids H' fr => ⟨fr.ext0, rfl⟩)
 ·obtain ⟨t22, e22, hp⟩ := bindS hp
  obtain ⟨b22, o22, cs22, i22, rfl, p22⟩ := g_t12_1.at e22 u22 sz3
  refine WJ.hd (v := .pointer (some ⟨b22, o22, none⟩)) 208 rfl rfl rfl rfl (fun ids H' fr => opD_indexAddr rfl (evV_eq _ _ _ _ _ rfl) (evV_eq _ _ _ _ _ rfl) (i22 _)) rfl ?_
  refine WJ.hd (v := .int .i64 t22) 200 rfl rfl rfl rfl (fun ids H' fr => opD_load rfl (evV_eq _ _ _ _ _ rfl) ((p22.mono (Nat.zero_le _) (fr.abv.le (Nat.zero_le _))).load (d := 0) ag3 rfl)) rfl ?_
  obtain rfl := endS (show some _ = some r from hp)
  exact WJ.rt 203 rfl rfl rfl (fun ids H' fr => ⟨fr.ext0, rfl⟩)
/-! 38 tipstaff/tipstaffref27.asked -/
def f38 (k : Nat) (x0 : Config) (x1 : Int) : Option Int :=
 (f10 k x0).bind fun t7 =>
 (if t7 = 0 then
  (f34 x1 1 3).bind fun t12 =>
  if t12 then
   some (t7)
  else
   some ((2 : Int))
 else
  some (t7)).bind fun x5_45 =>
  some x5_45
set_option maxHeartbeats 40000000 in
set_option maxRecDepth 20000 in
theorem f38_ok {k : Nat} {H : Hp} {zr : Option Addr} {zs : Nat} {zd : Option Addr} {ze : Nat} {zi : Option Addr} {zj : Nat} {x0 : Config} {x1 : Int} {r : Int} (z8 : SlF 0 H intC zr zs x0.Gaps) (z9 : SlF 0 H (slC intC) zd ze x0.Rota) (zaa : SlF 0 H intC zi zj x0.Keys) (hp : f38 k x0 x1 = some r) :
  SCall Tryd.prog 38 [.agg ⟨[.int .i64 x0.Floors, .slice zr x0.Gaps.length zs, .int .i64 x0.Cars, .int .i64 x0.Speed, .int .i64 x0.Brake, .int .i64 x0.Tol, .int .i64 x0.Width, .int .i64 x0.Dwell, .int .i64 x0.Retries, .int .i64 x0.Empty, .int .i64 x0.Full, .int .i64 x0.Trips, .int .i64 x0.Slots, .slice zd x0.Rota.length ze, .int .u64 x0.Rules_0_Mask, .int .i64 x0.Rules_0_Home, .int .i64 x0.Rules_0_Calls, .int .u64 x0.Rules_1_Mask, .int .i64 x0.Rules_1_Home, .int .i64 x0.Rules_1_Calls, .int .u64 x0.Rules_2_Mask, .int .i64 x0.Rules_2_Home, .int .i64 x0.Rules_2_Calls, .slice zi x0.Keys.length zj, .int .i64 x0.Life]⟩, .int .i64 x1] H (Ret fun v H' => Ext H H' ∧ R_35 r H.next H' v) := by
 obtain ⟨zn, zt, zy, zz, z0, z1, zv, zw, zx, zq, z2, z3, zu, za, zb, zc, zg, zf, zk, zm, zl, zo, zp, zh, z4⟩ := x0
 unfold f38 at hp
 replace hp := topS hp
 refine SCall.g Tryd.func38 rfl rfl rfl rfl rfl (l := [(0, .v (.agg ⟨[.int .i64 zn, .slice zr zt.length zs, .int .i64 zy, .int .i64 zz, .int .i64 z0, .int .i64 z1, .int .i64 zv, .int .i64 zw, .int .i64 zx, .int .i64 zq, .int .i64 z2, .int .i64 z3, .int .i64 zu, .slice zd za.length ze, .int .u64 zb, .int .i64 zc, .int .i64 zg, .int .u64 zf, .int .i64 zk, .int .i64 zm, .int .u64 zl, .int .i64 zo, .int .i64 zp, .slice zi zh.length zj, .int .i64 z4]⟩)), (1, .v (.int .i64 x1))]) (fun _ => rfl) (fun B abB => ?_)
 obtain ⟨t7, e7, hp⟩ := bindS hp
 refine WJ.cl 208 (R := R_35 t7) (fun hm h k => R_35.mono hm h k) rfl (fun ids H' fr => f10_ok (x0 := (Config.mk zn zt zy zz z0 z1 zv zw zx zq z2 z3 zu za zb zc zg zf zk zm zl zo zp zh z4)) (z8.mono (Nat.zero_le _) fr.ext0.abv) (z9.mono (Nat.zero_le _) fr.ext0.abv) (zaa.mono (Nat.zero_le _) fr.ext0.abv) e7) ?_
 rintro v B1 ⟨abB1, ivB1⟩ rfl
 refine ⟨_, rfl, ?_⟩
 refine WJ.adv 4 rfl ?_
 obtain ⟨K45, hK45, hp⟩ : ∃ K, K = _ ∧ Option.bind _ K = some r := ⟨_, rfl, cutS hp⟩
 refine WJ.cut 2 (α := Int × Hp) (fun y => [(5, .v (.int .i64 y.1))]) (fun y => [[.int .i64 zn, .slice zr zt.length zs, .int .i64 zy, .int .i64 zz, .int .i64 z0, .int .i64 z1, .int .i64 zv, .int .i64 zw, .int .i64 zx, .int .i64 zq, .int .i64 z2, .int .i64 z3, .int .i64 zu, .slice zd za.length ze, .int .u64 zb, .int .i64 zc, .int .i64 zg, .int .u64 zf, .int .i64 zk, .int .i64 zm, .int .u64 zl, .int .i64 zo, .int .i64 zp, .slice zi zh.length zj, .int .i64 z4]]) (fun y => []) (fun y => y.2) (fun y => K45 ((y.1)) = some r) ?_ (fun j45 => ?_)
 ·rintro ⟨x5_45, B3⟩ hp
  subst hK45
  show WJ _ _ _ B3 [] _ _ ⟨[(5, .v (.int .i64 x5_45))], [[.int .i64 zn, .slice zr zt.length zs, .int .i64 zy, .int .i64 zz, .int .i64 z0, .int .i64 z1, .int .i64 zv, .int .i64 zw, .int .i64 zx, .int .i64 zq, .int .i64 z2, .int .i64 z3, .int .i64 zu, .slice zd za.length ze, .int .u64 zb, .int .i64 zc, .int .i64 zg, .int .u64 zf, .int .i64 zk, .int .i64 zm, .int .u64 zl, .int .i64 zo, .int .i64 zp, .slice zi zh.length zj, .int .i64 z4]], true, 0⟩
  obtain rfl := endS (show some _ = some r from hp)
  exact WJ.rt 205 rfl rfl rfl (fun ids H' fr => ⟨fr.ext0, rfl⟩)
 ·refine WJ.ci 202 hp rfl rfl rfl rfl rfl rfl rfl rfl rfl (fun hc9 hp => ?_) (fun hc9 hp => ?_)
  ·obtain ⟨t12, e12, hp⟩ := bindS hp
   refine WJ.cl 202 (R := R_4 t12) (fun hm h k => R_4.mono hm h k) rfl (fun ids H' fr => f34_ok e12) ?_
   rintro v B2 ⟨abB2, ivB2⟩ rfl
   refine ⟨_, rfl, ?_⟩
   cases t12
   ·replace hp := (itS hp).2 Bool.false_ne_true
    exact WJ.goto 7 (j45 (2, B2) hp) rfl rfl (by exact ⟨rfl, trivial⟩) rfl rfl rfl
   ·replace hp := (itS hp).1 rfl
    exact WJ.goto 5 (j45 (t7, B2) hp) rfl rfl (by exact ⟨rfl, trivial⟩) rfl rfl rfl
  ·exact WJ.goto 8 (j45 (t7, B1) hp) rfl rfl (by exact ⟨rfl, trivial⟩) rfl rfl rfl
/-! 39 tipstaff/tipstaffref07.Positions -/
def f39 (k : Nat) (x0 : List Int) : Option ((List Int) × Int) :=
 (f46 k x0).bind fun (t8_0, t8_1) =>
 if t8_0 = 0 then
  (f47 k x0).bind fun t15 =>
  some (t15, 0)
 else
  some ([], t8_0)
set_option maxHeartbeats 40000000 in
set_option maxRecDepth 20000 in
theorem f39_ok {k : Nat} {H : Hp} {a_x0 : Option Addr} {c_x0 : Nat} {x0 : List Int} {r : (List Int) × Int} (g_x0 : SlF 0 H intC a_x0 c_x0 x0) (hp : f39 k x0 = some r) :
  SCall Tryd.prog 39 [.slice a_x0 x0.length c_x0] H (Ret fun v H' => Ext H H' ∧ R_22_35 r H.next H' v) := by
 unfold f39 at hp
 replace hp := topS hp
 refine SCall.g Tryd.func39 rfl rfl rfl rfl rfl (l := [(0, .v (.slice a_x0 x0.length c_x0))]) (fun _ => rfl) (fun B abB => ?_)
 obtain ⟨⟨t8_0, t8_1⟩, e8, hp⟩ := bindS hp
 refine WJ.cl 208 (R := R_35_3 ⟨t8_0, t8_1⟩) (fun hm h k => R_35_3.mono hm h k) rfl (fun ids H' fr => f46_ok (g_x0.mono (Nat.zero_le _) fr.ext0.abv) e8) ?_
 rintro v B1 ⟨abB1, ivB1⟩ rfl
 refine ⟨_, rfl, ?_⟩
 refine WJ.cn 210 hp rfl rfl rfl rfl rfl rfl rfl rfl rfl (fun hc12 hp => ?_) (fun hc12 hp => ?_)
 ·obtain rfl := endS (show some _ = some r from hp)
  exact WJ.rt 208 rfl rfl rfl (fun ids H' fr => ⟨fr.ext0, ⟨_, _, rfl, SlF.nil⟩⟩)
 ·obtain ⟨t15, e15, hp⟩ := bindS hp
  refine WJ.cl 206 (R := R_22 t15) (fun hm h k => R_22.mono hm h k) rfl (fun ids H' fr => f47_ok (g_x0.mono (Nat.zero_le _) fr.ext0.abv) e15) ?_
  rintro v B2 ⟨abB2, ivB2⟩ ⟨a_t15, c_t15, rfl, g_t15⟩
  refine ⟨_, rfl, ?_⟩
  obtain rfl := endS (show some _ = some r from hp)
  exact WJ.rt 203 rfl rfl rfl (fun ids H' fr => ⟨fr.ext0, ⟨_, _, rfl, (g_t15.mono (Nat.le_refl _) (fr.abv.le (Nat.zero_le _)))⟩⟩)
end
end Go.Proofs.YthemdclmlcblbaaDoor
set_option linter.unusedVariables false
set_option linter.unusedSimpArgs false
namespace Go.Proofs.YthemdclmlcblbaaDoor
open Go Go.Det Go.RowKit
noncomputable section
/-! 12 tipstaff/tipstaffref27.Home -/
def f12 (k : Nat) (x0 : Config) (x1 : Int) : Option (Int × Int) :=
 (f38 k x0 x1).bind fun t11 =>
 if t11 = 0 then
  (f39 k x0.Gaps).bind fun (t18_0, t18_1) =>
  (rd ([(RuleT.mk x0.Rules_0_Mask x0.Rules_0_Home x0.Rules_0_Calls), (RuleT.mk x0.Rules_1_Mask x0.Rules_1_Home x0.Rules_1_Calls), (RuleT.mk x0.Rules_2_Mask x0.Rules_2_Home x0.Rules_2_Calls)] : List RuleT) (IntKind.i64.wrap (x1 - 1))).bind fun t25 =>
  (rd t18_0 t25.Home).bind fun t28 =>
  some (t28, 0)
 else
  some (0, t11)
set_option maxHeartbeats 40000000 in
set_option maxRecDepth 20000 in
theorem f12_ok {k : Nat} {H : Hp} {zr : Option Addr} {zs : Nat} {zd : Option Addr} {ze : Nat} {zi : Option Addr} {zj : Nat} {x0 : Config} {x1 : Int} {r : Int × Int} (z8 : SlF 0 H intC zr zs x0.Gaps) (z9 : SlF 0 H (slC intC) zd ze x0.Rota) (zaa : SlF 0 H intC zi zj x0.Keys) (hp : f12 k x0 x1 = some r) :
  SCall Tryd.prog 12 [.agg ⟨[.int .i64 x0.Floors, .slice zr x0.Gaps.length zs, .int .i64 x0.Cars, .int .i64 x0.Speed, .int .i64 x0.Brake, .int .i64 x0.Tol, .int .i64 x0.Width, .int .i64 x0.Dwell, .int .i64 x0.Retries, .int .i64 x0.Empty, .int .i64 x0.Full, .int .i64 x0.Trips, .int .i64 x0.Slots, .slice zd x0.Rota.length ze, .int .u64 x0.Rules_0_Mask, .int .i64 x0.Rules_0_Home, .int .i64 x0.Rules_0_Calls, .int .u64 x0.Rules_1_Mask, .int .i64 x0.Rules_1_Home, .int .i64 x0.Rules_1_Calls, .int .u64 x0.Rules_2_Mask, .int .i64 x0.Rules_2_Home, .int .i64 x0.Rules_2_Calls, .slice zi x0.Keys.length zj, .int .i64 x0.Life]⟩, .int .i64 x1] H (Ret fun v H' => Ext H H' ∧ R_3_35 r H.next H' v) := by
 obtain ⟨zn, zt, zy, zz, z0, z1, zv, zw, zx, zq, z2, z3, zu, za, zb, zc, zg, zf, zk, zm, zl, zo, zp, zh, z4⟩ := x0
 unfold f12 at hp
 replace hp := topS hp
 refine SCall.g Tryd.func12 rfl rfl rfl rfl rfl (l := [(0, .v (.agg ⟨[.int .i64 zn, .slice zr zt.length zs, .int .i64 zy, .int .i64 zz, .int .i64 z0, .int .i64 z1, .int .i64 zv, .int .i64 zw, .int .i64 zx, .int .i64 zq, .int .i64 z2, .int .i64 z3, .int .i64 zu, .slice zd za.length ze, .int .u64 zb, .int .i64 zc, .int .i64 zg, .int .u64 zf, .int .i64 zk, .int .i64 zm, .int .u64 zl, .int .i64 zo, .int .i64 zp, .slice zi zh.length zj, .int .i64 z4]⟩)), (1, .v (.int .i64 x1))]) (fun _ => rfl) (fun B abB => ?_)
 have z6 := z8.mono (Nat.le_refl _) abB
 have z7 := z9.mono (Nat.le_refl _) abB
 have z5 := zaa.mono (Nat.le_refl _) abB
 refine WJ.adv 3 rfl ?_
 refine WJ.liftS (loc := []) rfl rfl (fun bv0 => ?_)
 refine WJ.hd (v := .agg ⟨[.int .i64 zn, .slice zr zt.length zs, .int .i64 zy, .int .i64 zz, .int .i64 z0, .int .i64 z1, .int .i64 zv, .int .i64 zw, .int .i64 zx, .int .i64 zq, .int .i64 z2, .int .i64 z3, .int .i64 zu, .slice zd za.length ze, .int .u64 zb, .int .i64 zc, .int .i64 zg, .int .u64 zf, .int .i64 zk, .int .i64 zm, .int .u64 zl, .int .i64 zo, .int .i64 zp, .slice zi zh.length zj, .int .i64 z4]⟩) 205 rfl rfl rfl rfl (fun ids H' fr => opD_load rfl (evV_eq _ _ _ _ _ rfl) (fr.ldOwn (j := 0) rfl rfl)) rfl ?_
 obtain ⟨t11, e11, hp⟩ := bindS hp
 refine WJ.cl 201 (R := R_35 t11) (fun hm h k => R_35.mono hm h k) rfl (fun ids H' fr => f38_ok (x0 := (Config.mk zn zt zy zz z0 z1 zv zw zx zq z2 z3 zu za zb zc zg zf zk zm zl zo zp zh z4)) (z6.mono (Nat.zero_le _) (fr.abv.le (Nat.zero_le _))) (z7.mono (Nat.zero_le _) (fr.abv.le (Nat.zero_le _))) (z5.mono (Nat.zero_le _) (fr.abv.le (Nat.zero_le _))) e11) ?_
 rintro v B1 ⟨abB1, ivB1⟩ rfl
 refine ⟨_, rfl, ?_⟩
 replace z6 := z6.mono (Nat.le_refl _) (abB1.le (Nat.zero_le _))
 replace z7 := z7.mono (Nat.le_refl _) (abB1.le (Nat.zero_le _))
 replace z5 := z5.mono (Nat.le_refl _) (abB1.le (Nat.zero_le _))
 refine WJ.cn 206 hp rfl rfl rfl rfl rfl rfl rfl rfl rfl (fun hc13 hp => ?_) (fun hc13 hp => ?_)
 ·obtain rfl := endS (show some _ = some r from hp)
  exact WJ.rt 208 rfl rfl rfl (fun ids H' fr => ⟨fr.ext0, rfl⟩)
 ·refine WJ.hd (v := .slice zr zt.length zs) 206 rfl rfl rfl rfl (fun ids H' fr => opD_load rfl (evV_eq _ _ _ _ _ rfl) (fr.ldOwn (j := 0) rfl rfl)) rfl ?_
  obtain ⟨⟨t18_0, t18_1⟩, e18, hp⟩ := bindS hp
  refine WJ.cl 200 (R := R_22_35 ⟨t18_0, t18_1⟩) (fun hm h k => R_22_35.mono hm h k) rfl (fun ids H' fr => f39_ok (z6.mono (Nat.zero_le _) (fr.abv.le (Nat.zero_le _))) e18) ?_
  rintro v B2 ⟨abB2, ivB2⟩ ⟨a_t18_0, c_t18_0, rfl, g_t18_0⟩
  refine ⟨_, rfl, ?_⟩
  replace z6 := z6.mono (Nat.le_refl _) (abB2.le (Nat.zero_le _))
  replace z7 := z7.mono (Nat.le_refl _) (abB2.le (Nat.zero_le _))
  replace z5 := z5.mono (Nat.le_refl _) (abB2.le (Nat.zero_le _))
  obtain ⟨⟨zcq, zcm, zcr⟩, e25, hp⟩ := bindS hp
  refine WJ.hd (v := .pointer (some ⟨bv0, (14 + (IntKind.i64.wrap (x1 - 1) : Int).toNat * 3), none⟩)) 212 rfl rfl rfl rfl (fun ids H' fr => opD_indexAddr rfl (evV_eq _ _ _ _ _ rfl) (evV_eq _ _ _ _ _ rfl) (idxArr ua27 sz26 (rd_some e25).1 (rd_some e25).2.1)) rfl ?_
  refine WJ.hd (v := .int .i64 zcm) 201 rfl rfl rfl rfl (fun ids H' fr => opD_load rfl (evV_eq _ _ _ _ _ rfl) ((fr.arrEl (j := 0) (enc := RuleT.cs) (sz := 3) (off := 14) (L := ([(RuleT.mk zb zc zg), (RuleT.mk zf zk zm), (RuleT.mk zl zo zp)] : List RuleT)) rfl (fun _ => rfl) rfl rfl e25).load (d := 1) ag3 rfl)) rfl ?_
  obtain ⟨t28, e28, hp⟩ := bindS hp
  obtain ⟨b28, o28, cs28, i28, rfl, p28⟩ := g_t18_0.at e28 u22 sz3
  refine WJ.hd (v := .pointer (some ⟨b28, o28, none⟩)) 200 rfl rfl rfl rfl (fun ids H' fr => opD_indexAddr rfl (evV_eq _ _ _ _ _ rfl) (evV_eq _ _ _ _ _ rfl) (i28 _)) rfl ?_
  refine WJ.hd (v := .int .i64 t28) 200 rfl rfl rfl rfl (fun ids H' fr => opD_load rfl (evV_eq _ _ _ _ _ rfl) ((p28.mono (Nat.zero_le _) (fr.abv.le (Nat.zero_le _))).load (d := 0) ag3 rfl)) rfl ?_
  obtain rfl := endS (show some _ = some r from hp)
  exact WJ.rt 203 rfl rfl rfl (fun ids H' fr => ⟨fr.ext0, rfl⟩)
/-! 40 tipstaff/mask.List -/
def f40_l1 : Nat → (List Int) → Int → Option (List Int)
 | 0, _, _ => none
 | n + 1, l2_h49, v1_0_h49 =>
  if v1_0_h49 = 0 then
   some ((l2_h49 : List Int))
  else
   (f62 v1_0_h49).bind fun t11u6 =>
   (apd 8 l2_h49 ([t11u6])).bind fun l11u7 =>
   f40_l1 n l11u7 (bits .and .u64 v1_0_h49 (IntKind.u64.wrap (v1_0_h49 - 1)))
def f40 (k : Nat) (x0 : Int) : Option (List Int) :=
 (f40_l1 k ([]) x0).bind fun st =>
  some st
set_option maxHeartbeats 40000000 in
set_option maxRecDepth 20000 in
theorem f40_ok {k : Nat} {H : Hp} {x0 : Int} {r : List Int} (hp : f40 k x0 = some r) :
  SCall Tryd.prog 40 [.int .u64 x0] H (Ret fun v H' => Ext H H' ∧ R_22 r H.next H' v) := by
 unfold f40 at hp
 replace hp := topS hp
 refine SCall.g Tryd.func40 rfl rfl rfl rfl rfl (l := [(0, .v (.int .u64 x0))]) (fun _ => rfl) (fun B abB => ?_)
 refine WJ.adv 7 rfl ?_
 refine WJ.liftS (loc := []) rfl rfl (fun bv0 => ?_)
 refine WJ.inl 205 rfl rfl Tryd.func51 rfl rfl rfl rfl rfl (lc := [(0, .v (.int .u64 x0))]) (fun _ => rfl) ?_
 refine WJ.adv 3 rfl ?_
 refine WJ.liftS (loc := []) rfl rfl (fun bv1 => ?_)
 refine WJ.adv 5 rfl ?_
 refine WJ.nf ?_
 refine WJ.inlR 202 rfl rfl rfl rfl ?_
 refine WJ.adv 2 rfl ?_
 refine WJ.rf rfl rfl rfl rfl Tryd.func61 rfl rfl (ga := 2) rfl rfl rfl (lc := fun lpf61 => [(0, .v (.func (.yield lpf61) ⟨[]⟩ ⟨[]⟩)), (1, .v (.pointer (some ⟨bv1, 0, none⟩)))]) (fun _ _ => rfl) ?_
 rintro lpf61 B1 Cf61 hCf61 ⟨abB1, ivB1⟩ h0f61 hlf61
 refine WJ.adv 1 rfl ?_
 refine WJ.nw 1 ?_
 obtain ⟨K49, hK49, hp⟩ : ∃ K, K = _ ∧ Option.bind _ K = some r := ⟨_, rfl, cutS hp⟩
 refine WJ.lp 200 (α := Nat × (List Int) × Int × (Option Addr) × Nat × Hp) (fun y => [(0, .v (.func (.yield lpf61) ⟨[]⟩ ⟨[]⟩)), (1, .v (.pointer (some ⟨bv1, 0, none⟩)))]) (fun y => []) (fun y => [⟨some ⟨bv0, 0, none⟩, 1, 1, [.slice y.2.2.2.1 y.2.1.length y.2.2.2.2.1]⟩, ⟨some ⟨bv1, 0, none⟩, 1, 1, [.int .u64 y.2.2.1]⟩, ⟨y.2.2.2.1, y.2.2.2.2.1, 1, encL iE y.2.1⟩]) (fun y => y.2.2.2.2.2) (fun y => y.1) (fun y => Option.bind (f40_l1 y.1 y.2.1 y.2.2.1) K49 = some r ∧ y.2.2.2.2.2.get lpf61 = some (.loop (Cf61.rec_ .ready none))) (k, ([] : List Int), x0, none, 0, B1) rfl ⟨hp, hlf61⟩ (by exact ⟨rfl, rfl, trivial⟩) rfl rfl rfl ?_
 rintro ⟨n, l2_h49, v1_0_h49, a2_h49, c2_h49, B2⟩ ⟨hp, hlf61⟩ ih49
 show WJ _ _ _ B2 [⟨some ⟨bv0, 0, none⟩, 1, 1, [.slice a2_h49 l2_h49.length c2_h49]⟩, ⟨some ⟨bv1, 0, none⟩, 1, 1, [.int .u64 v1_0_h49]⟩, ⟨a2_h49, c2_h49, 1, encL iE l2_h49⟩] _ _ ⟨[(0, .v (.func (.yield lpf61) ⟨[]⟩ ⟨[]⟩)), (1, .v (.pointer (some ⟨bv1, 0, none⟩)))], [], true, 0⟩
 replace hp : Option.bind (f40_l1 n l2_h49 v1_0_h49) K49 = some r := hp
 cases n with
 | zero => rw [f40_l1] at hp; exact (noS hp).elim
 | succ n =>
  rw [f40_l1] at hp
  refine WJ.hd (v := .int .u64 v1_0_h49) 203 rfl rfl rfl rfl (fun ids H' fr => opD_load rfl (evV_eq _ _ _ _ _ rfl) (fr.ldOwn (j := 1) rfl rfl)) rfl ?_
  refine WJ.cn 200 hp rfl rfl rfl rfl rfl rfl rfl rfl rfl (fun hc4u6 hp => ?_) (fun hc4u6 hp => ?_)
  ·refine WJ.hd (v := .int .u64 v1_0_h49) 208 rfl rfl rfl rfl (fun ids H' fr => opD_load rfl (evV_eq _ _ _ _ _ rfl) (fr.ldOwn (j := 1) rfl rfl)) rfl ?_
   obtain ⟨t11u6, e11u6, hp⟩ := bindS hp
   refine WJ.cl 200 (R := R_3 t11u6) (fun hm h k => R_3.mono hm h k) rfl (fun ids H' fr => f62_ok e11u6) ?_
   rintro v B3 ⟨abB3, ivB3⟩ rfl
   refine ⟨_, rfl, ?_⟩
   replace hlf61 := ivB3 _ _ hlf61
   refine WJ.yl (lr := [(3, .v (.pointer (some ⟨bv0, 0, none⟩))), (7, .v (.int .i64 t11u6))]) hCf61 rfl rfl rfl rfl rfl rfl rfl rfl rfl rfl rfl hlf61 rfl ⟨rfl, rfl, rfl, rfl, trivial⟩ ?_
   refine WJ.ylA 203 rfl hlf61 h0f61 (fun B4 abB4 kpB4 hnB4 => ?_) rfl
   replace hlf61 := hnB4
   refine WJ.hd (v := .slice a2_h49 l2_h49.length c2_h49) 202 rfl rfl rfl rfl (fun ids H' fr => opD_load rfl (evV_eq _ _ _ _ _ rfl) (fr.ldOwn (j := 0) rfl rfl)) rfl ?_
   refine WJ.bs (cs := encL iE [t11u6]) (sz := 1) (pl := [(0, .int .i64 t11u6)]) 201 rfl rfl rfl rfl rfl (fun _ _ => rfl) (fun _ => by rfl) rfl rfl ?_
   intro b10u7
   refine ⟨_, rfl, ?_⟩
   obtain ⟨l11u7, e11u7, hp⟩ := bindS hp
   obtain ⟨bd11u7, rfl⟩ := apd_some e11u7
   refine WJ.ap (L := l2_h49) (L2 := [t11u6]) 200 2 rfl rfl rfl rfl rfl rfl rfl rfl (el22 rfl) rfl (fun _ => rfl) (fun _ => rfl) rfl (fun ids H' fr => fr.srcOwn (enc := iE) (sz := 1) (j := 3) (fun _ => rfl) (by decide) rfl) bd11u7 ?_
   intro a11u7 c11u7
   refine ⟨_, rfl, ?_⟩
   refine WJ.pop [⟨some ⟨bv0, 0, none⟩, 1, 1, [.slice a2_h49 l2_h49.length c2_h49]⟩, ⟨some ⟨bv1, 0, none⟩, 1, 1, [.int .u64 v1_0_h49]⟩, ⟨a11u7, c11u7, 1, encL iE (l2_h49 ++ ([t11u6]))⟩] rfl ?_
   refine WJ.sb 200 (j := 0) rfl rfl rfl rfl rfl rfl rfl rfl rfl rfl ?_
   refine WJ.ylE 202 rfl hlf61 h0f61 (.inl ⟨rfl, rfl, rfl, rfl⟩) rfl (fun B5 abB5 kpB5 hnB5 => ?_)
   replace hlf61 := hnB5
   refine WJ.hd (v := .int .u64 v1_0_h49) 206 rfl rfl rfl rfl (fun ids H' fr => opD_load rfl (evV_eq _ _ _ _ _ rfl) (fr.ldOwn (j := 1) rfl rfl)) rfl ?_
   refine WJ.hd (v := .int .u64 v1_0_h49) 200 rfl rfl rfl rfl (fun ids H' fr => opD_load rfl (evV_eq _ _ _ _ _ rfl) (fr.ldOwn (j := 1) rfl rfl)) rfl ?_
   refine WJ.sb 202 (j := 1) rfl rfl rfl rfl rfl rfl rfl rfl rfl rfl ?_
   exact WJ.ag 201 rfl (by exact ⟨rfl, rfl, trivial⟩) rfl rfl rfl (ih49 (n, (l2_h49 ++ ([t11u6])), bits .and .u64 v1_0_h49 (IntKind.u64.wrap (v1_0_h49 - 1)), a11u7, c11u7, B5) ⟨hp, hlf61⟩ (Nat.lt_succ_self _))
  ·refine WJ.rfR 203 (.inr rfl) rfl rfl hlf61 h0f61 (fun h => by cases h) (fun B6 abB6 kpB6 => ?_)
   refine WJ.hd (v := .slice a2_h49 l2_h49.length c2_h49) 203 rfl rfl rfl rfl (fun ids H' fr => opD_load rfl (evV_eq _ _ _ _ _ rfl) (fr.ldOwn (j := 0) rfl rfl)) rfl ?_
   subst hK49
   obtain rfl := endS (show some _ = some r from hp)
   exact WJ.rt 202 rfl rfl rfl (fun ids H' fr => ⟨fr.ext0, ⟨_, _, rfl, (fr.slOwn (j := 2) rfl rfl (Nat.le_refl _))⟩⟩)
/-! 13 tipstaff/config.Longest -/
def f13 (k : Nat) (x0 : Config) (x1 : Int) : Option (Int × Int) :=
 (f37 k x0 x1).bind fun (t13_0, t13_1, t13_2) =>
 if t13_2 = 0 then
  (f40 k t13_0.Mask).bind fun t22 =>
  (rd t22 (IntKind.i64.wrap ((t22.length : Int) - 1))).bind fun t28 =>
  (rd t13_1 t28).bind fun t30 =>
  (rd t22 0).bind fun t34 =>
  (rd t13_1 t34).bind fun t36 =>
  some (IntKind.i64.wrap (t30 - t36), 0)
 else
  some (0, t13_2)
set_option maxHeartbeats 40000000 in
set_option maxRecDepth 20000 in
theorem f13_ok {k : Nat} {H : Hp} {zr : Option Addr} {zs : Nat} {zd : Option Addr} {ze : Nat} {zi : Option Addr} {zj : Nat} {x0 : Config} {x1 : Int} {r : Int × Int} (z8 : SlF 0 H intC zr zs x0.Gaps) (z9 : SlF 0 H (slC intC) zd ze x0.Rota) (zaa : SlF 0 H intC zi zj x0.Keys) (hp : f13 k x0 x1 = some r) :
  SCall Tryd.prog 13 [.agg ⟨[.int .i64 x0.Floors, .slice zr x0.Gaps.length zs, .int .i64 x0.Cars, .int .i64 x0.Speed, .int .i64 x0.Brake, .int .i64 x0.Tol, .int .i64 x0.Width, .int .i64 x0.Dwell, .int .i64 x0.Retries, .int .i64 x0.Empty, .int .i64 x0.Full, .int .i64 x0.Trips, .int .i64 x0.Slots, .slice zd x0.Rota.length ze, .int .u64 x0.Rules_0_Mask, .int .i64 x0.Rules_0_Home, .int .i64 x0.Rules_0_Calls, .int .u64 x0.Rules_1_Mask, .int .i64 x0.Rules_1_Home, .int .i64 x0.Rules_1_Calls, .int .u64 x0.Rules_2_Mask, .int .i64 x0.Rules_2_Home, .int .i64 x0.Rules_2_Calls, .slice zi x0.Keys.length zj, .int .i64 x0.Life]⟩, .int .i64 x1] H (Ret fun v H' => Ext H H' ∧ R_3_35 r H.next H' v) := by
 obtain ⟨zn, zt, zy, zz, z0, z1, zv, zw, zx, zq, z2, z3, zu, za, zb, zc, zg, zf, zk, zm, zl, zo, zp, zh, z4⟩ := x0
 unfold f13 at hp
 replace hp := topS hp
 refine SCall.g Tryd.func13 rfl rfl rfl rfl rfl (l := [(0, .v (.agg ⟨[.int .i64 zn, .slice zr zt.length zs, .int .i64 zy, .int .i64 zz, .int .i64 z0, .int .i64 z1, .int .i64 zv, .int .i64 zw, .int .i64 zx, .int .i64 zq, .int .i64 z2, .int .i64 z3, .int .i64 zu, .slice zd za.length ze, .int .u64 zb, .int .i64 zc, .int .i64 zg, .int .u64 zf, .int .i64 zk, .int .i64 zm, .int .u64 zl, .int .i64 zo, .int .i64 zp, .slice zi zh.length zj, .int .i64 z4]⟩)), (1, .v (.int .i64 x1))]) (fun _ => rfl) (fun B abB => ?_)
 obtain ⟨⟨⟨t13_0_Mask, t13_0_Home, t13_0_Calls⟩, t13_1, t13_2⟩, e13, hp⟩ := bindS hp
 refine WJ.cl 210 (R := R_26_22_35 ⟨⟨t13_0_Mask, t13_0_Home, t13_0_Calls⟩, t13_1, t13_2⟩) (fun hm h k => R_26_22_35.mono hm h k) rfl (fun ids H' fr => f37_ok (x0 := (Config.mk zn zt zy zz z0 z1 zv zw zx zq z2 z3 zu za zb zc zg zf zk zm zl zo zp zh z4)) (z8.mono (Nat.zero_le _) fr.ext0.abv) (z9.mono (Nat.zero_le _) fr.ext0.abv) (zaa.mono (Nat.zero_le _) fr.ext0.abv) e13) ?_
 rintro v B1 ⟨abB1, ivB1⟩ ⟨a_t13_1, c_t13_1, rfl, g_t13_1⟩
 refine ⟨_, rfl, ?_⟩
 refine WJ.cn 213 hp rfl rfl rfl rfl rfl rfl rfl rfl rfl (fun hc18 hp => ?_) (fun hc18 hp => ?_)
 ·obtain rfl := endS (show some _ = some r from hp)
  exact WJ.rt 208 rfl rfl rfl (fun ids H' fr => ⟨fr.ext0, rfl⟩)
 ·obtain ⟨t22, e22, hp⟩ := bindS hp
  refine WJ.cl 207 (R := R_22 t22) (fun hm h k => R_22.mono hm h k) rfl (fun ids H' fr => f40_ok e22) ?_
  rintro v B2 ⟨abB2, ivB2⟩ ⟨a_t22, c_t22, rfl, g_t22⟩
  refine ⟨_, rfl, ?_⟩
  replace g_t13_1 := g_t13_1.mono (Nat.le_refl _) (abB2.le (Nat.zero_le _))
  refine WJ.dr 203 rfl gmix (by kernel_rfl) (by kernel_rfl) rfl ?_
  obtain ⟨t28, e28, hp⟩ := bindS hp
  obtain ⟨b28, o28, cs28, i28, rfl, p28⟩ := g_t22.at e28 u22 sz3
  refine WD.hd (v := .pointer (some ⟨b28, o28, none⟩)) rfl rfl rfl rfl (fun _ _ _ _ _ => side_no) (fun ids H' fr => opD_indexAddr rfl (evV_eq _ _ _ _ _ rfl) (evV_eq _ _ _ _ _ rfl) (i28 _)) rfl ?_
  refine WD.hd (v := .int .i64 t28) rfl rfl rfl rfl (fun _ _ _ _ _ => side_no) (fun ids H' fr => opD_load rfl (evV_eq _ _ _ _ _ rfl) ((p28.mono (Nat.zero_le _) (fr.abv.le (Nat.zero_le _))).load (d := 0) ag3 rfl)) rfl ?_
  obtain ⟨t30, e30, hp⟩ := bindS hp
  obtain ⟨b30, o30, cs30, i30, rfl, p30⟩ := g_t13_1.at e30 u22 sz3
  refine WD.hd (v := .pointer (some ⟨b30, o30, none⟩)) rfl rfl rfl rfl (fun _ _ _ _ _ => side_no) (fun ids H' fr => opD_indexAddr rfl (evV_eq _ _ _ _ _ rfl) (evV_eq _ _ _ _ _ rfl) (i30 _)) rfl ?_
  refine WD.hd (v := .int .i64 t30) rfl rfl rfl rfl (fun _ _ _ _ _ => side_no) (fun ids H' fr => opD_load rfl (evV_eq _ _ _ _ _ rfl) ((p30.mono (Nat.zero_le _) (fr.abv.le (Nat.zero_le _))).load (d := 0) ag3 rfl)) rfl ?_
  obtain ⟨t34, e34, hp⟩ := bindS hp
  obtain ⟨b34, o34, cs34, i34, rfl, p34⟩ := g_t22.at e34 u22 sz3
  refine WD.hd (v := .pointer (some ⟨b34, o34, none⟩)) rfl rfl rfl rfl (fun _ _ _ _ _ => side_no) (fun ids H' fr => opD_indexAddr rfl (evV_eq _ _ _ _ _ rfl) (evV_eq _ _ _ _ _ rfl) (i34 _)) rfl ?_
  refine WD.hd (v := .int .i64 t34) rfl rfl rfl rfl (fun _ _ _ _ _ => side_no) (fun ids H' fr => opD_load rfl (evV_eq _ _ _ _ _ rfl) ((p34.mono (Nat.zero_le _) (fr.abv.le (Nat.zero_le _))).load (d := 0) ag3 rfl)) rfl ?_
  obtain ⟨t36, e36, hp⟩ := bindS hp
  obtain ⟨b36, o36, cs36, i36, rfl, p36⟩ := g_t13_1.at e36 u22 sz3
  refine WD.hd (v := .pointer (some ⟨b36, o36, none⟩)) rfl rfl rfl rfl (fun _ _ _ _ _ => side_no) (fun ids H' fr => opD_indexAddr rfl (evV_eq _ _ _ _ _ rfl) (evV_eq _ _ _ _ _ rfl) (i36 _)) rfl ?_
  refine WD.hd (v := .int .i64 t36) rfl rfl rfl rfl (fun _ _ _ _ _ => side_no) (fun ids H' fr => opD_load rfl (evV_eq _ _ _ _ _ rfl) ((p36.mono (Nat.zero_le _) (fr.abv.le (Nat.zero_le _))).load (d := 0) ag3 rfl)) rfl ?_
  refine WD.done rfl ?_
  obtain rfl := endS (show some _ = some r from hp)
  exact WJ.rt 200 rfl rfl rfl (fun ids H' fr => ⟨fr.ext0, rfl⟩)
/-! 14 tipstaff/tipstaffref27.Longest -/
def f14_l2 (t22_0 : List Int) (zae : Int) (zn : Int) (zaf : Int) : Nat → Int → Int → Option (Int)
 | 0, _, _ => none
 | n + 1, zah, zaj =>
  if zaj < zn then
   (f41 zaf zae).bind fun t46 =>
   if t46 then
    (f41 zaf zaj).bind fun t50 =>
    (if t50 then
     (rd t22_0 zaj).bind fun t55 =>
     (rd t22_0 zae).bind fun t59 =>
     some ((gmax zah (IntKind.i64.wrap (t55 - t59))))
    else
     some (zah)).bind fun x10_52 =>
     f14_l2 t22_0 zae zn zaf n x10_52 (IntKind.i64.wrap (zaj + 1))
   else
    f14_l2 t22_0 zae zn zaf n zah (IntKind.i64.wrap (zaj + 1))
  else
   some (zah)
def f14_l1 (k : Nat) (t22_0 : List Int) (zn : Int) (zaf : Int) : Nat → Int → Int → Option (Int)
 | 0, _, _ => none
 | n + 1, zbe, zae =>
  if zae < zn then
   (f14_l2 t22_0 zae zn zaf k zbe zae).bind fun x10_51 =>
    f14_l1 k t22_0 zn zaf n x10_51 (IntKind.i64.wrap (zae + 1))
  else
   some (zbe)
def f14 (k : Nat) (x0 : Config) (x1 : Int) : Option (Int × Int) :=
 (f38 k x0 x1).bind fun t15 =>
 if t15 = 0 then
  (f39 k x0.Gaps).bind fun (t22_0, t22_1) =>
  (rd ([(RuleT.mk x0.Rules_0_Mask x0.Rules_0_Home x0.Rules_0_Calls), (RuleT.mk x0.Rules_1_Mask x0.Rules_1_Home x0.Rules_1_Calls), (RuleT.mk x0.Rules_2_Mask x0.Rules_2_Home x0.Rules_2_Calls)] : List RuleT) (IntKind.i64.wrap (x1 - 1))).bind fun t28 =>
  (f14_l1 k t22_0 x0.Floors t28.Mask k 0 0).bind fun x10_50 =>
   some (x10_50, 0)
 else
  some (0, t15)
set_option maxHeartbeats 40000000 in
set_option maxRecDepth 20000 in
theorem f14_ok {k : Nat} {H : Hp} {zr : Option Addr} {zs : Nat} {zd : Option Addr} {ze : Nat} {zi : Option Addr} {zj : Nat} {x0 : Config} {x1 : Int} {r : Int × Int} (z8 : SlF 0 H intC zr zs x0.Gaps) (z9 : SlF 0 H (slC intC) zd ze x0.Rota) (zaa : SlF 0 H intC zi zj x0.Keys) (hp : f14 k x0 x1 = some r) :
  SCall Tryd.prog 14 [.agg ⟨[.int .i64 x0.Floors, .slice zr x0.Gaps.length zs, .int .i64 x0.Cars, .int .i64 x0.Speed, .int .i64 x0.Brake, .int .i64 x0.Tol, .int .i64 x0.Width, .int .i64 x0.Dwell, .int .i64 x0.Retries, .int .i64 x0.Empty, .int .i64 x0.Full, .int .i64 x0.Trips, .int .i64 x0.Slots, .slice zd x0.Rota.length ze, .int .u64 x0.Rules_0_Mask, .int .i64 x0.Rules_0_Home, .int .i64 x0.Rules_0_Calls, .int .u64 x0.Rules_1_Mask, .int .i64 x0.Rules_1_Home, .int .i64 x0.Rules_1_Calls, .int .u64 x0.Rules_2_Mask, .int .i64 x0.Rules_2_Home, .int .i64 x0.Rules_2_Calls, .slice zi x0.Keys.length zj, .int .i64 x0.Life]⟩, .int .i64 x1] H (Ret fun v H' => Ext H H' ∧ R_3_35 r H.next H' v) := by
 obtain ⟨zn, zt, zy, zz, z0, z1, zv, zw, zx, zq, z2, z3, zu, za, zb, zc, zg, zf, zk, zm, zl, zo, zp, zh, z4⟩ := x0
 unfold f14 at hp
 replace hp := topS hp
 refine SCall.g Tryd.func14 rfl rfl rfl rfl rfl (l := [(0, .v (.agg ⟨[.int .i64 zn, .slice zr zt.length zs, .int .i64 zy, .int .i64 zz, .int .i64 z0, .int .i64 z1, .int .i64 zv, .int .i64 zw, .int .i64 zx, .int .i64 zq, .int .i64 z2, .int .i64 z3, .int .i64 zu, .slice zd za.length ze, .int .u64 zb, .int .i64 zc, .int .i64 zg, .int .u64 zf, .int .i64 zk, .int .i64 zm, .int .u64 zl, .int .i64 zo, .int .i64 zp, .slice zi zh.length zj, .int .i64 z4]⟩)), (1, .v (.int .i64 x1))]) (fun _ => rfl) (fun B abB => ?_)
 have z6 := z8.mono (Nat.le_refl _) abB
 have z7 := z9.mono (Nat.le_refl _) abB
 have z5 := zaa.mono (Nat.le_refl _) abB
 refine WJ.adv 3 rfl ?_
 refine WJ.liftS (loc := []) rfl rfl (fun bv0 => ?_)
 refine WJ.hd (v := .agg ⟨[.int .i64 zn, .slice zr zt.length zs, .int .i64 zy, .int .i64 zz, .int .i64 z0, .int .i64 z1, .int .i64 zv, .int .i64 zw, .int .i64 zx, .int .i64 zq, .int .i64 z2, .int .i64 z3, .int .i64 zu, .slice zd za.length ze, .int .u64 zb, .int .i64 zc, .int .i64 zg, .int .u64 zf, .int .i64 zk, .int .i64 zm, .int .u64 zl, .int .i64 zo, .int .i64 zp, .slice zi zh.length zj, .int .i64 z4]⟩) 205 rfl rfl rfl rfl (fun ids H' fr => opD_load rfl (evV_eq _ _ _ _ _ rfl) (fr.ldOwn (j := 0) rfl rfl)) rfl ?_
 obtain ⟨t15, e15, hp⟩ := bindS hp
 refine WJ.cl 201 (R := R_35 t15) (fun hm h k => R_35.mono hm h k) rfl (fun ids H' fr => f38_ok (x0 := (Config.mk zn zt zy zz z0 z1 zv zw zx zq z2 z3 zu za zb zc zg zf zk zm zl zo zp zh z4)) (z6.mono (Nat.zero_le _) (fr.abv.le (Nat.zero_le _))) (z7.mono (Nat.zero_le _) (fr.abv.le (Nat.zero_le _))) (z5.mono (Nat.zero_le _) (fr.abv.le (Nat.zero_le _))) e15) ?_
 rintro v B1 ⟨abB1, ivB1⟩ rfl
 refine ⟨_, rfl, ?_⟩
 replace z6 := z6.mono (Nat.le_refl _) (abB1.le (Nat.zero_le _))
 replace z7 := z7.mono (Nat.le_refl _) (abB1.le (Nat.zero_le _))
 replace z5 := z5.mono (Nat.le_refl _) (abB1.le (Nat.zero_le _))
 refine WJ.cn 206 hp rfl rfl rfl rfl rfl rfl rfl rfl rfl (fun hc17 hp => ?_) (fun hc17 hp => ?_)
 ·obtain rfl := endS (show some _ = some r from hp)
  exact WJ.rt 208 rfl rfl rfl (fun ids H' fr => ⟨fr.ext0, rfl⟩)
 ·refine WJ.hd (v := .slice zr zt.length zs) 206 rfl rfl rfl rfl (fun ids H' fr => opD_load rfl (evV_eq _ _ _ _ _ rfl) (fr.ldOwn (j := 0) rfl rfl)) rfl ?_
  obtain ⟨⟨t22_0, t22_1⟩, e22, hp⟩ := bindS hp
  refine WJ.cl 200 (R := R_22_35 ⟨t22_0, t22_1⟩) (fun hm h k => R_22_35.mono hm h k) rfl (fun ids H' fr => f39_ok (z6.mono (Nat.zero_le _) (fr.abv.le (Nat.zero_le _))) e22) ?_
  rintro v B2 ⟨abB2, ivB2⟩ ⟨a_t22_0, c_t22_0, rfl, g_t22_0⟩
  refine ⟨_, rfl, ?_⟩
  replace z6 := z6.mono (Nat.le_refl _) (abB2.le (Nat.zero_le _))
  replace z7 := z7.mono (Nat.le_refl _) (abB2.le (Nat.zero_le _))
  replace z5 := z5.mono (Nat.le_refl _) (abB2.le (Nat.zero_le _))
  obtain ⟨⟨zaf, zcs, zct⟩, e28, hp⟩ := bindS hp
  refine WJ.hd (v := .pointer (some ⟨bv0, (14 + (IntKind.i64.wrap (x1 - 1) : Int).toNat * 3), none⟩)) 211 rfl rfl rfl rfl (fun ids H' fr => opD_indexAddr rfl (evV_eq _ _ _ _ _ rfl) (evV_eq _ _ _ _ _ rfl) (idxArr ua27 sz26 (rd_some e28).1 (rd_some e28).2.1)) rfl ?_
  refine WJ.hd (v := .int .u64 zaf) 201 rfl rfl rfl rfl (fun ids H' fr => opD_load rfl (evV_eq _ _ _ _ _ rfl) ((fr.arrEl (j := 0) (enc := RuleT.cs) (sz := 3) (off := 14) (L := ([(RuleT.mk zb zc zg), (RuleT.mk zf zk zm), (RuleT.mk zl zo zp)] : List RuleT)) rfl (fun _ => rfl) rfl rfl e28).load (d := 0) ag24 rfl)) rfl ?_
  refine WJ.adv 12 rfl ?_
  obtain ⟨K50, hK50, hp⟩ : ∃ K, K = _ ∧ Option.bind _ K = some r := ⟨_, rfl, cutS hp⟩
  refine WJ.cut 2 (α := Int × Hp) (fun y => [(10, .v (.int .i64 y.1))]) (fun y => []) (fun y => [⟨some ⟨bv0, 0, none⟩, 25, 1, [.int .i64 zn, .slice zr zt.length zs, .int .i64 zy, .int .i64 zz, .int .i64 z0, .int .i64 z1, .int .i64 zv, .int .i64 zw, .int .i64 zx, .int .i64 zq, .int .i64 z2, .int .i64 z3, .int .i64 zu, .slice zd za.length ze, .int .u64 zb, .int .i64 zc, .int .i64 zg, .int .u64 zf, .int .i64 zk, .int .i64 zm, .int .u64 zl, .int .i64 zo, .int .i64 zp, .slice zi zh.length zj, .int .i64 z4]⟩]) (fun y => y.2) (fun y => K50 (y.1) = some r ∧ SlF 0 y.2 intC zr zs zt ∧ SlF 0 y.2 (slC intC) zd ze za ∧ SlF 0 y.2 intC zi zj zh ∧ SlF H.next y.2 intC a_t22_0 c_t22_0 t22_0) ?_ (fun j50 => ?_)
  ·rintro ⟨x10_50, B8⟩ ⟨hp, z6, z7, z5, g_t22_0⟩
   subst hK50
   show WJ _ _ _ B8 [⟨some ⟨bv0, 0, none⟩, 25, 1, [.int .i64 zn, .slice zr zt.length zs, .int .i64 zy, .int .i64 zz, .int .i64 z0, .int .i64 z1, .int .i64 zv, .int .i64 zw, .int .i64 zx, .int .i64 zq, .int .i64 z2, .int .i64 z3, .int .i64 zu, .slice zd za.length ze, .int .u64 zb, .int .i64 zc, .int .i64 zg, .int .u64 zf, .int .i64 zk, .int .i64 zm, .int .u64 zl, .int .i64 zo, .int .i64 zp, .slice zi zh.length zj, .int .i64 z4]⟩] _ _ ⟨[(10, .v (.int .i64 x10_50))], [], true, 0⟩
   obtain rfl := endS (show some _ = some r from hp)
   exact WJ.rt 206 rfl rfl rfl (fun ids H' fr => ⟨fr.ext0, rfl⟩)
  ·refine WJ.lp 200 (α := Nat × Int × Int × Hp) (fun y => [(2, .v (.pointer (some ⟨bv0, 0, none⟩))), (7, .v (.slice a_t22_0 t22_0.length c_t22_0)), (9, .v (.int .u64 zaf)), (10, .v (.int .i64 y.2.1)), (11, .v (.int .i64 y.2.2.1))]) (fun y => []) (fun y => [⟨some ⟨bv0, 0, none⟩, 25, 1, [.int .i64 zn, .slice zr zt.length zs, .int .i64 zy, .int .i64 zz, .int .i64 z0, .int .i64 z1, .int .i64 zv, .int .i64 zw, .int .i64 zx, .int .i64 zq, .int .i64 z2, .int .i64 z3, .int .i64 zu, .slice zd za.length ze, .int .u64 zb, .int .i64 zc, .int .i64 zg, .int .u64 zf, .int .i64 zk, .int .i64 zm, .int .u64 zl, .int .i64 zo, .int .i64 zp, .slice zi zh.length zj, .int .i64 z4]⟩]) (fun y => y.2.2.2) (fun y => y.1) (fun y => Option.bind (f14_l1 k t22_0 zn zaf y.1 y.2.1 y.2.2.1) K50 = some r ∧ SlF 0 y.2.2.2 intC zr zs zt ∧ SlF 0 y.2.2.2 (slC intC) zd ze za ∧ SlF 0 y.2.2.2 intC zi zj zh ∧ SlF H.next y.2.2.2 intC a_t22_0 c_t22_0 t22_0) (k, 0, 0, B2) rfl ⟨hp, z6, z7, z5, g_t22_0⟩ (by exact ⟨rfl, rfl, rfl, rfl, rfl, trivial⟩) rfl rfl rfl ?_
   rintro ⟨n, zbe, zae, B3⟩ ⟨hp, z6, z7, z5, g_t22_0⟩ ih50
   show WJ _ _ _ B3 [⟨some ⟨bv0, 0, none⟩, 25, 1, [.int .i64 zn, .slice zr zt.length zs, .int .i64 zy, .int .i64 zz, .int .i64 z0, .int .i64 z1, .int .i64 zv, .int .i64 zw, .int .i64 zx, .int .i64 zq, .int .i64 z2, .int .i64 z3, .int .i64 zu, .slice zd za.length ze, .int .u64 zb, .int .i64 zc, .int .i64 zg, .int .u64 zf, .int .i64 zk, .int .i64 zm, .int .u64 zl, .int .i64 zo, .int .i64 zp, .slice zi zh.length zj, .int .i64 z4]⟩] _ _ ⟨[(2, .v (.pointer (some ⟨bv0, 0, none⟩))), (7, .v (.slice a_t22_0 t22_0.length c_t22_0)), (9, .v (.int .u64 zaf)), (10, .v (.int .i64 zbe)), (11, .v (.int .i64 zae))], [], true, 0⟩
   replace hp : Option.bind (f14_l1 k t22_0 zn zaf n zbe zae) K50 = some r := hp
   cases n with
   | zero => rw [f14_l1] at hp; exact (noS hp).elim
   | succ n =>
    rw [f14_l1] at hp
    refine WJ.hd (v := .int .i64 zn) 205 rfl rfl rfl rfl (fun ids H' fr => opD_load rfl (evV_eq _ _ _ _ _ rfl) (fr.ldOwn (j := 0) rfl rfl)) rfl ?_
    refine WJ.ci 200 hp rfl rfl rfl rfl rfl rfl rfl rfl rfl (fun hc34 hp => ?_) (fun hc34 hp => ?_)
    ·refine WJ.adv 11 rfl ?_
     obtain ⟨K51, hK51, hp⟩ : ∃ K, K = _ ∧ Option.bind _ K = some r := ⟨_, rfl, cutS hp⟩
     refine WJ.cut 3 (α := Int × Hp) (fun y => [(2, .v (.pointer (some ⟨bv0, 0, none⟩))), (7, .v (.slice a_t22_0 t22_0.length c_t22_0)), (9, .v (.int .u64 zaf)), (10, .v (.int .i64 y.1)), (11, .v (.int .i64 zae))]) (fun y => []) (fun y => [⟨some ⟨bv0, 0, none⟩, 25, 1, [.int .i64 zn, .slice zr zt.length zs, .int .i64 zy, .int .i64 zz, .int .i64 z0, .int .i64 z1, .int .i64 zv, .int .i64 zw, .int .i64 zx, .int .i64 zq, .int .i64 z2, .int .i64 z3, .int .i64 zu, .slice zd za.length ze, .int .u64 zb, .int .i64 zc, .int .i64 zg, .int .u64 zf, .int .i64 zk, .int .i64 zm, .int .u64 zl, .int .i64 zo, .int .i64 zp, .slice zi zh.length zj, .int .i64 z4]⟩]) (fun y => y.2) (fun y => K51 (y.1) = some r ∧ SlF 0 y.2 intC zr zs zt ∧ SlF 0 y.2 (slC intC) zd ze za ∧ SlF 0 y.2 intC zi zj zh ∧ SlF H.next y.2 intC a_t22_0 c_t22_0 t22_0) ?_ (fun j51 => ?_)
     ·rintro ⟨x10_51, B7⟩ ⟨hp, z6, z7, z5, g_t22_0⟩
      subst hK51
      show WJ _ _ _ B7 [⟨some ⟨bv0, 0, none⟩, 25, 1, [.int .i64 zn, .slice zr zt.length zs, .int .i64 zy, .int .i64 zz, .int .i64 z0, .int .i64 z1, .int .i64 zv, .int .i64 zw, .int .i64 zx, .int .i64 zq, .int .i64 z2, .int .i64 z3, .int .i64 zu, .slice zd za.length ze, .int .u64 zb, .int .i64 zc, .int .i64 zg, .int .u64 zf, .int .i64 zk, .int .i64 zm, .int .u64 zl, .int .i64 zo, .int .i64 zp, .slice zi zh.length zj, .int .i64 z4]⟩] _ _ ⟨[(2, .v (.pointer (some ⟨bv0, 0, none⟩))), (7, .v (.slice a_t22_0 t22_0.length c_t22_0)), (9, .v (.int .u64 zaf)), (10, .v (.int .i64 x10_51)), (11, .v (.int .i64 zae))], [], true, 0⟩
      exact WJ.ag 205 rfl (by exact ⟨rfl, rfl, rfl, rfl, rfl, trivial⟩) rfl rfl rfl (ih50 (n, x10_51, IntKind.i64.wrap (zae + 1), B7) ⟨hp, z6, z7, z5, g_t22_0⟩ (Nat.lt_succ_self _))
     ·refine WJ.lp 200 (α := Nat × Int × Int × Hp) (fun y => [(2, .v (.pointer (some ⟨bv0, 0, none⟩))), (7, .v (.slice a_t22_0 t22_0.length c_t22_0)), (9, .v (.int .u64 zaf)), (10, .v (.int .i64 y.2.1)), (11, .v (.int .i64 zae)), (12, .v (.int .i64 y.2.2.1))]) (fun y => []) (fun y => [⟨some ⟨bv0, 0, none⟩, 25, 1, [.int .i64 zn, .slice zr zt.length zs, .int .i64 zy, .int .i64 zz, .int .i64 z0, .int .i64 z1, .int .i64 zv, .int .i64 zw, .int .i64 zx, .int .i64 zq, .int .i64 z2, .int .i64 z3, .int .i64 zu, .slice zd za.length ze, .int .u64 zb, .int .i64 zc, .int .i64 zg, .int .u64 zf, .int .i64 zk, .int .i64 zm, .int .u64 zl, .int .i64 zo, .int .i64 zp, .slice zi zh.length zj, .int .i64 z4]⟩]) (fun y => y.2.2.2) (fun y => y.1) (fun y => Option.bind (f14_l2 t22_0 zae zn zaf y.1 y.2.1 y.2.2.1) K51 = some r ∧ SlF 0 y.2.2.2 intC zr zs zt ∧ SlF 0 y.2.2.2 (slC intC) zd ze za ∧ SlF 0 y.2.2.2 intC zi zj zh ∧ SlF H.next y.2.2.2 intC a_t22_0 c_t22_0 t22_0) (k, zbe, zae, B3) rfl ⟨hp, z6, z7, z5, g_t22_0⟩ (by exact ⟨rfl, rfl, rfl, rfl, rfl, rfl, trivial⟩) rfl rfl rfl ?_
      rintro ⟨n51, zah, zaj, B4⟩ ⟨hp, z6, z7, z5, g_t22_0⟩ ih51
      show WJ _ _ _ B4 [⟨some ⟨bv0, 0, none⟩, 25, 1, [.int .i64 zn, .slice zr zt.length zs, .int .i64 zy, .int .i64 zz, .int .i64 z0, .int .i64 z1, .int .i64 zv, .int .i64 zw, .int .i64 zx, .int .i64 zq, .int .i64 z2, .int .i64 z3, .int .i64 zu, .slice zd za.length ze, .int .u64 zb, .int .i64 zc, .int .i64 zg, .int .u64 zf, .int .i64 zk, .int .i64 zm, .int .u64 zl, .int .i64 zo, .int .i64 zp, .slice zi zh.length zj, .int .i64 z4]⟩] _ _ ⟨[(2, .v (.pointer (some ⟨bv0, 0, none⟩))), (7, .v (.slice a_t22_0 t22_0.length c_t22_0)), (9, .v (.int .u64 zaf)), (10, .v (.int .i64 zah)), (11, .v (.int .i64 zae)), (12, .v (.int .i64 zaj))], [], true, 0⟩
      replace hp : Option.bind (f14_l2 t22_0 zae zn zaf n51 zah zaj) K51 = some r := hp
      cases n51 with
      | zero => rw [f14_l2] at hp; exact (noS hp).elim
      | succ n51 =>
       rw [f14_l2] at hp
       refine WJ.hd (v := .int .i64 zn) 205 rfl rfl rfl rfl (fun ids H' fr => opD_load rfl (evV_eq _ _ _ _ _ rfl) (fr.ldOwn (j := 0) rfl rfl)) rfl ?_
       refine WJ.ci 200 hp rfl rfl rfl rfl rfl rfl rfl rfl rfl (fun hc41 hp => ?_) (fun hc41 hp => ?_)
       ·obtain ⟨t46, e46, hp⟩ := bindS hp
        refine WJ.cl 209 (R := R_4 t46) (fun hm h k => R_4.mono hm h k) rfl (fun ids H' fr => f41_ok e46) ?_
        rintro v B5 ⟨abB5, ivB5⟩ rfl
        refine ⟨_, rfl, ?_⟩
        replace z6 := z6.mono (Nat.le_refl _) (abB5.le (Nat.zero_le _))
        replace z7 := z7.mono (Nat.le_refl _) (abB5.le (Nat.zero_le _))
        replace z5 := z5.mono (Nat.le_refl _) (abB5.le (Nat.zero_le _))
        replace g_t22_0 := g_t22_0.mono (Nat.le_refl _) (abB5.le (Nat.zero_le _))
        cases t46
        ·replace hp := (itS hp).2 Bool.false_ne_true
         exact WJ.ag 214 rfl (by exact ⟨rfl, rfl, rfl, rfl, rfl, rfl, trivial⟩) rfl rfl rfl (ih51 (n51, zah, IntKind.i64.wrap (zaj + 1), B5) ⟨hp, z6, z7, z5, g_t22_0⟩ (Nat.lt_succ_self _))
        ·replace hp := (itS hp).1 rfl
         obtain ⟨t50, e50, hp⟩ := bindS hp
         refine WJ.cl 203 (R := R_4 t50) (fun hm h k => R_4.mono hm h k) rfl (fun ids H' fr => f41_ok e50) ?_
         rintro v B6 ⟨abB6, ivB6⟩ rfl
         refine ⟨_, rfl, ?_⟩
         replace z6 := z6.mono (Nat.le_refl _) (abB6.le (Nat.zero_le _))
         replace z7 := z7.mono (Nat.le_refl _) (abB6.le (Nat.zero_le _))
         replace z5 := z5.mono (Nat.le_refl _) (abB6.le (Nat.zero_le _))
         replace g_t22_0 := g_t22_0.mono (Nat.le_refl _) (abB6.le (Nat.zero_le _))
         refine WJ.adv 2 rfl ?_
         obtain ⟨K52, hK52, hp⟩ : ∃ K, K = _ ∧ Option.bind _ K = some r := ⟨_, rfl, cutS hp⟩
         refine WJ.cut 2 (α := Int) (fun y => [(2, .v (.pointer (some ⟨bv0, 0, none⟩))), (7, .v (.slice a_t22_0 t22_0.length c_t22_0)), (9, .v (.int .u64 zaf)), (10, .v (.int .i64 y)), (11, .v (.int .i64 zae)), (12, .v (.int .i64 zaj))]) (fun y => []) (fun y => [⟨some ⟨bv0, 0, none⟩, 25, 1, [.int .i64 zn, .slice zr zt.length zs, .int .i64 zy, .int .i64 zz, .int .i64 z0, .int .i64 z1, .int .i64 zv, .int .i64 zw, .int .i64 zx, .int .i64 zq, .int .i64 z2, .int .i64 z3, .int .i64 zu, .slice zd za.length ze, .int .u64 zb, .int .i64 zc, .int .i64 zg, .int .u64 zf, .int .i64 zk, .int .i64 zm, .int .u64 zl, .int .i64 zo, .int .i64 zp, .slice zi zh.length zj, .int .i64 z4]⟩]) (fun y => B6) (fun y => K52 ((y)) = some r) ?_ (fun j52 => ?_)
         ·rintro x10_52 hp
          subst hK52
          show WJ _ _ _ B6 [⟨some ⟨bv0, 0, none⟩, 25, 1, [.int .i64 zn, .slice zr zt.length zs, .int .i64 zy, .int .i64 zz, .int .i64 z0, .int .i64 z1, .int .i64 zv, .int .i64 zw, .int .i64 zx, .int .i64 zq, .int .i64 z2, .int .i64 z3, .int .i64 zu, .slice zd za.length ze, .int .u64 zb, .int .i64 zc, .int .i64 zg, .int .u64 zf, .int .i64 zk, .int .i64 zm, .int .u64 zl, .int .i64 zo, .int .i64 zp, .slice zi zh.length zj, .int .i64 z4]⟩] _ _ ⟨[(2, .v (.pointer (some ⟨bv0, 0, none⟩))), (7, .v (.slice a_t22_0 t22_0.length c_t22_0)), (9, .v (.int .u64 zaf)), (10, .v (.int .i64 x10_52)), (11, .v (.int .i64 zae)), (12, .v (.int .i64 zaj))], [], true, 0⟩
          exact WJ.ag 205 rfl (by exact ⟨rfl, rfl, rfl, rfl, rfl, rfl, trivial⟩) rfl rfl rfl (ih51 (n51, x10_52, IntKind.i64.wrap (zaj + 1), B6) ⟨hp, z6, z7, z5, g_t22_0⟩ (Nat.lt_succ_self _))
         ·cases t50
          ·replace hp := (itS hp).2 Bool.false_ne_true
           exact WJ.goto 3 (j52 zah hp) rfl rfl (by exact ⟨rfl, rfl, rfl, rfl, rfl, rfl, trivial⟩) rfl rfl rfl
          ·replace hp := (itS hp).1 rfl
           refine WJ.dr 201 rfl gmix (by kernel_rfl) (by kernel_rfl) rfl ?_
           obtain ⟨t55, e55, hp⟩ := bindS hp
           obtain ⟨b55, o55, cs55, i55, rfl, p55⟩ := g_t22_0.at e55 u22 sz3
           refine WD.hd (v := .pointer (some ⟨b55, o55, none⟩)) rfl rfl rfl rfl (fun _ _ _ _ _ => side_no) (fun ids H' fr => opD_indexAddr rfl (evV_eq _ _ _ _ _ rfl) (evV_eq _ _ _ _ _ rfl) (i55 _)) rfl ?_
           refine WD.hd (v := .int .i64 t55) rfl rfl rfl rfl (fun _ _ _ _ _ => side_no) (fun ids H' fr => opD_load rfl (evV_eq _ _ _ _ _ rfl) ((p55.mono (Nat.zero_le _) (fr.abv.le (Nat.zero_le _))).load (d := 0) ag3 rfl)) rfl ?_
           obtain ⟨t59, e59, hp⟩ := bindS hp
           obtain ⟨b59, o59, cs59, i59, rfl, p59⟩ := g_t22_0.at e59 u22 sz3
           refine WD.hd (v := .pointer (some ⟨b59, o59, none⟩)) rfl rfl rfl rfl (fun _ _ _ _ _ => side_no) (fun ids H' fr => opD_indexAddr rfl (evV_eq _ _ _ _ _ rfl) (evV_eq _ _ _ _ _ rfl) (i59 _)) rfl ?_
           refine WD.hd (v := .int .i64 t59) rfl rfl rfl rfl (fun _ _ _ _ _ => side_no) (fun ids H' fr => opD_load rfl (evV_eq _ _ _ _ _ rfl) ((p59.mono (Nat.zero_le _) (fr.abv.le (Nat.zero_le _))).load (d := 0) ag3 rfl)) rfl ?_
           refine WD.hd (v := .int .i64 (gmax zah (IntKind.i64.wrap (t55 - t59)))) rfl rfl rfl rfl (fun _ _ _ _ _ => side_no) (fun ids H' fr => opD_max rfl rfl rfl (evV_eq (v := .v (.int .i64 zah)) _ _ _ _ _ rfl) (evV_eq (v := .v (.int .i64 (IntKind.i64.wrap (t55 - t59)))) _ _ _ _ _ rfl)) rfl ?_
           refine WD.done rfl ?_
           exact WJ.goto 1 (j52 (gmax zah (IntKind.i64.wrap (t55 - t59))) hp) rfl rfl (by exact ⟨rfl, rfl, rfl, rfl, rfl, rfl, trivial⟩) rfl rfl rfl
       ·exact WJ.goto 4 (j51 (zah, B4) ⟨hp, z6, z7, z5, g_t22_0⟩) rfl rfl (by exact ⟨rfl, rfl, rfl, rfl, rfl, trivial⟩) rfl rfl rfl
    ·exact WJ.goto 3 (j50 (zbe, B3) ⟨hp, z6, z7, z5, g_t22_0⟩) rfl rfl (by exact ⟨rfl, trivial⟩) rfl rfl rfl
/-! 52 tipstaff/shaft.far -/
def f52 (x0 : Int) (x1 : Int) : Option Int :=
 some (gmax (IntKind.i64.wrap (x0 - x1)) (IntKind.i64.wrap (x1 - x0)))
set_option maxHeartbeats 40000000 in
set_option maxRecDepth 20000 in
theorem f52_ok {H : Hp} {x0 : Int} {x1 : Int} {r : Int} (hp : f52 x0 x1 = some r) :
  SCall Tryd.prog 52 [.int .i64 x0, .int .i64 x1] H (Ret fun v H' => Ext H H' ∧ R_3 r H.next H' v) := by
 unfold f52 at hp
 replace hp := topS hp
 refine SCall.g Tryd.func52 rfl rfl rfl rfl rfl (l := [(0, .v (.int .i64 x0)), (1, .v (.int .i64 x1))]) (fun _ => rfl) (fun B abB => ?_)
 refine WJ.hd (v := .int .i64 (gmax (IntKind.i64.wrap (x0 - x1)) (IntKind.i64.wrap (x1 - x0)))) 212 rfl rfl rfl rfl (fun ids H' fr => opD_max rfl rfl rfl (evV_eq (v := .v (.int .i64 (IntKind.i64.wrap (x0 - x1)))) _ _ _ _ _ rfl) (evV_eq (v := .v (.int .i64 (IntKind.i64.wrap (x1 - x0)))) _ _ _ _ _ rfl)) rfl ?_
 obtain rfl := endS (show some _ = some r from hp)
 exact WJ.rt 202 rfl rfl rfl (fun ids H' fr => ⟨fr.ext0, rfl⟩)
/-! 42 tipstaff/shaft.Distance -/
def f42 (k : Nat) (x0 : List Int) (x1 : Int) (x2 : Int) : Option (Int × Int) :=
 (f43 k x0).bind fun (t12_0, t12_1) =>
 if t12_1 = 0 then
  if (gmin x1 x2) < 0 then
   some (0, 2)
  else
   if (gmax x1 x2) ≥ (t12_0.length : Int) then
    some (0, 2)
   else
    (rd t12_0 x1).bind fun t32 =>
    (rd t12_0 x2).bind fun t36 =>
    (f52 t32 t36).bind fun t38 =>
    some (t38, 0)
 else
  some (0, t12_1)
set_option maxHeartbeats 40000000 in
set_option maxRecDepth 20000 in
theorem f42_ok {k : Nat} {H : Hp} {a_x0 : Option Addr} {c_x0 : Nat} {x0 : List Int} {x1 : Int} {x2 : Int} {r : Int × Int} (g_x0 : SlF 0 H intC a_x0 c_x0 x0) (hp : f42 k x0 x1 x2 = some r) :
  SCall Tryd.prog 42 [.slice a_x0 x0.length c_x0, .int .i64 x1, .int .i64 x2] H (Ret fun v H' => Ext H H' ∧ R_3_35 r H.next H' v) := by
 unfold f42 at hp
 replace hp := topS hp
 refine SCall.g Tryd.func42 rfl rfl rfl rfl rfl (l := [(0, .v (.slice a_x0 x0.length c_x0)), (1, .v (.int .i64 x1)), (2, .v (.int .i64 x2))]) (fun _ => rfl) (fun B abB => ?_)
 obtain ⟨⟨t12_0, t12_1⟩, e12, hp⟩ := bindS hp
 refine WJ.cl 208 (R := R_22_35 ⟨t12_0, t12_1⟩) (fun hm h k => R_22_35.mono hm h k) rfl (fun ids H' fr => f43_ok (g_x0.mono (Nat.zero_le _) fr.ext0.abv) e12) ?_
 rintro v B1 ⟨abB1, ivB1⟩ ⟨a_t12_0, c_t12_0, rfl, g_t12_0⟩
 refine ⟨_, rfl, ?_⟩
 refine WJ.cn 210 hp rfl rfl rfl rfl rfl rfl rfl rfl rfl (fun hc16 hp => ?_) (fun hc16 hp => ?_)
 ·obtain rfl := endS (show some _ = some r from hp)
  exact WJ.rt 208 rfl rfl rfl (fun ids H' fr => ⟨fr.ext0, rfl⟩)
 ·refine WJ.hd (v := .int .i64 (gmin x1 x2)) 208 rfl rfl rfl rfl (fun ids H' fr => opD_min rfl rfl rfl (evV_eq (v := .v (.int .i64 x1)) _ _ _ _ _ rfl) (evV_eq (v := .v (.int .i64 x2)) _ _ _ _ _ rfl)) rfl ?_
  refine WJ.ci 200 hp rfl rfl rfl rfl rfl rfl rfl rfl rfl (fun hc21 hp => ?_) (fun hc21 hp => ?_)
  ·obtain rfl := endS (show some _ = some r from hp)
   exact WJ.rt 215 rfl rfl rfl (fun ids H' fr => ⟨fr.ext0, rfl⟩)
  ·refine WJ.hd (v := .int .i64 (gmax x1 x2)) 203 rfl rfl rfl rfl (fun ids H' fr => opD_max rfl rfl rfl (evV_eq (v := .v (.int .i64 x1)) _ _ _ _ _ rfl) (evV_eq (v := .v (.int .i64 x2)) _ _ _ _ _ rfl)) rfl ?_
   refine WJ.ci 202 hp rfl rfl rfl rfl rfl rfl rfl rfl rfl (fun hc28 hp => ?_) (fun hc28 hp => ?_)
   ·obtain rfl := endS (show some _ = some r from hp)
    exact WJ.rt 208 rfl rfl rfl (fun ids H' fr => ⟨fr.ext0, rfl⟩)
   ·refine WJ.dr 205 rfl gmix (by kernel_rfl) (by kernel_rfl) rfl ?_
    obtain ⟨t32, e32, hp⟩ := bindS hp
    obtain ⟨b32, o32, cs32, i32, rfl, p32⟩ := g_t12_0.at e32 u22 sz3
    refine WD.hd (v := .pointer (some ⟨b32, o32, none⟩)) rfl rfl rfl rfl (fun _ _ _ _ _ => side_no) (fun ids H' fr => opD_indexAddr rfl (evV_eq _ _ _ _ _ rfl) (evV_eq _ _ _ _ _ rfl) (i32 _)) rfl ?_
    refine WD.hd (v := .int .i64 t32) rfl rfl rfl rfl (fun _ _ _ _ _ => side_no) (fun ids H' fr => opD_load rfl (evV_eq _ _ _ _ _ rfl) ((p32.mono (Nat.zero_le _) (fr.abv.le (Nat.zero_le _))).load (d := 0) ag3 rfl)) rfl ?_
    obtain ⟨t36, e36, hp⟩ := bindS hp
    obtain ⟨b36, o36, cs36, i36, rfl, p36⟩ := g_t12_0.at e36 u22 sz3
    refine WD.hd (v := .pointer (some ⟨b36, o36, none⟩)) rfl rfl rfl rfl (fun _ _ _ _ _ => side_no) (fun ids H' fr => opD_indexAddr rfl (evV_eq _ _ _ _ _ rfl) (evV_eq _ _ _ _ _ rfl) (i36 _)) rfl ?_
    refine WD.hd (v := .int .i64 t36) rfl rfl rfl rfl (fun _ _ _ _ _ => side_no) (fun ids H' fr => opD_load rfl (evV_eq _ _ _ _ _ rfl) ((p36.mono (Nat.zero_le _) (fr.abv.le (Nat.zero_le _))).load (d := 0) ag3 rfl)) rfl ?_
    obtain ⟨t38, e38, hp⟩ := bindS hp
    refine WD.cl (R := R_3 t38) (fun hm h k => R_3.mono hm h k) rfl (fun ids H' fr => f52_ok e38) ?_
    rintro v B2 ⟨abB2, ivB2⟩ rfl
    refine ⟨_, rfl, ?_⟩
    replace g_t12_0 := g_t12_0.mono (Nat.le_refl _) (abB2.le (Nat.zero_le _))
    replace p32 := p32.mono (Nat.le_refl _) (abB2.le (Nat.zero_le _))
    replace p36 := p36.mono (Nat.le_refl _) (abB2.le (Nat.zero_le _))
    refine WD.done rfl ?_
    obtain rfl := endS (show some _ = some r from hp)
    exact WJ.rt 200 rfl rfl rfl (fun ids H' fr => ⟨fr.ext0, rfl⟩)
/-! 15 tipstaff/config.Spare -/
def f15 (k : Nat) (x0 : Config) (x1 : Int) (x2 : Int) : Option (Int × Int) :=
 (f7 k x0).bind fun (t13_0, t13_1) =>
 if t13_1 = 0 then
  (f42 k x0.Gaps x1 x2).bind fun (t24_0, t24_1) =>
  if t24_1 = 0 then
   (f25 k x0 t24_0).bind fun t34 =>
   some (IntKind.i64.wrap (t13_0.Move - t34), 0)
  else
   some (0, t24_1)
 else
  some (0, t13_1)
set_option maxHeartbeats 40000000 in
set_option maxRecDepth 20000 in
theorem f15_ok {k : Nat} {H : Hp} {zr : Option Addr} {zs : Nat} {zd : Option Addr} {ze : Nat} {zi : Option Addr} {zj : Nat} {x0 : Config} {x1 : Int} {x2 : Int} {r : Int × Int} (z8 : SlF 0 H intC zr zs x0.Gaps) (z9 : SlF 0 H (slC intC) zd ze x0.Rota) (zaa : SlF 0 H intC zi zj x0.Keys) (hp : f15 k x0 x1 x2 = some r) :
  SCall Tryd.prog 15 [.agg ⟨[.int .i64 x0.Floors, .slice zr x0.Gaps.length zs, .int .i64 x0.Cars, .int .i64 x0.Speed, .int .i64 x0.Brake, .int .i64 x0.Tol, .int .i64 x0.Width, .int .i64 x0.Dwell, .int .i64 x0.Retries, .int .i64 x0.Empty, .int .i64 x0.Full, .int .i64 x0.Trips, .int .i64 x0.Slots, .slice zd x0.Rota.length ze, .int .u64 x0.Rules_0_Mask, .int .i64 x0.Rules_0_Home, .int .i64 x0.Rules_0_Calls, .int .u64 x0.Rules_1_Mask, .int .i64 x0.Rules_1_Home, .int .i64 x0.Rules_1_Calls, .int .u64 x0.Rules_2_Mask, .int .i64 x0.Rules_2_Home, .int .i64 x0.Rules_2_Calls, .slice zi x0.Keys.length zj, .int .i64 x0.Life]⟩, .int .i64 x1, .int .i64 x2] H (Ret fun v H' => Ext H H' ∧ R_3_35 r H.next H' v) := by
 obtain ⟨zn, zt, zy, zz, z0, z1, zv, zw, zx, zq, z2, z3, zu, za, zb, zc, zg, zf, zk, zm, zl, zo, zp, zh, z4⟩ := x0
 unfold f15 at hp
 replace hp := topS hp
 refine SCall.g Tryd.func15 rfl rfl rfl rfl rfl (l := [(0, .v (.agg ⟨[.int .i64 zn, .slice zr zt.length zs, .int .i64 zy, .int .i64 zz, .int .i64 z0, .int .i64 z1, .int .i64 zv, .int .i64 zw, .int .i64 zx, .int .i64 zq, .int .i64 z2, .int .i64 z3, .int .i64 zu, .slice zd za.length ze, .int .u64 zb, .int .i64 zc, .int .i64 zg, .int .u64 zf, .int .i64 zk, .int .i64 zm, .int .u64 zl, .int .i64 zo, .int .i64 zp, .slice zi zh.length zj, .int .i64 z4]⟩)), (1, .v (.int .i64 x1)), (2, .v (.int .i64 x2))]) (fun _ => rfl) (fun B abB => ?_)
 obtain ⟨⟨⟨t13_0_Move, t13_0_Door, t13_0_Trip, t13_0_Slot, t13_0_Cycle⟩, t13_1⟩, e13, hp⟩ := bindS hp
 refine WJ.cl 209 (R := R_34_35 ⟨⟨t13_0_Move, t13_0_Door, t13_0_Trip, t13_0_Slot, t13_0_Cycle⟩, t13_1⟩) (fun hm h k => R_34_35.mono hm h k) rfl (fun ids H' fr => f7_ok (x0 := (Config.mk zn zt zy zz z0 z1 zv zw zx zq z2 z3 zu za zb zc zg zf zk zm zl zo zp zh z4)) (z8.mono (Nat.zero_le _) fr.ext0.abv) (z9.mono (Nat.zero_le _) fr.ext0.abv) (zaa.mono (Nat.zero_le _) fr.ext0.abv) e13) ?_
 rintro v B1 ⟨abB1, ivB1⟩ rfl
 refine ⟨_, rfl, ?_⟩
 refine WJ.cn 211 hp rfl rfl rfl rfl rfl rfl rfl rfl rfl (fun hc17 hp => ?_) (fun hc17 hp => ?_)
 ·obtain rfl := endS (show some _ = some r from hp)
  exact WJ.rt 208 rfl rfl rfl (fun ids H' fr => ⟨fr.ext0, rfl⟩)
 ·obtain ⟨⟨t24_0, t24_1⟩, e24, hp⟩ := bindS hp
  refine WJ.cl 209 (R := R_3_35 ⟨t24_0, t24_1⟩) (fun hm h k => R_3_35.mono hm h k) rfl (fun ids H' fr => f42_ok (z8.mono (Nat.zero_le _) fr.ext0.abv) e24) ?_
  rintro v B2 ⟨abB2, ivB2⟩ rfl
  refine ⟨_, rfl, ?_⟩
  refine WJ.cn 210 hp rfl rfl rfl rfl rfl rfl rfl rfl rfl (fun hc28 hp => ?_) (fun hc28 hp => ?_)
  ·obtain rfl := endS (show some _ = some r from hp)
   exact WJ.rt 208 rfl rfl rfl (fun ids H' fr => ⟨fr.ext0, rfl⟩)
  ·refine WJ.drF 204 rfl gmix (by kernel_rfl) (by kernel_rfl) rfl (fun D3 eD3 abD3 => ?_)
   obtain ⟨t34, e34, hp⟩ := bindS hp
   refine WD.cl (R := R_3 t34) (fun hm h k => R_3.mono hm h k) rfl (fun ids H' fr => f25_ok (x0 := (Config.mk zn zt zy zz z0 z1 zv zw zx zq z2 z3 zu za zb zc zg zf zk zm zl zo zp zh z4)) (z8.mono (Nat.zero_le _) fr.ext0.abv) (z9.mono (Nat.zero_le _) fr.ext0.abv) (zaa.mono (Nat.zero_le _) fr.ext0.abv) e34) ?_
   rintro v B4 ⟨abB4, ivB4⟩ rfl
   refine ⟨_, rfl, ?_⟩
   refine WD.done rfl ?_
   obtain rfl := endS (show some _ = some r from hp)
   exact WJ.rt 200 rfl rfl rfl (fun ids H' fr => ⟨fr.ext0, rfl⟩)
/-! 16 tipstaff/tipstaffref27.Spare -/
def f16 (k : Nat) (x0 : Config) (x1 : Int) (x2 : Int) : Option (Int × Int) :=
 (f8 k x0).bind fun (t14_0, t14_1) =>
 (if t14_1 = 0 then
  (f34 x1 0 (IntKind.i64.wrap (x0.Floors - 1))).bind fun t24 =>
  if t24 then
   (f34 x2 0 (IntKind.i64.wrap (x0.Floors - 1))).bind fun t31 =>
   if t31 then
    some (t14_1)
   else
    some ((2 : Int))
  else
   some ((2 : Int))
 else
  some (t14_1)).bind fun x9_53 =>
  if x9_53 = 0 then
   if x1 = x2 then
    some (t14_0.Move, 0)
   else
    (f39 k x0.Gaps).bind fun (t46_0, t46_1) =>
    (rd t46_0 x1).bind fun t54 =>
    (rd t46_0 x2).bind fun t58 =>
    (rd t46_0 x2).bind fun t63 =>
    (rd t46_0 x1).bind fun t67 =>
    (f29 k x0 (gmax (IntKind.i64.wrap (t54 - t58)) (IntKind.i64.wrap (t63 - t67)))).bind fun t71 =>
    some (IntKind.i64.wrap (t14_0.Move - t71), 0)
  else
   some (0, x9_53)
set_option maxHeartbeats 40000000 in
set_option maxRecDepth 20000 in
theorem f16_ok {k : Nat} {H : Hp} {zr : Option Addr} {zs : Nat} {zd : Option Addr} {ze : Nat} {zi : Option Addr} {zj : Nat} {x0 : Config} {x1 : Int} {x2 : Int} {r : Int × Int} (z8 : SlF 0 H intC zr zs x0.Gaps) (z9 : SlF 0 H (slC intC) zd ze x0.Rota) (zaa : SlF 0 H intC zi zj x0.Keys) (hp : f16 k x0 x1 x2 = some r) :
  SCall Tryd.prog 16 [.agg ⟨[.int .i64 x0.Floors, .slice zr x0.Gaps.length zs, .int .i64 x0.Cars, .int .i64 x0.Speed, .int .i64 x0.Brake, .int .i64 x0.Tol, .int .i64 x0.Width, .int .i64 x0.Dwell, .int .i64 x0.Retries, .int .i64 x0.Empty, .int .i64 x0.Full, .int .i64 x0.Trips, .int .i64 x0.Slots, .slice zd x0.Rota.length ze, .int .u64 x0.Rules_0_Mask, .int .i64 x0.Rules_0_Home, .int .i64 x0.Rules_0_Calls, .int .u64 x0.Rules_1_Mask, .int .i64 x0.Rules_1_Home, .int .i64 x0.Rules_1_Calls, .int .u64 x0.Rules_2_Mask, .int .i64 x0.Rules_2_Home, .int .i64 x0.Rules_2_Calls, .slice zi x0.Keys.length zj, .int .i64 x0.Life]⟩, .int .i64 x1, .int .i64 x2] H (Ret fun v H' => Ext H H' ∧ R_3_35 r H.next H' v) := by
 obtain ⟨zn, zt, zy, zz, z0, z1, zv, zw, zx, zq, z2, z3, zu, za, zb, zc, zg, zf, zk, zm, zl, zo, zp, zh, z4⟩ := x0
 unfold f16 at hp
 replace hp := topS hp
 refine SCall.g Tryd.func16 rfl rfl rfl rfl rfl (l := [(0, .v (.agg ⟨[.int .i64 zn, .slice zr zt.length zs, .int .i64 zy, .int .i64 zz, .int .i64 z0, .int .i64 z1, .int .i64 zv, .int .i64 zw, .int .i64 zx, .int .i64 zq, .int .i64 z2, .int .i64 z3, .int .i64 zu, .slice zd za.length ze, .int .u64 zb, .int .i64 zc, .int .i64 zg, .int .u64 zf, .int .i64 zk, .int .i64 zm, .int .u64 zl, .int .i64 zo, .int .i64 zp, .slice zi zh.length zj, .int .i64 z4]⟩)), (1, .v (.int .i64 x1)), (2, .v (.int .i64 x2))]) (fun _ => rfl) (fun B abB => ?_)
 obtain ⟨⟨⟨t14_0_Move, t14_0_Door, t14_0_Trip, t14_0_Slot, t14_0_Cycle⟩, t14_1⟩, e14, hp⟩ := bindS hp
 refine WJ.cl 209 (R := R_34_35 ⟨⟨t14_0_Move, t14_0_Door, t14_0_Trip, t14_0_Slot, t14_0_Cycle⟩, t14_1⟩) (fun hm h k => R_34_35.mono hm h k) rfl (fun ids H' fr => f8_ok (x0 := (Config.mk zn zt zy zz z0 z1 zv zw zx zq z2 z3 zu za zb zc zg zf zk zm zl zo zp zh z4)) (z8.mono (Nat.zero_le _) fr.ext0.abv) (z9.mono (Nat.zero_le _) fr.ext0.abv) (zaa.mono (Nat.zero_le _) fr.ext0.abv) e14) ?_
 rintro v B1 ⟨abB1, ivB1⟩ rfl
 refine ⟨_, rfl, ?_⟩
 refine WJ.adv 9 rfl ?_
 obtain ⟨K53, hK53, hp⟩ : ∃ K, K = _ ∧ Option.bind _ K = some r := ⟨_, rfl, cutS hp⟩
 refine WJ.cut 2 (α := Int × Hp) (fun y => [(1, .v (.int .i64 x1)), (2, .v (.int .i64 x2)), (3, .p 0 0), (8, .p 1 0), (9, .v (.int .i64 y.1))]) (fun y => [[.int .i64 zn, .slice zr zt.length zs, .int .i64 zy, .int .i64 zz, .int .i64 z0, .int .i64 z1, .int .i64 zv, .int .i64 zw, .int .i64 zx, .int .i64 zq, .int .i64 z2, .int .i64 z3, .int .i64 zu, .slice zd za.length ze, .int .u64 zb, .int .i64 zc, .int .i64 zg, .int .u64 zf, .int .i64 zk, .int .i64 zm, .int .u64 zl, .int .i64 zo, .int .i64 zp, .slice zi zh.length zj, .int .i64 z4], [.int .i64 t14_0_Move, .int .i64 t14_0_Door, .int .i64 t14_0_Trip, .int .i64 t14_0_Slot, .int .i64 t14_0_Cycle]]) (fun y => []) (fun y => y.2) (fun y => K53 ((y.1)) = some r) ?_ (fun j53 => ?_)
 ·rintro ⟨x9_53, B4⟩ hp
  subst hK53
  show WJ _ _ _ B4 [] _ _ ⟨[(1, .v (.int .i64 x1)), (2, .v (.int .i64 x2)), (3, .p 0 0), (8, .p 1 0), (9, .v (.int .i64 x9_53))], [[.int .i64 zn, .slice zr zt.length zs, .int .i64 zy, .int .i64 zz, .int .i64 z0, .int .i64 z1, .int .i64 zv, .int .i64 zw, .int .i64 zx, .int .i64 zq, .int .i64 z2, .int .i64 z3, .int .i64 zu, .slice zd za.length ze, .int .u64 zb, .int .i64 zc, .int .i64 zg, .int .u64 zf, .int .i64 zk, .int .i64 zm, .int .u64 zl, .int .i64 zo, .int .i64 zp, .slice zi zh.length zj, .int .i64 z4], [.int .i64 t14_0_Move, .int .i64 t14_0_Door, .int .i64 t14_0_Trip, .int .i64 t14_0_Slot, .int .i64 t14_0_Cycle]], true, 0⟩
  refine WJ.cn 204 hp rfl rfl rfl rfl rfl rfl rfl rfl rfl (fun hc36 hp => ?_) (fun hc36 hp => ?_)
  ·obtain rfl := endS (show some _ = some r from hp)
   exact WJ.rt 208 rfl rfl rfl (fun ids H' fr => ⟨fr.ext0, rfl⟩)
  ·refine WJ.ci 208 hp rfl rfl rfl rfl rfl rfl rfl rfl rfl (fun hc40 hp => ?_) (fun hc40 hp => ?_)
   ·obtain rfl := endS (show some _ = some r from hp)
    exact WJ.rt 209 rfl rfl rfl (fun ids H' fr => ⟨fr.ext0, rfl⟩)
   ·obtain ⟨⟨t46_0, t46_1⟩, e46, hp⟩ := bindS hp
    refine WJ.cl 207 (R := R_22_35 ⟨t46_0, t46_1⟩) (fun hm h k => R_22_35.mono hm h k) rfl (fun ids H' fr => f39_ok (z8.mono (Nat.zero_le _) fr.ext0.abv) e46) ?_
    rintro v B5 ⟨abB5, ivB5⟩ ⟨a_t46_0, c_t46_0, rfl, g_t46_0⟩
    refine ⟨_, rfl, ?_⟩
    refine WJ.drF 207 rfl gmix (by kernel_rfl) (by kernel_rfl) rfl (fun D6 eD6 abD6 => ?_)
    have o_g_t46_0 := g_t46_0
    obtain ⟨t54, e54, hp⟩ := bindS hp
    obtain ⟨b54, o54, cs54, i54, rfl, p54⟩ := o_g_t46_0.at e54 u22 sz3
    have lt54 := Nat.lt_of_lt_of_le p54.2.1 abD6.next
    refine WD.hd (v := .pointer (some ⟨b54, o54, none⟩)) rfl rfl rfl rfl (fun ids H' s0 h0 f => side_pure rfl rfl h0 f) (fun ids H' fr => opD_indexAddr rfl (evV_eq _ _ _ _ _ rfl) (evV_eq _ _ _ _ _ rfl) (i54 _)) rfl ?_
    refine WD.hd (v := .int .i64 t54) rfl rfl rfl rfl (fun ids H' s0 h0 f => side_load rfl rfl rfl lt54 h0 f) (fun ids H' fr => opD_load rfl (evV_eq _ _ _ _ _ rfl) ((p54.mono (Nat.zero_le _) (fr.abv.le (Nat.zero_le _))).load (d := 0) ag3 rfl)) rfl ?_
    obtain ⟨t58, e58, hp⟩ := bindS hp
    obtain ⟨b58, o58, cs58, i58, rfl, p58⟩ := o_g_t46_0.at e58 u22 sz3
    have lt58 := Nat.lt_of_lt_of_le p58.2.1 abD6.next
    refine WD.hd (v := .pointer (some ⟨b58, o58, none⟩)) rfl rfl rfl rfl (fun ids H' s0 h0 f => side_pure rfl rfl h0 f) (fun ids H' fr => opD_indexAddr rfl (evV_eq _ _ _ _ _ rfl) (evV_eq _ _ _ _ _ rfl) (i58 _)) rfl ?_
    refine WD.hd (v := .int .i64 t58) rfl rfl rfl rfl (fun ids H' s0 h0 f => side_load rfl rfl rfl lt58 h0 f) (fun ids H' fr => opD_load rfl (evV_eq _ _ _ _ _ rfl) ((p58.mono (Nat.zero_le _) (fr.abv.le (Nat.zero_le _))).load (d := 0) ag3 rfl)) rfl ?_
    obtain ⟨t63, e63, hp⟩ := bindS hp
    obtain ⟨b63, o63, cs63, i63, rfl, p63⟩ := o_g_t46_0.at e63 u22 sz3
    have lt63 := Nat.lt_of_lt_of_le p63.2.1 abD6.next
    refine WD.hd (v := .pointer (some ⟨b63, o63, none⟩)) rfl rfl rfl rfl (fun ids H' s0 h0 f => side_pure rfl rfl h0 f) (fun ids H' fr => opD_indexAddr rfl (evV_eq _ _ _ _ _ rfl) (evV_eq _ _ _ _ _ rfl) (i63 _)) rfl ?_
    refine WD.hd (v := .int .i64 t63) rfl rfl rfl rfl (fun ids H' s0 h0 f => side_load rfl rfl rfl lt63 h0 f) (fun ids H' fr => opD_load rfl (evV_eq _ _ _ _ _ rfl) ((p63.mono (Nat.zero_le _) (fr.abv.le (Nat.zero_le _))).load (d := 0) ag3 rfl)) rfl ?_
    obtain ⟨t67, e67, hp⟩ := bindS hp
    obtain ⟨b67, o67, cs67, i67, rfl, p67⟩ := o_g_t46_0.at e67 u22 sz3
    have lt67 := Nat.lt_of_lt_of_le p67.2.1 abD6.next
    refine WD.hd (v := .pointer (some ⟨b67, o67, none⟩)) rfl rfl rfl rfl (fun ids H' s0 h0 f => side_pure rfl rfl h0 f) (fun ids H' fr => opD_indexAddr rfl (evV_eq _ _ _ _ _ rfl) (evV_eq _ _ _ _ _ rfl) (i67 _)) rfl ?_
    refine WD.hd (v := .int .i64 t67) rfl rfl rfl rfl (fun ids H' s0 h0 f => side_load rfl rfl rfl lt67 h0 f) (fun ids H' fr => opD_load rfl (evV_eq _ _ _ _ _ rfl) ((p67.mono (Nat.zero_le _) (fr.abv.le (Nat.zero_le _))).load (d := 0) ag3 rfl)) rfl ?_
    refine WD.hd (v := .int .i64 (gmax (IntKind.i64.wrap (t54 - t58)) (IntKind.i64.wrap (t63 - t67)))) rfl rfl rfl rfl (fun ids H' s0 h0 f => side_pure rfl rfl h0 f) (fun ids H' fr => opD_max rfl rfl rfl (evV_eq (v := .v (.int .i64 (IntKind.i64.wrap (t54 - t58)))) _ _ _ _ _ rfl) (evV_eq (v := .v (.int .i64 (IntKind.i64.wrap (t63 - t67)))) _ _ _ _ _ rfl)) rfl ?_
    obtain ⟨t71, e71, hp⟩ := bindS hp
    refine WD.cl (R := R_3 t71) (fun hm h k => R_3.mono hm h k) rfl (fun ids H' fr => f29_ok (x0 := (Config.mk zn zt zy zz z0 z1 zv zw zx zq z2 z3 zu za zb zc zg zf zk zm zl zo zp zh z4)) (z8.mono (Nat.zero_le _) fr.ext0.abv) (z9.mono (Nat.zero_le _) fr.ext0.abv) (zaa.mono (Nat.zero_le _) fr.ext0.abv) e71) ?_
    rintro v B7 ⟨abB7, ivB7⟩ rfl
    refine ⟨_, rfl, ?_⟩
    replace g_t46_0 := g_t46_0.mono (Nat.le_refl _) (abB7.le (Nat.zero_le _))
    replace p54 := p54.mono (Nat.le_refl _) (abB7.le (Nat.zero_le _))
    replace p58 := p58.mono (Nat.le_refl _) (abB7.le (Nat.zero_le _))
    replace p63 := p63.mono (Nat.le_refl _) (abB7.le (Nat.zero_le _))
    replace p67 := p67.mono (Nat.le_refl _) (abB7.le (Nat.zero_le _))
    refine WD.done rfl ?_
    obtain rfl := endS (show some _ = some r from hp)
    exact WJ.rt 200 rfl rfl rfl (fun ids H' fr => ⟨fr.ext0, rfl⟩)
 ·refine WJ.ci 202 hp rfl rfl rfl rfl rfl rfl rfl rfl rfl (fun hc18 hp => ?_) (fun hc18 hp => ?_)
  ·obtain ⟨t24, e24, hp⟩ := bindS hp
   refine WJ.cl 205 (R := R_4 t24) (fun hm h k => R_4.mono hm h k) rfl (fun ids H' fr => f34_ok e24) ?_
   rintro v B2 ⟨abB2, ivB2⟩ rfl
   refine ⟨_, rfl, ?_⟩
   cases t24
   ·replace hp := (itS hp).2 Bool.false_ne_true
    exact WJ.goto 15 (j53 (2, B2) hp) rfl rfl (by exact ⟨rfl, rfl, rfl, rfl, rfl, trivial⟩) rfl rfl rfl
   ·replace hp := (itS hp).1 rfl
    obtain ⟨t31, e31, hp⟩ := bindS hp
    refine WJ.cl 206 (R := R_4 t31) (fun hm h k => R_4.mono hm h k) rfl (fun ids H' fr => f34_ok e31) ?_
    rintro v B3 ⟨abB3, ivB3⟩ rfl
    refine ⟨_, rfl, ?_⟩
    cases t31
    ·replace hp := (itS hp).2 Bool.false_ne_true
     exact WJ.goto 8 (j53 (2, B3) hp) rfl rfl (by exact ⟨rfl, rfl, rfl, rfl, rfl, trivial⟩) rfl rfl rfl
    ·replace hp := (itS hp).1 rfl
     exact WJ.goto 6 (j53 (t14_1, B3) hp) rfl rfl (by exact ⟨rfl, rfl, rfl, rfl, rfl, trivial⟩) rfl rfl rfl
  ·exact WJ.goto 19 (j53 (t14_1, B1) hp) rfl rfl (by exact ⟨rfl, rfl, rfl, rfl, rfl, trivial⟩) rfl rfl rfl
/-! 17 tipstaff/config.Ports -/
def f17_l1 (x0 : Int) : Nat → (List Int) → Int → Option ((List Int))
 | 0, _, _ => none
 | n + 1, l0, x9 =>
  (some (decide (x9 < 24))).bind fun t10 =>
  if t10 then
   (if (IntKind.i64.wrap (1 + (IntKind.i64.wrap (x9.tdiv 8)))) = x0 then
    (apd 8 l0 ([x9])).bind fun l20 =>
    some (l20)
   else
    some (l0)).bind fun l0_55 =>
    f17_l1 x0 n l0_55 (IntKind.i64.wrap (x9 + 1))
  else
   some (l0)
def f17 (k : Nat) (x0 : Int) : Option ((List Int) × Int) :=
 (f31 x0 1 3).bind fun t7 =>
 if t7 then
  (f17_l1 x0 k ([]) 0).bind fun l0_54 =>
   some (l0_54, 0)
 else
  some ([], 2)
set_option maxHeartbeats 40000000 in
set_option maxRecDepth 20000 in
theorem f17_ok {k : Nat} {H : Hp} {x0 : Int} {r : (List Int) × Int} (hp : f17 k x0 = some r) :
  SCall Tryd.prog 17 [.int .i64 x0] H (Ret fun v H' => Ext H H' ∧ R_22_35 r H.next H' v) := by
 unfold f17 at hp
 replace hp := topS hp
 refine SCall.g Tryd.func17 rfl rfl rfl rfl rfl (l := [(0, .v (.int .i64 x0))]) (fun _ => rfl) (fun B abB => ?_)
 obtain ⟨t7, e7, hp⟩ := bindS hp
 refine WJ.cl 209 (R := R_4 t7) (fun hm h k => R_4.mono hm h k) rfl (fun ids H' fr => f31_ok e7) ?_
 rintro v B1 ⟨abB1, ivB1⟩ rfl
 refine ⟨_, rfl, ?_⟩
 cases t7
 ·replace hp := (itS hp).2 Bool.false_ne_true
  obtain rfl := endS (show some _ = some r from hp)
  exact WJ.rt 208 rfl rfl rfl (fun ids H' fr => ⟨fr.ext0, ⟨_, _, rfl, SlF.nil⟩⟩)
 ·replace hp := (itS hp).1 rfl
  refine WJ.adv 14 rfl ?_
  refine WJ.nw 1 ?_
  obtain ⟨K54, hK54, hp⟩ : ∃ K, K = _ ∧ Option.bind _ K = some r := ⟨_, rfl, cutS hp⟩
  refine WJ.cut 2 (α := (List Int) × (Option Addr) × Nat) (fun y => [(4, .v (.slice y.2.1 y.1.length y.2.2))]) (fun y => []) (fun y => [⟨y.2.1, y.2.2, 1, encL iE y.1⟩]) (fun y => B1) (fun y => K54 (y.1) = some r) ?_ (fun j54 => ?_)
  ·rintro ⟨l0_54, a0_54, c0_54⟩ hp
   subst hK54
   show WJ _ _ _ B1 [⟨a0_54, c0_54, 1, encL iE l0_54⟩] _ _ ⟨[(4, .v (.slice a0_54 l0_54.length c0_54))], [], true, 0⟩
   obtain rfl := endS (show some _ = some r from hp)
   exact WJ.rt 206 rfl rfl rfl (fun ids H' fr => ⟨fr.ext0, ⟨_, _, rfl, (fr.slOwn (j := 0) rfl rfl (Nat.le_refl _))⟩⟩)
  ·refine WJ.lp 200 (α := Nat × (List Int) × Int × (Option Addr) × Nat) (fun y => [(0, .v (.int .i64 x0)), (4, .v (.slice y.2.2.2.1 y.2.1.length y.2.2.2.2)), (9, .v (.int .i64 y.2.2.1))]) (fun y => []) (fun y => [⟨y.2.2.2.1, y.2.2.2.2, 1, encL iE y.2.1⟩]) (fun y => B1) (fun y => y.1) (fun y => Option.bind (f17_l1 x0 y.1 y.2.1 y.2.2.1) K54 = some r) (k, ([] : List Int), 0, none, 0) rfl hp (by exact ⟨rfl, rfl, rfl, trivial⟩) rfl rfl rfl ?_
   rintro ⟨n, l0, x9, a0, c0⟩ hp ih54
   show WJ _ _ _ B1 [⟨a0, c0, 1, encL iE l0⟩] _ _ ⟨[(0, .v (.int .i64 x0)), (4, .v (.slice a0 l0.length c0)), (9, .v (.int .i64 x9))], [], true, 0⟩
   replace hp : Option.bind (f17_l1 x0 n l0 x9) K54 = some r := hp
   cases n with
   | zero => rw [f17_l1] at hp; exact (noS hp).elim
   | succ n =>
    rw [f17_l1] at hp
    obtain ⟨t10, e10, hp⟩ := bindS hp
    refine WJ.cv 202 (b := t10) (H0 := ⟨.nil, 0, 0⟩) rfl rfl rfl rfl rfl rfl (by rw [← endS e10]; exact rfl) rfl ?_
    cases t10
    ·replace hp := (itS hp).2 Bool.false_ne_true
     exact WJ.goto 4 (j54 (l0, a0, c0) hp) rfl rfl (by exact ⟨rfl, trivial⟩) rfl rfl rfl
    ·replace hp := (itS hp).1 rfl
     refine WJ.adv 12 rfl ?_
     obtain ⟨K55, hK55, hp⟩ : ∃ K, K = _ ∧ Option.bind _ K = some r := ⟨_, rfl, cutS hp⟩
     refine WJ.cut 3 (α := (List Int) × (Option Addr) × Nat) (fun y => [(0, .v (.int .i64 x0)), (4, .v (.slice y.2.1 y.1.length y.2.2)), (9, .v (.int .i64 x9))]) (fun y => []) (fun y => [⟨y.2.1, y.2.2, 1, encL iE y.1⟩]) (fun y => B1) (fun y => K55 ((y.1)) = some r) ?_ (fun j55 => ?_)
     ·rintro ⟨l0_55, a0_55, c0_55⟩ hp
      subst hK55
      show WJ _ _ _ B1 [⟨a0_55, c0_55, 1, encL iE l0_55⟩] _ _ ⟨[(0, .v (.int .i64 x0)), (4, .v (.slice a0_55 l0_55.length c0_55)), (9, .v (.int .i64 x9))], [], true, 0⟩
      exact WJ.ag 204 rfl (by exact ⟨rfl, rfl, rfl, trivial⟩) rfl rfl rfl (ih54 (n, l0_55, IntKind.i64.wrap (x9 + 1), a0_55, c0_55) hp (Nat.lt_succ_self _))
     ·refine WJ.hd (v := .int .i64 (IntKind.i64.wrap (x9.tdiv 8))) 202 rfl rfl rfl rfl (fun ids H' fr => opD_bin rfl (evV_eq _ _ _ _ _ rfl) (evV_eq _ _ _ _ _ rfl) (bin_quo (by decide))) rfl ?_
      refine WJ.ci 202 hp rfl rfl rfl rfl rfl rfl rfl rfl rfl (fun hc16 hp => ?_) (fun hc16 hp => ?_)
      ·refine WJ.bs (cs := encL iE [x9]) (sz := 1) (pl := [(0, .int .i64 x9)]) 205 rfl rfl rfl rfl rfl (fun _ _ => rfl) (fun _ => by rfl) rfl rfl ?_
       intro b19
       refine ⟨_, rfl, ?_⟩
       obtain ⟨l20, e20, hp⟩ := bindS hp
       obtain ⟨bd20, rfl⟩ := apd_some e20
       refine WJ.ap (L := l0) (L2 := [x9]) 200 0 rfl rfl rfl rfl rfl rfl rfl rfl (el22 rfl) rfl (fun _ => rfl) (fun _ => rfl) rfl (fun ids H' fr => fr.srcOwn (enc := iE) (sz := 1) (j := 1) (fun _ => rfl) (by decide) rfl) bd20 ?_
       intro a20 c20
       refine ⟨_, rfl, ?_⟩
       refine WJ.pop [⟨a20, c20, 1, encL iE (l0 ++ ([x9]))⟩] rfl ?_
       exact WJ.goto 3 (j55 ((l0 ++ ([x9])), a20, c20) hp) rfl rfl (by exact ⟨rfl, rfl, rfl, trivial⟩) rfl rfl rfl
      ·exact WJ.goto 4 (j55 (l0, a0, c0) hp) rfl rfl (by exact ⟨rfl, rfl, rfl, trivial⟩) rfl rfl rfl
/-! 18 tipstaff/tipstaffref27.Ports -/
def f18_l1 (x0 : Int) : Nat → (List Int) → Int → Option ((List Int))
 | 0, _, _ => none
 | n + 1, l0, x5 =>
  if x5 < 24 then
   (if (IntKind.i64.wrap (1 + (IntKind.i64.wrap (x5.tdiv 8)))) = x0 then
    (apd 8 l0 ([x5])).bind fun l21 =>
    some (l21)
   else
    some (l0)).bind fun l0_57 =>
    f18_l1 x0 n l0_57 (IntKind.i64.wrap (x5 + 1))
  else
   some (l0)
def f18 (k : Nat) (x0 : Int) : Option ((List Int) × Int) :=
 (f34 x0 1 3).bind fun t7 =>
 if t7 then
  (f18_l1 x0 k ([]) 0).bind fun l0_56 =>
   some (l0_56, 0)
 else
  some ([], 2)
set_option maxHeartbeats 40000000 in
set_option maxRecDepth 20000 in
theorem f18_ok {k : Nat} {H : Hp} {x0 : Int} {r : (List Int) × Int} (hp : f18 k x0 = some r) :
  SCall Tryd.prog 18 [.int .i64 x0] H (Ret fun v H' => Ext H H' ∧ R_22_35 r H.next H' v) := by
 unfold f18 at hp
 replace hp := topS hp
 refine SCall.g Tryd.func18 rfl rfl rfl rfl rfl (l := [(0, .v (.int .i64 x0))]) (fun _ => rfl) (fun B abB => ?_)
 obtain ⟨t7, e7, hp⟩ := bindS hp
 refine WJ.cl 209 (R := R_4 t7) (fun hm h k => R_4.mono hm h k) rfl (fun ids H' fr => f34_ok e7) ?_
 rintro v B1 ⟨abB1, ivB1⟩ rfl
 refine ⟨_, rfl, ?_⟩
 cases t7
 ·replace hp := (itS hp).2 Bool.false_ne_true
  obtain rfl := endS (show some _ = some r from hp)
  exact WJ.rt 208 rfl rfl rfl (fun ids H' fr => ⟨fr.ext0, ⟨_, _, rfl, SlF.nil⟩⟩)
 ·replace hp := (itS hp).1 rfl
  refine WJ.adv 14 rfl ?_
  refine WJ.nw 1 ?_
  obtain ⟨K56, hK56, hp⟩ : ∃ K, K = _ ∧ Option.bind _ K = some r := ⟨_, rfl, cutS hp⟩
  refine WJ.cut 2 (α := (List Int) × (Option Addr) × Nat) (fun y => [(4, .v (.slice y.2.1 y.1.length y.2.2))]) (fun y => []) (fun y => [⟨y.2.1, y.2.2, 1, encL iE y.1⟩]) (fun y => B1) (fun y => K56 (y.1) = some r) ?_ (fun j56 => ?_)
  ·rintro ⟨l0_56, a0_56, c0_56⟩ hp
   subst hK56
   show WJ _ _ _ B1 [⟨a0_56, c0_56, 1, encL iE l0_56⟩] _ _ ⟨[(4, .v (.slice a0_56 l0_56.length c0_56))], [], true, 0⟩
   obtain rfl := endS (show some _ = some r from hp)
   exact WJ.rt 206 rfl rfl rfl (fun ids H' fr => ⟨fr.ext0, ⟨_, _, rfl, (fr.slOwn (j := 0) rfl rfl (Nat.le_refl _))⟩⟩)
  ·refine WJ.lp 200 (α := Nat × (List Int) × Int × (Option Addr) × Nat) (fun y => [(0, .v (.int .i64 x0)), (4, .v (.slice y.2.2.2.1 y.2.1.length y.2.2.2.2)), (5, .v (.int .i64 y.2.2.1))]) (fun y => []) (fun y => [⟨y.2.2.2.1, y.2.2.2.2, 1, encL iE y.2.1⟩]) (fun y => B1) (fun y => y.1) (fun y => Option.bind (f18_l1 x0 y.1 y.2.1 y.2.2.1) K56 = some r) (k, ([] : List Int), 0, none, 0) rfl hp (by exact ⟨rfl, rfl, rfl, trivial⟩) rfl rfl rfl ?_
   rintro ⟨n, l0, x5, a0, c0⟩ hp ih56
   show WJ _ _ _ B1 [⟨a0, c0, 1, encL iE l0⟩] _ _ ⟨[(0, .v (.int .i64 x0)), (4, .v (.slice a0 l0.length c0)), (5, .v (.int .i64 x5))], [], true, 0⟩
   replace hp : Option.bind (f18_l1 x0 n l0 x5) K56 = some r := hp
   cases n with
   | zero => rw [f18_l1] at hp; exact (noS hp).elim
   | succ n =>
    rw [f18_l1] at hp
    refine WJ.ci 204 hp rfl rfl rfl rfl rfl rfl rfl rfl rfl (fun hc10 hp => ?_) (fun hc10 hp => ?_)
    ·refine WJ.adv 6 rfl ?_
     obtain ⟨K57, hK57, hp⟩ : ∃ K, K = _ ∧ Option.bind _ K = some r := ⟨_, rfl, cutS hp⟩
     refine WJ.cut 3 (α := (List Int) × (Option Addr) × Nat) (fun y => [(0, .v (.int .i64 x0)), (4, .v (.slice y.2.1 y.1.length y.2.2)), (5, .v (.int .i64 x5))]) (fun y => []) (fun y => [⟨y.2.1, y.2.2, 1, encL iE y.1⟩]) (fun y => B1) (fun y => K57 ((y.1)) = some r) ?_ (fun j57 => ?_)
     ·rintro ⟨l0_57, a0_57, c0_57⟩ hp
      subst hK57
      show WJ _ _ _ B1 [⟨a0_57, c0_57, 1, encL iE l0_57⟩] _ _ ⟨[(0, .v (.int .i64 x0)), (4, .v (.slice a0_57 l0_57.length c0_57)), (5, .v (.int .i64 x5))], [], true, 0⟩
      exact WJ.ag 205 rfl (by exact ⟨rfl, rfl, rfl, trivial⟩) rfl rfl rfl (ih56 (n, l0_57, IntKind.i64.wrap (x5 + 1), a0_57, c0_57) hp (Nat.lt_succ_self _))
     ·refine WJ.hd (v := .int .i64 (IntKind.i64.wrap (x5.tdiv 8))) 202 rfl rfl rfl rfl (fun ids H' fr => opD_bin rfl (evV_eq _ _ _ _ _ rfl) (evV_eq _ _ _ _ _ rfl) (bin_quo (by decide))) rfl ?_
      refine WJ.ci 202 hp rfl rfl rfl rfl rfl rfl rfl rfl rfl (fun hc17 hp => ?_) (fun hc17 hp => ?_)
      ·refine WJ.bs (cs := encL iE [x5]) (sz := 1) (pl := [(0, .int .i64 x5)]) 205 rfl rfl rfl rfl rfl (fun _ _ => rfl) (fun _ => by rfl) rfl rfl ?_
       intro b20
       refine ⟨_, rfl, ?_⟩
       obtain ⟨l21, e21, hp⟩ := bindS hp
       obtain ⟨bd21, rfl⟩ := apd_some e21
       refine WJ.ap (L := l0) (L2 := [x5]) 200 0 rfl rfl rfl rfl rfl rfl rfl rfl (el22 rfl) rfl (fun _ => rfl) (fun _ => rfl) rfl (fun ids H' fr => fr.srcOwn (enc := iE) (sz := 1) (j := 1) (fun _ => rfl) (by decide) rfl) bd21 ?_
       intro a21 c21
       refine ⟨_, rfl, ?_⟩
       refine WJ.pop [⟨a21, c21, 1, encL iE (l0 ++ ([x5]))⟩] rfl ?_
       exact WJ.goto 3 (j57 ((l0 ++ ([x5])), a21, c21) hp) rfl rfl (by exact ⟨rfl, rfl, rfl, trivial⟩) rfl rfl rfl
      ·exact WJ.goto 4 (j57 (l0, a0, c0) hp) rfl rfl (by exact ⟨rfl, rfl, rfl, trivial⟩) rfl rfl rfl
    ·exact WJ.goto 3 (j56 (l0, a0, c0) hp) rfl rfl (by exact ⟨rfl, trivial⟩) rfl rfl rfl
/-! 19 tipstaff/tipstaffkit.SameInts -/
def f19_l1 (x0 : List Int) (x1 : List Int) : Nat → Int → Option ((Bool) ⊕ (Unit))
 | 0, _ => none
 | n + 1, x5 =>
  if x5 < (x0.length : Int) then
   (rd x0 x5).bind fun t19 =>
   (rd x1 x5).bind fun t23 =>
   if t19 = t23 then
    f19_l1 x0 x1 n (IntKind.i64.wrap (x5 + 1))
   else
    some (Sum.inl (false : Bool))
  else
   some (Sum.inr ())
def f19 (k : Nat) (x0 : List Int) (x1 : List Int) : Option Bool :=
 if (x0.length : Int) = (x1.length : Int) then
  (f19_l1 x0 x1 k 0).bind fun s => match s with
   | .inl st => some st
   | .inr _ => 
    some true
 else
  some false
set_option maxHeartbeats 40000000 in
set_option maxRecDepth 20000 in
theorem f19_ok {k : Nat} {H : Hp} {a_x0 : Option Addr} {c_x0 : Nat} {a_x1 : Option Addr} {c_x1 : Nat} {x0 : List Int} {x1 : List Int} {r : Bool} (g_x0 : SlF 0 H intC a_x0 c_x0 x0) (g_x1 : SlF 0 H intC a_x1 c_x1 x1) (hp : f19 k x0 x1 = some r) :
  SCall Tryd.prog 19 [.slice a_x0 x0.length c_x0, .slice a_x1 x1.length c_x1] H (Ret fun v H' => Ext H H' ∧ R_4 r H.next H' v) := by
 unfold f19 at hp
 replace hp := topS hp
 refine SCall.g Tryd.func19 rfl rfl rfl rfl rfl (l := [(0, .v (.slice a_x0 x0.length c_x0)), (1, .v (.slice a_x1 x1.length c_x1))]) (fun _ => rfl) (fun B abB => ?_)
 refine WJ.cn 211 hp rfl rfl rfl rfl rfl rfl rfl rfl rfl (fun hc10 hp => ?_) (fun hc10 hp => ?_)
 ·obtain rfl := endS (show some _ = some r from hp)
  exact WJ.rt 206 rfl rfl rfl (fun ids H' fr => ⟨fr.ext0, rfl⟩)
 ·refine WJ.adv 9 rfl ?_
  obtain ⟨K58, hK58, hp⟩ : ∃ K, K = _ ∧ Option.bind _ K = some r := ⟨_, rfl, cutS hp⟩
  refine WJ.cut 2 (α := Unit) (fun y => []) (fun y => []) (fun y => []) (fun y => B) (fun y => K58 (Sum.inr ()) = some r) ?_ (fun j58 => ?_)
  ·rintro u hp
   subst hK58
   show WJ _ _ _ B [] _ _ ⟨[], [], true, 0⟩
   obtain rfl := endS (show some _ = some r from hp)
   exact WJ.rt 204 rfl rfl rfl (fun ids H' fr => ⟨fr.ext0, rfl⟩)
  ·refine WJ.lp 200 (α := Nat × Int) (fun y => [(0, .v (.slice a_x0 x0.length c_x0)), (1, .v (.slice a_x1 x1.length c_x1)), (5, .v (.int .i64 y.2))]) (fun y => []) (fun y => []) (fun y => B) (fun y => y.1) (fun y => Option.bind (f19_l1 x0 x1 y.1 y.2) K58 = some r) (k, 0) rfl hp (by exact ⟨rfl, rfl, rfl, trivial⟩) rfl rfl rfl ?_
   rintro ⟨n, x5⟩ hp ih58
   show WJ _ _ _ B [] _ _ ⟨[(0, .v (.slice a_x0 x0.length c_x0)), (1, .v (.slice a_x1 x1.length c_x1)), (5, .v (.int .i64 x5))], [], true, 0⟩
   replace hp : Option.bind (f19_l1 x0 x1 n x5) K58 = some r := hp
   cases n with
   | zero => rw [f19_l1] at hp; exact (noS hp).elim
   | succ n =>
    rw [f19_l1] at hp
    refine WJ.ci 206 hp rfl rfl rfl rfl rfl rfl rfl rfl rfl (fun hc14 hp => ?_) (fun hc14 hp => ?_)
    ·refine WJ.dr 206 rfl gmix (by kernel_rfl) (by kernel_rfl) rfl ?_
     obtain ⟨t19, e19, hp⟩ := bindS hp
     obtain ⟨b19, o19, cs19, i19, rfl, p19⟩ := g_x0.at e19 u22 sz3
     refine WD.hd (v := .pointer (some ⟨b19, o19, none⟩)) rfl rfl rfl rfl (fun _ _ _ _ _ => side_no) (fun ids H' fr => opD_indexAddr rfl (evV_eq _ _ _ _ _ rfl) (evV_eq _ _ _ _ _ rfl) (i19 _)) rfl ?_
     refine WD.hd (v := .int .i64 t19) rfl rfl rfl rfl (fun _ _ _ _ _ => side_no) (fun ids H' fr => opD_load rfl (evV_eq _ _ _ _ _ rfl) ((p19.mono (Nat.zero_le _) fr.ext0.abv).load (d := 0) ag3 rfl)) rfl ?_
     obtain ⟨t23, e23, hp⟩ := bindS hp
     obtain ⟨b23, o23, cs23, i23, rfl, p23⟩ := g_x1.at e23 u22 sz3
     refine WD.hd (v := .pointer (some ⟨b23, o23, none⟩)) rfl rfl rfl rfl (fun _ _ _ _ _ => side_no) (fun ids H' fr => opD_indexAddr rfl (evV_eq _ _ _ _ _ rfl) (evV_eq _ _ _ _ _ rfl) (i23 _)) rfl ?_
     refine WD.hd (v := .int .i64 t23) rfl rfl rfl rfl (fun _ _ _ _ _ => side_no) (fun ids H' fr => opD_load rfl (evV_eq _ _ _ _ _ rfl) ((p23.mono (Nat.zero_le _) fr.ext0.abv).load (d := 0) ag3 rfl)) rfl ?_
     refine WD.cn hp rfl rfl rfl rfl rfl rfl rfl rfl rfl (fun hc25 hp => ?_) (fun hc25 hp => ?_)
     ·refine WD.done rfl ?_
      subst hK58
      obtain rfl := endS (show some _ = some r from hp)
      exact WJ.rt 205 rfl rfl rfl (fun ids H' fr => ⟨fr.ext0, rfl⟩)
     ·refine WD.done rfl ?_
      exact WJ.ag 208 rfl (by exact ⟨rfl, rfl, rfl, trivial⟩) rfl rfl rfl (ih58 (n, IntKind.i64.wrap (x5 + 1)) hp (Nat.lt_succ_self _))
    ·exact WJ.goto 3 (j58 () hp) rfl rfl (by exact trivial) rfl rfl rfl
/-! 20 tipstaff/tipstaffkit.SameConfig -/
def f20_l1 (k : Nat) (za : List (List Int)) (zam : List (List Int)) : Nat → Int → Option ((Bool) ⊕ (Unit))
 | 0, _ => none
 | n + 1, x5 =>
  if x5 < (za.length : Int) then
   (rd za x5).bind fun t48 =>
   (rd zam x5).bind fun t53 =>
   (f19 k t48 t53).bind fun t55 =>
   if t55 then
    f20_l1 k za zam n (IntKind.i64.wrap (x5 + 1))
   else
    some (Sum.inl (false : Bool))
  else
   some (Sum.inr ())
def f20 (k : Nat) (x0 : Config) (x1 : Config) : Option Bool :=
 if (x0.Rota.length : Int) = (x1.Rota.length : Int) then
  (f19 k x0.Gaps x1.Gaps).bind fun t20 =>
  if t20 then
   (f19 k x0.Keys x1.Keys).bind fun t28 =>
   if t28 then
    if (T27.mk x0.Rules_0_Mask x0.Rules_0_Home x0.Rules_0_Calls x0.Rules_1_Mask x0.Rules_1_Home x0.Rules_1_Calls x0.Rules_2_Mask x0.Rules_2_Home x0.Rules_2_Calls) = (T27.mk x1.Rules_0_Mask x1.Rules_0_Home x1.Rules_0_Calls x1.Rules_1_Mask x1.Rules_1_Home x1.Rules_1_Calls x1.Rules_2_Mask x1.Rules_2_Home x1.Rules_2_Calls) then
     (f20_l1 k x0.Rota x1.Rota k 0).bind fun s => match s with
      | .inl st => some st
      | .inr _ => 
       (f19 k ([x0.Floors, x0.Cars, x0.Speed, x0.Brake, x0.Tol, x0.Width, x0.Dwell, x0.Retries, x0.Empty, x0.Full, x0.Trips, x0.Slots, x0.Life]) ([x1.Floors, x1.Cars, x1.Speed, x1.Brake, x1.Tol, x1.Width, x1.Dwell, x1.Retries, x1.Empty, x1.Full, x1.Trips, x1.Slots, x1.Life])).bind fun t113 =>
       some t113
    else
     some false
   else
    some false
  else
   some false
 else
  some false
set_option maxHeartbeats 40000000 in
set_option maxRecDepth 20000 in
theorem f20_ok {k : Nat} {H : Hp} {zr : Option Addr} {zs : Nat} {zd : Option Addr} {ze : Nat} {zi : Option Addr} {zj : Nat} {zbf : Option Addr} {zbg : Nat} {zbh : Option Addr} {zbi : Nat} {zbj : Option Addr} {zbk : Nat} {x0 : Config} {x1 : Config} {r : Bool} (z8 : SlF 0 H intC zr zs x0.Gaps) (z9 : SlF 0 H (slC intC) zd ze x0.Rota) (zaa : SlF 0 H intC zi zj x0.Keys) (zcn : SlF 0 H intC zbf zbg x1.Gaps) (zco : SlF 0 H (slC intC) zbh zbi x1.Rota) (zcp : SlF 0 H intC zbj zbk x1.Keys) (hp : f20 k x0 x1 = some r) :
  SCall Tryd.prog 20 [.agg ⟨[.int .i64 x0.Floors, .slice zr x0.Gaps.length zs, .int .i64 x0.Cars, .int .i64 x0.Speed, .int .i64 x0.Brake, .int .i64 x0.Tol, .int .i64 x0.Width, .int .i64 x0.Dwell, .int .i64 x0.Retries, .int .i64 x0.Empty, .int .i64 x0.Full, .int .i64 x0.Trips, .int .i64 x0.Slots, .slice zd x0.Rota.length ze, .int .u64 x0.Rules_0_Mask, .int .i64 x0.Rules_0_Home, .int .i64 x0.Rules_0_Calls, .int .u64 x0.Rules_1_Mask, .int .i64 x0.Rules_1_Home, .int .i64 x0.Rules_1_Calls, .int .u64 x0.Rules_2_Mask, .int .i64 x0.Rules_2_Home, .int .i64 x0.Rules_2_Calls, .slice zi x0.Keys.length zj, .int .i64 x0.Life]⟩, .agg ⟨[.int .i64 x1.Floors, .slice zbf x1.Gaps.length zbg, .int .i64 x1.Cars, .int .i64 x1.Speed, .int .i64 x1.Brake, .int .i64 x1.Tol, .int .i64 x1.Width, .int .i64 x1.Dwell, .int .i64 x1.Retries, .int .i64 x1.Empty, .int .i64 x1.Full, .int .i64 x1.Trips, .int .i64 x1.Slots, .slice zbh x1.Rota.length zbi, .int .u64 x1.Rules_0_Mask, .int .i64 x1.Rules_0_Home, .int .i64 x1.Rules_0_Calls, .int .u64 x1.Rules_1_Mask, .int .i64 x1.Rules_1_Home, .int .i64 x1.Rules_1_Calls, .int .u64 x1.Rules_2_Mask, .int .i64 x1.Rules_2_Home, .int .i64 x1.Rules_2_Calls, .slice zbj x1.Keys.length zbk, .int .i64 x1.Life]⟩] H (Ret fun v H' => Ext H H' ∧ R_4 r H.next H' v) := by
 obtain ⟨zn, zt, zy, zz, z0, z1, zv, zw, zx, zq, z2, z3, zu, za, zb, zc, zg, zf, zk, zm, zl, zo, zp, zh, z4⟩ := x0
 obtain ⟨zbl, zb7, zbm, zbn, zbo, zbp, zbq, zbr, zbs, zbt, zbu, zbv, zbw, zam, zby, zbz, zb0, zb1, zb2, zb3, zb4, zb5, zb6, zb8, zbx⟩ := x1
 unfold f20 at hp
 replace hp := topS hp
 refine SCall.g Tryd.func20 rfl rfl rfl rfl rfl (l := [(0, .v (.agg ⟨[.int .i64 zn, .slice zr zt.length zs, .int .i64 zy, .int .i64 zz, .int .i64 z0, .int .i64 z1, .int .i64 zv, .int .i64 zw, .int .i64 zx, .int .i64 zq, .int .i64 z2, .int .i64 z3, .int .i64 zu, .slice zd za.length ze, .int .u64 zb, .int .i64 zc, .int .i64 zg, .int .u64 zf, .int .i64 zk, .int .i64 zm, .int .u64 zl, .int .i64 zo, .int .i64 zp, .slice zi zh.length zj, .int .i64 z4]⟩)), (1, .v (.agg ⟨[.int .i64 zbl, .slice zbf zb7.length zbg, .int .i64 zbm, .int .i64 zbn, .int .i64 zbo, .int .i64 zbp, .int .i64 zbq, .int .i64 zbr, .int .i64 zbs, .int .i64 zbt, .int .i64 zbu, .int .i64 zbv, .int .i64 zbw, .slice zbh zam.length zbi, .int .u64 zby, .int .i64 zbz, .int .i64 zb0, .int .u64 zb1, .int .i64 zb2, .int .i64 zb3, .int .u64 zb4, .int .i64 zb5, .int .i64 zb6, .slice zbj zb8.length zbk, .int .i64 zbx]⟩))]) (fun _ => rfl) (fun B abB => ?_)
 refine WJ.cn 215 hp rfl rfl rfl rfl rfl rfl rfl rfl rfl (fun hc14 hp => ?_) (fun hc14 hp => ?_)
 ·obtain rfl := endS (show some _ = some r from hp)
  exact WJ.rt 229 rfl rfl rfl (fun ids H' fr => ⟨fr.ext0, rfl⟩)
 ·obtain ⟨t20, e20, hp⟩ := bindS hp
  refine WJ.cl 205 (R := R_4 t20) (fun hm h k => R_4.mono hm h k) rfl (fun ids H' fr => f19_ok (z8.mono (Nat.zero_le _) fr.ext0.abv) (zcn.mono (Nat.zero_le _) fr.ext0.abv) e20) ?_
  rintro v B1 ⟨abB1, ivB1⟩ rfl
  refine ⟨_, rfl, ?_⟩
  cases t20
  ·replace hp := (itS hp).2 Bool.false_ne_true
   obtain rfl := endS (show some _ = some r from hp)
   exact WJ.rt 223 rfl rfl rfl (fun ids H' fr => ⟨fr.ext0, rfl⟩)
  ·replace hp := (itS hp).1 rfl
   obtain ⟨t28, e28, hp⟩ := bindS hp
   refine WJ.cl 207 (R := R_4 t28) (fun hm h k => R_4.mono hm h k) rfl (fun ids H' fr => f19_ok (zaa.mono (Nat.zero_le _) fr.ext0.abv) (zcp.mono (Nat.zero_le _) fr.ext0.abv) e28) ?_
   rintro v B2 ⟨abB2, ivB2⟩ rfl
   refine ⟨_, rfl, ?_⟩
   cases t28
   ·replace hp := (itS hp).2 Bool.false_ne_true
    obtain rfl := endS (show some _ = some r from hp)
    exact WJ.rt 215 rfl rfl rfl (fun ids H' fr => ⟨fr.ext0, rfl⟩)
   ·replace hp := (itS hp).1 rfl
    refine WJ.cn 207 hp rfl rfl rfl rfl rfl rfl (opD_neS rfl rfl rfl rfl gd27 (eq27 zb zc zg zf zk zm zl zo zp zby zbz zb0 zb1 zb2 zb3 zb4 zb5 zb6)) rfl rfl (fun hc36 hp => ?_) (fun hc36 hp => ?_)
    ·obtain rfl := endS (show some _ = some r from hp)
     exact WJ.rt 207 rfl rfl rfl (fun ids H' fr => ⟨fr.ext0, rfl⟩)
    ·refine WJ.adv 10 rfl ?_
     obtain ⟨K59, hK59, hp⟩ : ∃ K, K = _ ∧ Option.bind _ K = some r := ⟨_, rfl, cutS hp⟩
     refine WJ.cut 2 (α := Hp) (fun y => [(2, .p 0 0), (3, .p 1 0)]) (fun y => [[.int .i64 zn, .slice zr zt.length zs, .int .i64 zy, .int .i64 zz, .int .i64 z0, .int .i64 z1, .int .i64 zv, .int .i64 zw, .int .i64 zx, .int .i64 zq, .int .i64 z2, .int .i64 z3, .int .i64 zu, .slice zd za.length ze, .int .u64 zb, .int .i64 zc, .int .i64 zg, .int .u64 zf, .int .i64 zk, .int .i64 zm, .int .u64 zl, .int .i64 zo, .int .i64 zp, .slice zi zh.length zj, .int .i64 z4], [.int .i64 zbl, .slice zbf zb7.length zbg, .int .i64 zbm, .int .i64 zbn, .int .i64 zbo, .int .i64 zbp, .int .i64 zbq, .int .i64 zbr, .int .i64 zbs, .int .i64 zbt, .int .i64 zbu, .int .i64 zbv, .int .i64 zbw, .slice zbh zam.length zbi, .int .u64 zby, .int .i64 zbz, .int .i64 zb0, .int .u64 zb1, .int .i64 zb2, .int .i64 zb3, .int .u64 zb4, .int .i64 zb5, .int .i64 zb6, .slice zbj zb8.length zbk, .int .i64 zbx]]) (fun y => []) (fun y => y) (fun y => K59 (Sum.inr ()) = some r) ?_ (fun j59 => ?_)
     ·rintro B5 hp
      subst hK59
      show WJ _ _ _ B5 [] _ _ ⟨[(2, .p 0 0), (3, .p 1 0)], [[.int .i64 zn, .slice zr zt.length zs, .int .i64 zy, .int .i64 zz, .int .i64 z0, .int .i64 z1, .int .i64 zv, .int .i64 zw, .int .i64 zx, .int .i64 zq, .int .i64 z2, .int .i64 z3, .int .i64 zu, .slice zd za.length ze, .int .u64 zb, .int .i64 zc, .int .i64 zg, .int .u64 zf, .int .i64 zk, .int .i64 zm, .int .u64 zl, .int .i64 zo, .int .i64 zp, .slice zi zh.length zj, .int .i64 z4], [.int .i64 zbl, .slice zbf zb7.length zbg, .int .i64 zbm, .int .i64 zbn, .int .i64 zbo, .int .i64 zbp, .int .i64 zbq, .int .i64 zbr, .int .i64 zbs, .int .i64 zbt, .int .i64 zbu, .int .i64 zbv, .int .i64 zbw, .slice zbh zam.length zbi, .int .u64 zby, .int .i64 zbz, .int .i64 zb0, .int .u64 zb1, .int .i64 zb2, .int .i64 zb3, .int .u64 zb4, .int .i64 zb5, .int .i64 zb6, .slice zbj zb8.length zbk, .int .i64 zbx]], true, 0⟩
      refine WJ.bs (cs := encL iE [zn, zy, zz, z0, z1, zv, zw, zx, zq, z2, z3, zu, z4]) (sz := 1) (pl := [(0, .int .i64 zn), (1, .int .i64 zy), (2, .int .i64 zz), (3, .int .i64 z0), (4, .int .i64 z1), (5, .int .i64 zv), (6, .int .i64 zw), (7, .int .i64 zx), (8, .int .i64 zq), (9, .int .i64 z2), (10, .int .i64 z3), (11, .int .i64 zu), (12, .int .i64 z4)]) 228 rfl rfl rfl rfl rfl (fun _ _ => rfl) (fun _ => by rfl) rfl rfl ?_
      intro b83
      refine ⟨_, rfl, ?_⟩
      refine WJ.bs (cs := encL iE [zbl, zbm, zbn, zbo, zbp, zbq, zbr, zbs, zbt, zbu, zbv, zbw, zbx]) (sz := 1) (pl := [(0, .int .i64 zbl), (1, .int .i64 zbm), (2, .int .i64 zbn), (3, .int .i64 zbo), (4, .int .i64 zbp), (5, .int .i64 zbq), (6, .int .i64 zbr), (7, .int .i64 zbs), (8, .int .i64 zbt), (9, .int .i64 zbu), (10, .int .i64 zbv), (11, .int .i64 zbw), (12, .int .i64 zbx)]) 230 rfl rfl rfl rfl rfl (fun _ _ => rfl) (fun _ => by rfl) rfl rfl ?_
      intro b110
      refine ⟨_, rfl, ?_⟩
      obtain ⟨t113, e113, hp⟩ := bindS hp
      refine WJ.cl 206 (R := R_4 t113) (fun hm h k => R_4.mono hm h k) rfl (fun ids H' fr => f19_ok (fr.slOwn (j := 0) rfl rfl (Nat.zero_le _)) (fr.slOwn (j := 1) rfl rfl (Nat.zero_le _)) e113) ?_
      rintro v B6 ⟨abB6, ivB6⟩ rfl
      refine ⟨_, rfl, ?_⟩
      obtain rfl := endS (show some _ = some r from hp)
      exact WJ.rt 202 rfl rfl rfl (fun ids H' fr => ⟨fr.ext0, rfl⟩)
     ·refine WJ.lp 200 (α := Nat × Int × Hp) (fun y => [(2, .p 0 0), (3, .p 1 0), (5, .v (.int .i64 y.2.1))]) (fun y => [[.int .i64 zn, .slice zr zt.length zs, .int .i64 zy, .int .i64 zz, .int .i64 z0, .int .i64 z1, .int .i64 zv, .int .i64 zw, .int .i64 zx, .int .i64 zq, .int .i64 z2, .int .i64 z3, .int .i64 zu, .slice zd za.length ze, .int .u64 zb, .int .i64 zc, .int .i64 zg, .int .u64 zf, .int .i64 zk, .int .i64 zm, .int .u64 zl, .int .i64 zo, .int .i64 zp, .slice zi zh.length zj, .int .i64 z4], [.int .i64 zbl, .slice zbf zb7.length zbg, .int .i64 zbm, .int .i64 zbn, .int .i64 zbo, .int .i64 zbp, .int .i64 zbq, .int .i64 zbr, .int .i64 zbs, .int .i64 zbt, .int .i64 zbu, .int .i64 zbv, .int .i64 zbw, .slice zbh zam.length zbi, .int .u64 zby, .int .i64 zbz, .int .i64 zb0, .int .u64 zb1, .int .i64 zb2, .int .i64 zb3, .int .u64 zb4, .int .i64 zb5, .int .i64 zb6, .slice zbj zb8.length zbk, .int .i64 zbx]]) (fun y => []) (fun y => y.2.2) (fun y => y.1) (fun y => Option.bind (f20_l1 k za zam y.1 y.2.1) K59 = some r) (k, 0, B2) rfl hp (by exact ⟨rfl, rfl, rfl, trivial⟩) rfl rfl rfl ?_
      rintro ⟨n, x5, B3⟩ hp ih59
      show WJ _ _ _ B3 [] _ _ ⟨[(2, .p 0 0), (3, .p 1 0), (5, .v (.int .i64 x5))], [[.int .i64 zn, .slice zr zt.length zs, .int .i64 zy, .int .i64 zz, .int .i64 z0, .int .i64 z1, .int .i64 zv, .int .i64 zw, .int .i64 zx, .int .i64 zq, .int .i64 z2, .int .i64 z3, .int .i64 zu, .slice zd za.length ze, .int .u64 zb, .int .i64 zc, .int .i64 zg, .int .u64 zf, .int .i64 zk, .int .i64 zm, .int .u64 zl, .int .i64 zo, .int .i64 zp, .slice zi zh.length zj, .int .i64 z4], [.int .i64 zbl, .slice zbf zb7.length zbg, .int .i64 zbm, .int .i64 zbn, .int .i64 zbo, .int .i64 zbp, .int .i64 zbq, .int .i64 zbr, .int .i64 zbs, .int .i64 zbt, .int .i64 zbu, .int .i64 zbv, .int .i64 zbw, .slice zbh zam.length zbi, .int .u64 zby, .int .i64 zbz, .int .i64 zb0, .int .u64 zb1, .int .i64 zb2, .int .i64 zb3, .int .u64 zb4, .int .i64 zb5, .int .i64 zb6, .slice zbj zb8.length zbk, .int .i64 zbx]], true, 0⟩
      replace hp : Option.bind (f20_l1 k za zam n x5) K59 = some r := hp
      cases n with
      | zero => rw [f20_l1] at hp; exact (noS hp).elim
      | succ n =>
       rw [f20_l1] at hp
       refine WJ.ci 207 hp rfl rfl rfl rfl rfl rfl rfl rfl rfl (fun hc42 hp => ?_) (fun hc42 hp => ?_)
       ·refine WJ.dr 206 rfl gmix (by kernel_rfl) (by kernel_rfl) rfl ?_
        obtain ⟨t48, e48, hp⟩ := bindS hp
        obtain ⟨b48, o48, cs48, i48, ⟨a_t48, c_t48, rfl, g_t48⟩, p48⟩ := z9.at e48 u23 sz22
        refine WD.hd (v := .pointer (some ⟨b48, o48, none⟩)) rfl rfl rfl rfl (fun _ _ _ _ _ => side_no) (fun ids H' fr => opD_indexAddr rfl (evV_eq _ _ _ _ _ rfl) (evV_eq _ _ _ _ _ rfl) (i48 _)) rfl ?_
        refine WD.hd (v := .slice a_t48 t48.length c_t48) rfl rfl rfl rfl (fun _ _ _ _ _ => side_no) (fun ids H' fr => opD_load rfl (evV_eq _ _ _ _ _ rfl) ((p48.mono (Nat.zero_le _) fr.ext0.abv).load (d := 0) ag22 rfl)) rfl ?_
        obtain ⟨t53, e53, hp⟩ := bindS hp
        obtain ⟨b53, o53, cs53, i53, ⟨a_t53, c_t53, rfl, g_t53⟩, p53⟩ := zco.at e53 u23 sz22
        refine WD.hd (v := .pointer (some ⟨b53, o53, none⟩)) rfl rfl rfl rfl (fun _ _ _ _ _ => side_no) (fun ids H' fr => opD_indexAddr rfl (evV_eq _ _ _ _ _ rfl) (evV_eq _ _ _ _ _ rfl) (i53 _)) rfl ?_
        refine WD.hd (v := .slice a_t53 t53.length c_t53) rfl rfl rfl rfl (fun _ _ _ _ _ => side_no) (fun ids H' fr => opD_load rfl (evV_eq _ _ _ _ _ rfl) ((p53.mono (Nat.zero_le _) fr.ext0.abv).load (d := 0) ag22 rfl)) rfl ?_
        obtain ⟨t55, e55, hp⟩ := bindS hp
        refine WD.cl (R := R_4 t55) (fun hm h k => R_4.mono hm h k) rfl (fun ids H' fr => f19_ok (g_t48.mono (Nat.zero_le _) fr.ext0.abv) (g_t53.mono (Nat.zero_le _) fr.ext0.abv) e55) ?_
        rintro v B4 ⟨abB4, ivB4⟩ rfl
        refine ⟨_, rfl, ?_⟩
        cases t55
        ·replace hp := (itS hp).2 Bool.false_ne_true
         refine WD.done rfl ?_
         subst hK59
         obtain rfl := endS (show some _ = some r from hp)
         exact WJ.rt 205 rfl rfl rfl (fun ids H' fr => ⟨fr.ext0, rfl⟩)
        ·replace hp := (itS hp).1 rfl
         refine WD.done rfl ?_
         exact WJ.ag 208 rfl (by exact ⟨rfl, rfl, rfl, trivial⟩) rfl rfl rfl (ih59 (n, IntKind.i64.wrap (x5 + 1), B4) hp (Nat.lt_succ_self _))
       ·exact WJ.goto 3 (j59 B3 hp) rfl rfl (by exact ⟨rfl, rfl, trivial⟩) rfl rfl rfl
/-! 3 tipstaff/tipstafflaw27.ConfigTimes -/
def f3 (k : Nat) (x0 : Config) (x1 : Int) (x2 : Int) : Option Bool :=
 (f4 k x0).bind fun t19 =>
 if t19 then
  (f6 k x0).bind fun t23 =>
  (f7 k t23).bind fun (t26_0, t26_1) =>
  (f8 k x0).bind fun (t31_0, t31_1) =>
  if (Times.mk t26_0.Move t26_0.Door t26_0.Trip t26_0.Slot t26_0.Cycle) = (Times.mk t31_0.Move t31_0.Door t31_0.Trip t31_0.Slot t31_0.Cycle) then
   if t26_1 = t31_1 then
    (f9 k t23).bind fun t44 =>
    (f10 k x0).bind fun t46 =>
    if t44 = t46 then
     (f11 k t23 x1).bind fun (t52_0, t52_1) =>
     (f12 k x0 x1).bind fun (t58_0, t58_1) =>
     if t52_0 = t58_0 then
      if t52_1 = t58_1 then
       (f13 k t23 x1).bind fun (t72_0, t72_1) =>
       (f14 k x0 x1).bind fun (t78_0, t78_1) =>
       if t72_0 = t78_0 then
        if t72_1 = t78_1 then
         (f15 k t23 x1 x2).bind fun (t93_0, t93_1) =>
         (f16 k x0 x1 x2).bind fun (t100_0, t100_1) =>
         (f17 k x1).bind fun (t105_0, t105_1) =>
         (f18 k x1).bind fun (t110_0, t110_1) =>
         if t93_0 = t100_0 then
          if t93_1 = t100_1 then
           (f19 k t105_0 t110_0).bind fun t124 =>
           if t124 then
            if t105_1 = t110_1 then
             (f20 k t23 x0).bind fun t134 =>
             if t134 then
              (f5).bind fun t137 =>
              some t137
             else
              some false
            else
             some false
           else
            some false
          else
           some false
         else
          some false
        else
         some false
       else
        some false
      else
       some false
     else
      some false
    else
     some false
   else
    some false
  else
   some false
 else
  (f5).bind fun t21 =>
  some t21
set_option maxHeartbeats 40000000 in
set_option maxRecDepth 20000 in
theorem f3_ok {k : Nat} {H : Hp} {zr : Option Addr} {zs : Nat} {zd : Option Addr} {ze : Nat} {zi : Option Addr} {zj : Nat} {x0 : Config} {x1 : Int} {x2 : Int} {r : Bool} (z8 : SlF 0 H intC zr zs x0.Gaps) (z9 : SlF 0 H (slC intC) zd ze x0.Rota) (zaa : SlF 0 H intC zi zj x0.Keys) (hp : f3 k x0 x1 x2 = some r) :
  SCall Tryd.prog 3 [.agg ⟨[.int .i64 x0.Floors, .slice zr x0.Gaps.length zs, .int .i64 x0.Cars, .int .i64 x0.Speed, .int .i64 x0.Brake, .int .i64 x0.Tol, .int .i64 x0.Width, .int .i64 x0.Dwell, .int .i64 x0.Retries, .int .i64 x0.Empty, .int .i64 x0.Full, .int .i64 x0.Trips, .int .i64 x0.Slots, .slice zd x0.Rota.length ze, .int .u64 x0.Rules_0_Mask, .int .i64 x0.Rules_0_Home, .int .i64 x0.Rules_0_Calls, .int .u64 x0.Rules_1_Mask, .int .i64 x0.Rules_1_Home, .int .i64 x0.Rules_1_Calls, .int .u64 x0.Rules_2_Mask, .int .i64 x0.Rules_2_Home, .int .i64 x0.Rules_2_Calls, .slice zi x0.Keys.length zj, .int .i64 x0.Life]⟩, .int .i64 x1, .int .i64 x2] H (Ret fun v H' => Ext H H' ∧ R_4 r H.next H' v) := by
 obtain ⟨zn, zt, zy, zz, z0, z1, zv, zw, zx, zq, z2, z3, zu, za, zb, zc, zg, zf, zk, zm, zl, zo, zp, zh, z4⟩ := x0
 unfold f3 at hp
 replace hp := topS hp
 refine SCall.g Tryd.func3 rfl rfl rfl rfl rfl (l := [(0, .v (.agg ⟨[.int .i64 zn, .slice zr zt.length zs, .int .i64 zy, .int .i64 zz, .int .i64 z0, .int .i64 z1, .int .i64 zv, .int .i64 zw, .int .i64 zx, .int .i64 zq, .int .i64 z2, .int .i64 z3, .int .i64 zu, .slice zd za.length ze, .int .u64 zb, .int .i64 zc, .int .i64 zg, .int .u64 zf, .int .i64 zk, .int .i64 zm, .int .u64 zl, .int .i64 zo, .int .i64 zp, .slice zi zh.length zj, .int .i64 z4]⟩)), (1, .v (.int .i64 x1)), (2, .v (.int .i64 x2))]) (fun _ => rfl) (fun B abB => ?_)
 obtain ⟨t19, e19, hp⟩ := bindS hp
 refine WJ.cl 209 (R := R_4 t19) (fun hm h k => R_4.mono hm h k) rfl (fun ids H' fr => f4_ok (x0 := (Config.mk zn zt zy zz z0 z1 zv zw zx zq z2 z3 zu za zb zc zg zf zk zm zl zo zp zh z4)) (z8.mono (Nat.zero_le _) fr.ext0.abv) (z9.mono (Nat.zero_le _) fr.ext0.abv) (zaa.mono (Nat.zero_le _) fr.ext0.abv) e19) ?_
 rintro v B1 ⟨abB1, ivB1⟩ rfl
 refine ⟨_, rfl, ?_⟩
 cases t19
 ·replace hp := (itS hp).2 Bool.false_ne_true
  obtain ⟨t21, e21, hp⟩ := bindS hp
  refine WJ.cl 205 (R := R_4 t21) (fun hm h k => R_4.mono hm h k) rfl (fun ids H' fr => f5_ok e21) ?_
  rintro v B2 ⟨abB2, ivB2⟩ rfl
  refine ⟨_, rfl, ?_⟩
  obtain rfl := endS (show some _ = some r from hp)
  exact WJ.rt 202 rfl rfl rfl (fun ids H' fr => ⟨fr.ext0, rfl⟩)
 ·replace hp := (itS hp).1 rfl
  obtain ⟨⟨zan, zao, zap, zaq, zar, zas, zat, zau, zav, zaw, zax, zay, zaz, za0, za1, za2, za3, za4, za5, za6, za7, za8, za9, zba, zbb⟩, e23, hp⟩ := bindS hp
  refine WJ.cl 207 (R := R_29 ⟨zan, zao, zap, zaq, zar, zas, zat, zau, zav, zaw, zax, zay, zaz, za0, za1, za2, za3, za4, za5, za6, za7, za8, za9, zba, zbb⟩) (fun hm h k => R_29.mono hm h k) rfl (fun ids H' fr => f6_ok (x0 := (Config.mk zn zt zy zz z0 z1 zv zw zx zq z2 z3 zu za zb zc zg zf zk zm zl zo zp zh z4)) (z8.mono (Nat.zero_le _) fr.ext0.abv) (z9.mono (Nat.zero_le _) fr.ext0.abv) (zaa.mono (Nat.zero_le _) fr.ext0.abv) e23) ?_
  rintro v B3 ⟨abB3, ivB3⟩ ⟨zcd, zce, zcf, zcg, zch, zci, hv23, zab, zac, zad⟩
  obtain rfl : v = .agg ⟨[.int .i64 zan, .slice zcd zao.length zce, .int .i64 zap, .int .i64 zaq, .int .i64 zar, .int .i64 zas, .int .i64 zat, .int .i64 zau, .int .i64 zav, .int .i64 zaw, .int .i64 zax, .int .i64 zay, .int .i64 zaz, .slice zcf za0.length zcg, .int .u64 za1, .int .i64 za2, .int .i64 za3, .int .u64 za4, .int .i64 za5, .int .i64 za6, .int .u64 za7, .int .i64 za8, .int .i64 za9, .slice zch zba.length zci, .int .i64 zbb]⟩ := hv23
  refine ⟨_, rfl, ?_⟩
  refine WJ.adv 2 rfl ?_
  refine WJ.lc (loc' := [[.int .i64 zn, .slice zr zt.length zs, .int .i64 zy, .int .i64 zz, .int .i64 z0, .int .i64 z1, .int .i64 zv, .int .i64 zw, .int .i64 zx, .int .i64 zq, .int .i64 z2, .int .i64 z3, .int .i64 zu, .slice zd za.length ze, .int .u64 zb, .int .i64 zc, .int .i64 zg, .int .u64 zf, .int .i64 zk, .int .i64 zm, .int .u64 zl, .int .i64 zo, .int .i64 zp, .slice zi zh.length zj, .int .i64 z4], [.int .i64 zan, .slice zcd zao.length zce, .int .i64 zap, .int .i64 zaq, .int .i64 zar, .int .i64 zas, .int .i64 zat, .int .i64 zau, .int .i64 zav, .int .i64 zaw, .int .i64 zax, .int .i64 zay, .int .i64 zaz, .slice zcf za0.length zcg, .int .u64 za1, .int .i64 za2, .int .i64 za3, .int .u64 za4, .int .i64 za5, .int .i64 za6, .int .u64 za7, .int .i64 za8, .int .i64 za9, .slice zch zba.length zci, .int .i64 zbb]]) ?_ (by kernel_rfl)
  obtain ⟨⟨⟨t26_0_Move, t26_0_Door, t26_0_Trip, t26_0_Slot, t26_0_Cycle⟩, t26_1⟩, e26, hp⟩ := bindS hp
  refine WJ.cl 204 (R := R_34_35 ⟨⟨t26_0_Move, t26_0_Door, t26_0_Trip, t26_0_Slot, t26_0_Cycle⟩, t26_1⟩) (fun hm h k => R_34_35.mono hm h k) rfl (fun ids H' fr => f7_ok (x0 := (Config.mk zan zao zap zaq zar zas zat zau zav zaw zax zay zaz za0 za1 za2 za3 za4 za5 za6 za7 za8 za9 zba zbb)) (zab.mono (Nat.zero_le _) (fr.abv.le (Nat.zero_le _))) (zac.mono (Nat.zero_le _) (fr.abv.le (Nat.zero_le _))) (zad.mono (Nat.zero_le _) (fr.abv.le (Nat.zero_le _))) e26) ?_
  rintro v B4 ⟨abB4, ivB4⟩ rfl
  refine ⟨_, rfl, ?_⟩
  replace zab := zab.mono (Nat.le_refl _) (abB4.le (Nat.zero_le _))
  replace zac := zac.mono (Nat.le_refl _) (abB4.le (Nat.zero_le _))
  replace zad := zad.mono (Nat.le_refl _) (abB4.le (Nat.zero_le _))
  obtain ⟨⟨⟨t31_0_Move, t31_0_Door, t31_0_Trip, t31_0_Slot, t31_0_Cycle⟩, t31_1⟩, e31, hp⟩ := bindS hp
  refine WJ.cl 210 (R := R_34_35 ⟨⟨t31_0_Move, t31_0_Door, t31_0_Trip, t31_0_Slot, t31_0_Cycle⟩, t31_1⟩) (fun hm h k => R_34_35.mono hm h k) rfl (fun ids H' fr => f8_ok (x0 := (Config.mk zn zt zy zz z0 z1 zv zw zx zq z2 z3 zu za zb zc zg zf zk zm zl zo zp zh z4)) (z8.mono (Nat.zero_le _) fr.ext0.abv) (z9.mono (Nat.zero_le _) fr.ext0.abv) (zaa.mono (Nat.zero_le _) fr.ext0.abv) e31) ?_
  rintro v B5 ⟨abB5, ivB5⟩ rfl
  refine ⟨_, rfl, ?_⟩
  replace zab := zab.mono (Nat.le_refl _) (abB5.le (Nat.zero_le _))
  replace zac := zac.mono (Nat.le_refl _) (abB5.le (Nat.zero_le _))
  replace zad := zad.mono (Nat.le_refl _) (abB5.le (Nat.zero_le _))
  refine WJ.drF 209 rfl gmix (by kernel_rfl) (by kernel_rfl) rfl (fun D6 eD6 abD6 => ?_)
  have zcu := zab
  have zcv := zac
  have zcw := zad
  refine WD.cn hp rfl rfl rfl rfl rfl rfl (opD_neS rfl rfl rfl rfl gd34 (eq34 t26_0_Move t26_0_Door t26_0_Trip t26_0_Slot t26_0_Cycle t31_0_Move t31_0_Door t31_0_Trip t31_0_Slot t31_0_Cycle)) rfl rfl (fun hc36 hp => ?_) (fun hc36 hp => ?_)
  ·refine WD.done rfl ?_
   obtain rfl := endS (show some _ = some r from hp)
   exact WJ.rt 205 rfl rfl rfl (fun ids H' fr => ⟨fr.ext0, rfl⟩)
  ·refine WD.cn hp rfl rfl rfl rfl rfl rfl rfl rfl rfl (fun hc40 hp => ?_) (fun hc40 hp => ?_)
   ·refine WD.done rfl ?_
    obtain rfl := endS (show some _ = some r from hp)
    exact WJ.rt 205 rfl rfl rfl (fun ids H' fr => ⟨fr.ext0, rfl⟩)
   ·obtain ⟨t44, e44, hp⟩ := bindS hp
    refine WD.cl (R := R_35 t44) (fun hm h k => R_35.mono hm h k) rfl (fun ids H' fr => f9_ok (x0 := (Config.mk zan zao zap zaq zar zas zat zau zav zaw zax zay zaz za0 za1 za2 za3 za4 za5 za6 za7 za8 za9 zba zbb)) (zab.mono (Nat.zero_le _) (fr.abv.le (Nat.zero_le _))) (zac.mono (Nat.zero_le _) (fr.abv.le (Nat.zero_le _))) (zad.mono (Nat.zero_le _) (fr.abv.le (Nat.zero_le _))) e44) ?_
    rintro v B7 ⟨abB7, ivB7⟩ rfl
    refine ⟨_, rfl, ?_⟩
    replace zab := zab.mono (Nat.le_refl _) (abB7.le (Nat.zero_le _))
    replace zac := zac.mono (Nat.le_refl _) (abB7.le (Nat.zero_le _))
    replace zad := zad.mono (Nat.le_refl _) (abB7.le (Nat.zero_le _))
    obtain ⟨t46, e46, hp⟩ := bindS hp
    refine WD.cl (R := R_35 t46) (fun hm h k => R_35.mono hm h k) rfl (fun ids H' fr => f10_ok (x0 := (Config.mk zn zt zy zz z0 z1 zv zw zx zq z2 z3 zu za zb zc zg zf zk zm zl zo zp zh z4)) (z8.mono (Nat.zero_le _) fr.ext0.abv) (z9.mono (Nat.zero_le _) fr.ext0.abv) (zaa.mono (Nat.zero_le _) fr.ext0.abv) e46) ?_
    rintro v B8 ⟨abB8, ivB8⟩ rfl
    refine ⟨_, rfl, ?_⟩
    replace zab := zab.mono (Nat.le_refl _) (abB8.le (Nat.zero_le _))
    replace zac := zac.mono (Nat.le_refl _) (abB8.le (Nat.zero_le _))
    replace zad := zad.mono (Nat.le_refl _) (abB8.le (Nat.zero_le _))
    refine WD.cn hp rfl rfl rfl rfl rfl rfl rfl rfl rfl (fun hc47 hp => ?_) (fun hc47 hp => ?_)
    ·refine WD.done rfl ?_
     obtain rfl := endS (show some _ = some r from hp)
     exact WJ.rt 205 rfl rfl rfl (fun ids H' fr => ⟨fr.ext0, rfl⟩)
    ·refine WD.done rfl ?_
     obtain ⟨⟨t52_0, t52_1⟩, e52, hp⟩ := bindS hp
     refine WJ.cl 206 (R := R_3_35 ⟨t52_0, t52_1⟩) (fun hm h k => R_3_35.mono hm h k) rfl (fun ids H' fr => f11_ok (x0 := (Config.mk zan zao zap zaq zar zas zat zau zav zaw zax zay zaz za0 za1 za2 za3 za4 za5 za6 za7 za8 za9 zba zbb)) (zab.mono (Nat.zero_le _) (fr.abv.le (Nat.zero_le _))) (zac.mono (Nat.zero_le _) (fr.abv.le (Nat.zero_le _))) (zad.mono (Nat.zero_le _) (fr.abv.le (Nat.zero_le _))) e52) ?_
     rintro v B9 ⟨abB9, ivB9⟩ rfl
     refine ⟨_, rfl, ?_⟩
     replace zab := zab.mono (Nat.le_refl _) (abB9.le (Nat.zero_le _))
     replace zac := zac.mono (Nat.le_refl _) (abB9.le (Nat.zero_le _))
     replace zad := zad.mono (Nat.le_refl _) (abB9.le (Nat.zero_le _))
     obtain ⟨⟨t58_0, t58_1⟩, e58, hp⟩ := bindS hp
     refine WJ.cl 210 (R := R_3_35 ⟨t58_0, t58_1⟩) (fun hm h k => R_3_35.mono hm h k) rfl (fun ids H' fr => f12_ok (x0 := (Config.mk zn zt zy zz z0 z1 zv zw zx zq z2 z3 zu za zb zc zg zf zk zm zl zo zp zh z4)) (z8.mono (Nat.zero_le _) fr.ext0.abv) (z9.mono (Nat.zero_le _) fr.ext0.abv) (zaa.mono (Nat.zero_le _) fr.ext0.abv) e58) ?_
     rintro v B10 ⟨abB10, ivB10⟩ rfl
     refine ⟨_, rfl, ?_⟩
     replace zab := zab.mono (Nat.le_refl _) (abB10.le (Nat.zero_le _))
     replace zac := zac.mono (Nat.le_refl _) (abB10.le (Nat.zero_le _))
     replace zad := zad.mono (Nat.le_refl _) (abB10.le (Nat.zero_le _))
     refine WJ.cn 211 hp rfl rfl rfl rfl rfl rfl rfl rfl rfl (fun hc63 hp => ?_) (fun hc63 hp => ?_)
     ·obtain rfl := endS (show some _ = some r from hp)
      exact WJ.rt 211 rfl rfl rfl (fun ids H' fr => ⟨fr.ext0, rfl⟩)
     ·refine WJ.cn 203 hp rfl rfl rfl rfl rfl rfl rfl rfl rfl (fun hc67 hp => ?_) (fun hc67 hp => ?_)
      ·obtain rfl := endS (show some _ = some r from hp)
       exact WJ.rt 207 rfl rfl rfl (fun ids H' fr => ⟨fr.ext0, rfl⟩)
      ·obtain ⟨⟨t72_0, t72_1⟩, e72, hp⟩ := bindS hp
       refine WJ.cl 208 (R := R_3_35 ⟨t72_0, t72_1⟩) (fun hm h k => R_3_35.mono hm h k) rfl (fun ids H' fr => f13_ok (x0 := (Config.mk zan zao zap zaq zar zas zat zau zav zaw zax zay zaz za0 za1 za2 za3 za4 za5 za6 za7 za8 za9 zba zbb)) (zab.mono (Nat.zero_le _) (fr.abv.le (Nat.zero_le _))) (zac.mono (Nat.zero_le _) (fr.abv.le (Nat.zero_le _))) (zad.mono (Nat.zero_le _) (fr.abv.le (Nat.zero_le _))) e72) ?_
       rintro v B11 ⟨abB11, ivB11⟩ rfl
       refine ⟨_, rfl, ?_⟩
       replace zab := zab.mono (Nat.le_refl _) (abB11.le (Nat.zero_le _))
       replace zac := zac.mono (Nat.le_refl _) (abB11.le (Nat.zero_le _))
       replace zad := zad.mono (Nat.le_refl _) (abB11.le (Nat.zero_le _))
       obtain ⟨⟨t78_0, t78_1⟩, e78, hp⟩ := bindS hp
       refine WJ.cl 210 (R := R_3_35 ⟨t78_0, t78_1⟩) (fun hm h k => R_3_35.mono hm h k) rfl (fun ids H' fr => f14_ok (x0 := (Config.mk zn zt zy zz z0 z1 zv zw zx zq z2 z3 zu za zb zc zg zf zk zm zl zo zp zh z4)) (z8.mono (Nat.zero_le _) fr.ext0.abv) (z9.mono (Nat.zero_le _) fr.ext0.abv) (zaa.mono (Nat.zero_le _) fr.ext0.abv) e78) ?_
       rintro v B12 ⟨abB12, ivB12⟩ rfl
       refine ⟨_, rfl, ?_⟩
       replace zab := zab.mono (Nat.le_refl _) (abB12.le (Nat.zero_le _))
       replace zac := zac.mono (Nat.le_refl _) (abB12.le (Nat.zero_le _))
       replace zad := zad.mono (Nat.le_refl _) (abB12.le (Nat.zero_le _))
       refine WJ.cn 211 hp rfl rfl rfl rfl rfl rfl rfl rfl rfl (fun hc83 hp => ?_) (fun hc83 hp => ?_)
       ·obtain rfl := endS (show some _ = some r from hp)
        exact WJ.rt 211 rfl rfl rfl (fun ids H' fr => ⟨fr.ext0, rfl⟩)
       ·refine WJ.cn 203 hp rfl rfl rfl rfl rfl rfl rfl rfl rfl (fun hc87 hp => ?_) (fun hc87 hp => ?_)
        ·obtain rfl := endS (show some _ = some r from hp)
         exact WJ.rt 207 rfl rfl rfl (fun ids H' fr => ⟨fr.ext0, rfl⟩)
        ·obtain ⟨⟨t93_0, t93_1⟩, e93, hp⟩ := bindS hp
         refine WJ.cl 209 (R := R_3_35 ⟨t93_0, t93_1⟩) (fun hm h k => R_3_35.mono hm h k) rfl (fun ids H' fr => f15_ok (x0 := (Config.mk zan zao zap zaq zar zas zat zau zav zaw zax zay zaz za0 za1 za2 za3 za4 za5 za6 za7 za8 za9 zba zbb)) (zab.mono (Nat.zero_le _) (fr.abv.le (Nat.zero_le _))) (zac.mono (Nat.zero_le _) (fr.abv.le (Nat.zero_le _))) (zad.mono (Nat.zero_le _) (fr.abv.le (Nat.zero_le _))) e93) ?_
         rintro v B13 ⟨abB13, ivB13⟩ rfl
         refine ⟨_, rfl, ?_⟩
         replace zab := zab.mono (Nat.le_refl _) (abB13.le (Nat.zero_le _))
         replace zac := zac.mono (Nat.le_refl _) (abB13.le (Nat.zero_le _))
         replace zad := zad.mono (Nat.le_refl _) (abB13.le (Nat.zero_le _))
         obtain ⟨⟨t100_0, t100_1⟩, e100, hp⟩ := bindS hp
         refine WJ.cl 211 (R := R_3_35 ⟨t100_0, t100_1⟩) (fun hm h k => R_3_35.mono hm h k) rfl (fun ids H' fr => f16_ok (x0 := (Config.mk zn zt zy zz z0 z1 zv zw zx zq z2 z3 zu za zb zc zg zf zk zm zl zo zp zh z4)) (z8.mono (Nat.zero_le _) fr.ext0.abv) (z9.mono (Nat.zero_le _) fr.ext0.abv) (zaa.mono (Nat.zero_le _) fr.ext0.abv) e100) ?_
         rintro v B14 ⟨abB14, ivB14⟩ rfl
         refine ⟨_, rfl, ?_⟩
         replace zab := zab.mono (Nat.le_refl _) (abB14.le (Nat.zero_le _))
         replace zac := zac.mono (Nat.le_refl _) (abB14.le (Nat.zero_le _))
         replace zad := zad.mono (Nat.le_refl _) (abB14.le (Nat.zero_le _))
         obtain ⟨⟨t105_0, t105_1⟩, e105, hp⟩ := bindS hp
         refine WJ.cl 209 (R := R_22_35 ⟨t105_0, t105_1⟩) (fun hm h k => R_22_35.mono hm h k) rfl (fun ids H' fr => f17_ok e105) ?_
         rintro v B15 ⟨abB15, ivB15⟩ ⟨a_t105_0, c_t105_0, rfl, g_t105_0⟩
         refine ⟨_, rfl, ?_⟩
         replace zab := zab.mono (Nat.le_refl _) (abB15.le (Nat.zero_le _))
         replace zac := zac.mono (Nat.le_refl _) (abB15.le (Nat.zero_le _))
         replace zad := zad.mono (Nat.le_refl _) (abB15.le (Nat.zero_le _))
         obtain ⟨⟨t110_0, t110_1⟩, e110, hp⟩ := bindS hp
         refine WJ.cl 209 (R := R_22_35 ⟨t110_0, t110_1⟩) (fun hm h k => R_22_35.mono hm h k) rfl (fun ids H' fr => f18_ok e110) ?_
         rintro v B16 ⟨abB16, ivB16⟩ ⟨a_t110_0, c_t110_0, rfl, g_t110_0⟩
         refine ⟨_, rfl, ?_⟩
         replace zab := zab.mono (Nat.le_refl _) (abB16.le (Nat.zero_le _))
         replace zac := zac.mono (Nat.le_refl _) (abB16.le (Nat.zero_le _))
         replace zad := zad.mono (Nat.le_refl _) (abB16.le (Nat.zero_le _))
         replace g_t105_0 := g_t105_0.mono (Nat.le_refl _) (abB16.le (Nat.zero_le _))
         refine WJ.ci 210 hp rfl rfl rfl rfl rfl rfl rfl rfl rfl (fun hc115 hp => ?_) (fun hc115 hp => ?_)
         ·refine WJ.ci 203 hp rfl rfl rfl rfl rfl rfl rfl rfl rfl (fun hc119 hp => ?_) (fun hc119 hp => ?_)
          ·obtain ⟨t124, e124, hp⟩ := bindS hp
           refine WJ.cl 204 (R := R_4 t124) (fun hm h k => R_4.mono hm h k) rfl (fun ids H' fr => f19_ok (g_t105_0.mono (Nat.zero_le _) (fr.abv.le (Nat.zero_le _))) (g_t110_0.mono (Nat.zero_le _) (fr.abv.le (Nat.zero_le _))) e124) ?_
           rintro v B17 ⟨abB17, ivB17⟩ rfl
           refine ⟨_, rfl, ?_⟩
           replace zab := zab.mono (Nat.le_refl _) (abB17.le (Nat.zero_le _))
           replace zac := zac.mono (Nat.le_refl _) (abB17.le (Nat.zero_le _))
           replace zad := zad.mono (Nat.le_refl _) (abB17.le (Nat.zero_le _))
           replace g_t105_0 := g_t105_0.mono (Nat.le_refl _) (abB17.le (Nat.zero_le _))
           replace g_t110_0 := g_t110_0.mono (Nat.le_refl _) (abB17.le (Nat.zero_le _))
           cases t124
           ·replace hp := (itS hp).2 Bool.false_ne_true
            obtain rfl := endS (show some _ = some r from hp)
            exact WJ.rt 216 rfl rfl rfl (fun ids H' fr => ⟨fr.ext0, rfl⟩)
           ·replace hp := (itS hp).1 rfl
            refine WJ.ci 204 hp rfl rfl rfl rfl rfl rfl rfl rfl rfl (fun hc129 hp => ?_) (fun hc129 hp => ?_)
            ·obtain ⟨t134, e134, hp⟩ := bindS hp
             refine WJ.cl 204 (R := R_4 t134) (fun hm h k => R_4.mono hm h k) rfl (fun ids H' fr => f20_ok (x0 := (Config.mk zan zao zap zaq zar zas zat zau zav zaw zax zay zaz za0 za1 za2 za3 za4 za5 za6 za7 za8 za9 zba zbb)) (x1 := (Config.mk zn zt zy zz z0 z1 zv zw zx zq z2 z3 zu za zb zc zg zf zk zm zl zo zp zh z4)) (zab.mono (Nat.zero_le _) (fr.abv.le (Nat.zero_le _))) (zac.mono (Nat.zero_le _) (fr.abv.le (Nat.zero_le _))) (zad.mono (Nat.zero_le _) (fr.abv.le (Nat.zero_le _))) (z8.mono (Nat.zero_le _) fr.ext0.abv) (z9.mono (Nat.zero_le _) fr.ext0.abv) (zaa.mono (Nat.zero_le _) fr.ext0.abv) e134) ?_
             rintro v B18 ⟨abB18, ivB18⟩ rfl
             refine ⟨_, rfl, ?_⟩
             replace zab := zab.mono (Nat.le_refl _) (abB18.le (Nat.zero_le _))
             replace zac := zac.mono (Nat.le_refl _) (abB18.le (Nat.zero_le _))
             replace zad := zad.mono (Nat.le_refl _) (abB18.le (Nat.zero_le _))
             replace g_t105_0 := g_t105_0.mono (Nat.le_refl _) (abB18.le (Nat.zero_le _))
             replace g_t110_0 := g_t110_0.mono (Nat.le_refl _) (abB18.le (Nat.zero_le _))
             cases t134
             ·replace hp := (itS hp).2 Bool.false_ne_true
              obtain rfl := endS (show some _ = some r from hp)
              exact WJ.rt 206 rfl rfl rfl (fun ids H' fr => ⟨fr.ext0, rfl⟩)
             ·replace hp := (itS hp).1 rfl
              obtain ⟨t137, e137, hp⟩ := bindS hp
              refine WJ.cl 202 (R := R_4 t137) (fun hm h k => R_4.mono hm h k) rfl (fun ids H' fr => f5_ok e137) ?_
              rintro v B19 ⟨abB19, ivB19⟩ rfl
              refine ⟨_, rfl, ?_⟩
              replace zab := zab.mono (Nat.le_refl _) (abB19.le (Nat.zero_le _))
              replace zac := zac.mono (Nat.le_refl _) (abB19.le (Nat.zero_le _))
              replace zad := zad.mono (Nat.le_refl _) (abB19.le (Nat.zero_le _))
              replace g_t105_0 := g_t105_0.mono (Nat.le_refl _) (abB19.le (Nat.zero_le _))
              replace g_t110_0 := g_t110_0.mono (Nat.le_refl _) (abB19.le (Nat.zero_le _))
              obtain rfl := endS (show some _ = some r from hp)
              exact WJ.rt 203 rfl rfl rfl (fun ids H' fr => ⟨fr.ext0, rfl⟩)
            ·obtain rfl := endS (show some _ = some r from hp)
             exact WJ.rt 211 rfl rfl rfl (fun ids H' fr => ⟨fr.ext0, rfl⟩)
          ·obtain rfl := endS (show some _ = some r from hp)
           exact WJ.rt 221 rfl rfl rfl (fun ids H' fr => ⟨fr.ext0, rfl⟩)
         ·obtain rfl := endS (show some _ = some r from hp)
          exact WJ.rt 225 rfl rfl rfl (fun ids H' fr => ⟨fr.ext0, rfl⟩)
end
end Go.Proofs.YthemdclmlcblbaaDoor
