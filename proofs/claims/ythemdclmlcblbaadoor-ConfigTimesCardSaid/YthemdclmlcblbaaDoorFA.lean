import Derived.Test.YthemdclmlcblbaaDoorST
set_option linter.unusedVariables false
set_option linter.unusedSimpArgs false
namespace Go.Proofs.YthemdclmlcblbaaDoor
open Go Go.Det Go.RowKit
noncomputable section
/-! 68 tipstaff/mask.floor -/
def f68 (x0 : Int) : Option Bool :=
 if x0 ≥ 0 then
  (some (decide (x0 < 64))).bind fun t7 =>
  some t7
 else
  some false
set_option maxHeartbeats 40000000 in
set_option maxRecDepth 20000 in
theorem f68_ok {H : Hp} {x0 : Int} {r : Bool} (hp : f68 x0 = some r) :
  SCall Tryd.prog 68 [.int .i64 x0] H (Ret fun v H' => Ext H H' ∧ R_4 r H.next H' v) := by
 unfold f68 at hp
 replace hp := topS hp
 refine SCall.g Tryd.func68 rfl rfl rfl rfl rfl (l := [(0, .v (.int .i64 x0))]) (fun _ => rfl) (fun B abB => ?_)
 refine WJ.ci 207 hp rfl rfl rfl rfl rfl rfl rfl rfl rfl (fun hc4 hp => ?_) (fun hc4 hp => ?_)
 ·obtain ⟨t7, e7, hp⟩ := bindS hp
  refine WJ.cv 202 (b := t7) (H0 := ⟨.nil, 0, 0⟩) rfl rfl rfl rfl rfl rfl (by rw [← endS e7]; exact rfl) rfl ?_
  obtain rfl := endS (show some _ = some r from hp)
  exact WJ.rt 203 rfl rfl rfl (fun ids H' fr => ⟨fr.ext0, rfl⟩)
 ·obtain rfl := endS (show some _ = some r from hp)
  exact WJ.rt 206 rfl rfl rfl (fun ids H' fr => ⟨fr.ext0, rfl⟩)
/-! 60 tipstaff/mask.Has -/
def f60 (x0 : Int) (x1 : Int) : Option Bool :=
 (f68 x1).bind fun t6 =>
 if t6 then
  (some ((bits .and .u64 x0 (gshl .u64 1 (IntKind.u64.wrap x1))) != 0)).bind fun t13 =>
  some t13
 else
  some false
set_option maxHeartbeats 40000000 in
set_option maxRecDepth 20000 in
theorem f60_ok {H : Hp} {x0 : Int} {x1 : Int} {r : Bool} (hp : f60 x0 x1 = some r) :
  SCall Tryd.prog 60 [.int .u64 x0, .int .i64 x1] H (Ret fun v H' => Ext H H' ∧ R_4 r H.next H' v) := by
 unfold f60 at hp
 replace hp := topS hp
 refine SCall.g Tryd.func60 rfl rfl rfl rfl rfl (l := [(0, .v (.int .u64 x0)), (1, .v (.int .i64 x1))]) (fun _ => rfl) (fun B abB => ?_)
 obtain ⟨t6, e6, hp⟩ := bindS hp
 refine WJ.cl 207 (R := R_4 t6) (fun hm h k => R_4.mono hm h k) rfl (fun ids H' fr => f68_ok e6) ?_
 rintro v B1 ⟨abB1, ivB1⟩ rfl
 refine ⟨_, rfl, ?_⟩
 cases t6
 ·replace hp := (itS hp).2 Bool.false_ne_true
  obtain rfl := endS (show some _ = some r from hp)
  exact WJ.rt 210 rfl rfl rfl (fun ids H' fr => ⟨fr.ext0, rfl⟩)
 ·replace hp := (itS hp).1 rfl
  refine WJ.hd (v := .int .u64 (gshl .u64 1 (IntKind.u64.wrap x1))) 204 rfl rfl rfl rfl (fun ids H' fr => opD_bin rfl (evV_eq _ _ _ _ _ rfl) (evV_eq _ _ _ _ _ rfl) (bin_shl (nn_u64 _))) rfl ?_
  obtain ⟨t13, e13, hp⟩ := bindS hp
  refine WJ.cv 201 (b := t13) (H0 := ⟨.nil, 0, 0⟩) rfl rfl rfl rfl rfl rfl (by rw [← endS e13]; exact rfl) rfl ?_
  obtain rfl := endS (show some _ = some r from hp)
  exact WJ.rt 203 rfl rfl rfl (fun ids H' fr => ⟨fr.ext0, rfl⟩)
/-! 67 tipstaff/mask.below -/
def f67 (x0 : Int) : Option Int :=
 if x0 ≥ 64 then
  some 18446744073709551615
 else
  some (IntKind.u64.wrap ((gshl .u64 1 (IntKind.u64.wrap x0)) - 1))
set_option maxHeartbeats 40000000 in
set_option maxRecDepth 20000 in
theorem f67_ok {H : Hp} {x0 : Int} {r : Int} (hp : f67 x0 = some r) :
  SCall Tryd.prog 67 [.int .i64 x0] H (Ret fun v H' => Ext H H' ∧ R_24 r H.next H' v) := by
 unfold f67 at hp
 replace hp := topS hp
 refine SCall.g Tryd.func67 rfl rfl rfl rfl rfl (l := [(0, .v (.int .i64 x0))]) (fun _ => rfl) (fun B abB => ?_)
 refine WJ.ci 208 hp rfl rfl rfl rfl rfl rfl rfl rfl rfl (fun hc4 hp => ?_) (fun hc4 hp => ?_)
 ·obtain rfl := endS (show some _ = some r from hp)
  exact WJ.rt 206 rfl rfl rfl (fun ids H' fr => ⟨fr.ext0, rfl⟩)
 ·refine WJ.hd (v := .int .u64 (gshl .u64 1 (IntKind.u64.wrap x0))) 207 rfl rfl rfl rfl (fun ids H' fr => opD_bin rfl (evV_eq _ _ _ _ _ rfl) (evV_eq _ _ _ _ _ rfl) (bin_shl (nn_u64 _))) rfl ?_
  obtain rfl := endS (show some _ = some r from hp)
  exact WJ.rt 203 rfl rfl rfl (fun ids H' fr => ⟨fr.ext0, rfl⟩)
/-! 59 tipstaff/mask.All -/
def f59 (x0 : Int) : Option (Int × Int) :=
 if x0 < 0 then
  some (0, 2)
 else
  if x0 > 64 then
   some (0, 2)
  else
   (f67 x0).bind fun t11 =>
   some (t11, 0)
set_option maxHeartbeats 40000000 in
set_option maxRecDepth 20000 in
theorem f59_ok {H : Hp} {x0 : Int} {r : Int × Int} (hp : f59 x0 = some r) :
  SCall Tryd.prog 59 [.int .i64 x0] H (Ret fun v H' => Ext H H' ∧ R_24_35 r H.next H' v) := by
 unfold f59 at hp
 replace hp := topS hp
 refine SCall.g Tryd.func59 rfl rfl rfl rfl rfl (l := [(0, .v (.int .i64 x0))]) (fun _ => rfl) (fun B abB => ?_)
 refine WJ.ci 209 hp rfl rfl rfl rfl rfl rfl rfl rfl rfl (fun hc5 hp => ?_) (fun hc5 hp => ?_)
 ·obtain rfl := endS (show some _ = some r from hp)
  exact WJ.rt 211 rfl rfl rfl (fun ids H' fr => ⟨fr.ext0, rfl⟩)
 ·refine WJ.ci 202 hp rfl rfl rfl rfl rfl rfl rfl rfl rfl (fun hc8 hp => ?_) (fun hc8 hp => ?_)
  ·obtain rfl := endS (show some _ = some r from hp)
   exact WJ.rt 208 rfl rfl rfl (fun ids H' fr => ⟨fr.ext0, rfl⟩)
  ·obtain ⟨t11, e11, hp⟩ := bindS hp
   refine WJ.cl 207 (R := R_24 t11) (fun hm h k => R_24.mono hm h k) rfl (fun ids H' fr => f67_ok e11) ?_
   rintro v B1 ⟨abB1, ivB1⟩ rfl
   refine ⟨_, rfl, ?_⟩
   obtain rfl := endS (show some _ = some r from hp)
   exact WJ.rt 203 rfl rfl rfl (fun ids H' fr => ⟨fr.ext0, rfl⟩)
/-! 31 tipstaff/config.in -/
def f31 (x0 : Int) (x1 : Int) (x2 : Int) : Option Bool :=
 if x0 ≥ x1 then
  (some (decide (x0 ≤ x2))).bind fun t13 =>
  some t13
 else
  some false
set_option maxHeartbeats 40000000 in
set_option maxRecDepth 20000 in
theorem f31_ok {H : Hp} {x0 : Int} {x1 : Int} {x2 : Int} {r : Bool} (hp : f31 x0 x1 x2 = some r) :
  SCall Tryd.prog 31 [.int .i64 x0, .int .i64 x1, .int .i64 x2] H (Ret fun v H' => Ext H H' ∧ R_4 r H.next H' v) := by
 unfold f31 at hp
 replace hp := topS hp
 refine SCall.g Tryd.func31 rfl rfl rfl rfl rfl (l := [(0, .v (.int .i64 x0)), (1, .v (.int .i64 x1)), (2, .v (.int .i64 x2))]) (fun _ => rfl) (fun B abB => ?_)
 refine WJ.ci 208 hp rfl rfl rfl rfl rfl rfl rfl rfl rfl (fun hc9 hp => ?_) (fun hc9 hp => ?_)
 ·obtain ⟨t13, e13, hp⟩ := bindS hp
  refine WJ.cv 203 (b := t13) (H0 := ⟨.nil, 0, 0⟩) rfl rfl rfl rfl rfl rfl (by rw [← endS e13]; exact rfl) rfl ?_
  obtain rfl := endS (show some _ = some r from hp)
  exact WJ.rt 203 rfl rfl rfl (fun ids H' fr => ⟨fr.ext0, rfl⟩)
 ·obtain rfl := endS (show some _ = some r from hp)
  exact WJ.rt 207 rfl rfl rfl (fun ids H' fr => ⟨fr.ext0, rfl⟩)
/-! 50 tipstaff/config.rules -/
def f50_l1 (zh : List Int) : Nat → Int → Option ((Unit) ⊕ (Int))
 | 0, _ => none
 | n + 1, zak =>
  (some (decide (zak < (zh.length : Int)))).bind fun t53 =>
  if t53 then
   (rd zh zak).bind fun t55 =>
   (f31 t55 1 99).bind fun t58 =>
   if t58 then
    (if zak > 0 then
     (rd zh (IntKind.i64.wrap (zak - 1))).bind fun t68 =>
     if t55 ≤ t68 then
      some (Sum.inl (8 : Int))
     else
      some (Sum.inr ())
    else
     some (Sum.inr ())).bind fun s => match s with
     | .inl st => some (Sum.inr st)
     | .inr _ => 
      f50_l1 zh n (IntKind.i64.wrap (zak + 1))
   else
    some (Sum.inr (2 : Int))
  else
   some (Sum.inl ())
def f50 (k : Nat) (x0 : Config) : Option Int :=
 (f59 x0.Floors).bind fun (t12_0, t12_1) =>
 if x0.Rules_0_Mask = 0 then
  some 3
 else
  if (bits .andNot .u64 x0.Rules_0_Mask t12_0) = 0 then
   (f60 x0.Rules_0_Mask x0.Rules_0_Home).bind fun t36 =>
   if t36 then
    (f31 x0.Rules_0_Calls 1 32).bind fun t41 =>
    if t41 then
     if x0.Rules_1_Mask = 0 then
      some 3
     else
      if (bits .andNot .u64 x0.Rules_1_Mask t12_0) = 0 then
       (f60 x0.Rules_1_Mask x0.Rules_1_Home).bind fun t36u1 =>
       if t36u1 then
        (f31 x0.Rules_1_Calls 1 32).bind fun t41u1 =>
        if t41u1 then
         if x0.Rules_2_Mask = 0 then
          some 3
         else
          if (bits .andNot .u64 x0.Rules_2_Mask t12_0) = 0 then
           (f60 x0.Rules_2_Mask x0.Rules_2_Home).bind fun t36u2 =>
           if t36u2 then
            (f31 x0.Rules_2_Calls 1 32).bind fun t41u2 =>
            if t41u2 then
             if (x0.Keys.length : Int) > 8 then
              some 5
             else
              (f50_l1 x0.Keys k 0).bind fun s => match s with
               | .inl _ => 
                some 0
               | .inr st => some st
            else
             some 2
           else
            some 2
          else
           some 3
        else
         some 2
       else
        some 2
      else
       some 3
    else
     some 2
   else
    some 2
  else
   some 3
set_option maxHeartbeats 40000000 in
set_option maxRecDepth 20000 in
theorem f50_ok {k : Nat} {H : Hp} {zr : Option Addr} {zs : Nat} {zd : Option Addr} {ze : Nat} {zi : Option Addr} {zj : Nat} {x0 : Config} {r : Int} (z8 : SlF 0 H intC zr zs x0.Gaps) (z9 : SlF 0 H (slC intC) zd ze x0.Rota) (zaa : SlF 0 H intC zi zj x0.Keys) (hp : f50 k x0 = some r) :
  SCall Tryd.prog 50 [.agg ⟨[.int .i64 x0.Floors, .slice zr x0.Gaps.length zs, .int .i64 x0.Cars, .int .i64 x0.Speed, .int .i64 x0.Brake, .int .i64 x0.Tol, .int .i64 x0.Width, .int .i64 x0.Dwell, .int .i64 x0.Retries, .int .i64 x0.Empty, .int .i64 x0.Full, .int .i64 x0.Trips, .int .i64 x0.Slots, .slice zd x0.Rota.length ze, .int .u64 x0.Rules_0_Mask, .int .i64 x0.Rules_0_Home, .int .i64 x0.Rules_0_Calls, .int .u64 x0.Rules_1_Mask, .int .i64 x0.Rules_1_Home, .int .i64 x0.Rules_1_Calls, .int .u64 x0.Rules_2_Mask, .int .i64 x0.Rules_2_Home, .int .i64 x0.Rules_2_Calls, .slice zi x0.Keys.length zj, .int .i64 x0.Life]⟩] H (Ret fun v H' => Ext H H' ∧ R_35 r H.next H' v) := by
 obtain ⟨zn, zt, zy, zz, z0, z1, zv, zw, zx, zq, z2, z3, zu, za, zb, zc, zg, zf, zk, zm, zl, zo, zp, zh, z4⟩ := x0
 unfold f50 at hp
 replace hp := topS hp
 refine SCall.g Tryd.func50 rfl rfl rfl rfl rfl (l := [(0, .v (.agg ⟨[.int .i64 zn, .slice zr zt.length zs, .int .i64 zy, .int .i64 zz, .int .i64 z0, .int .i64 z1, .int .i64 zv, .int .i64 zw, .int .i64 zx, .int .i64 zq, .int .i64 z2, .int .i64 z3, .int .i64 zu, .slice zd za.length ze, .int .u64 zb, .int .i64 zc, .int .i64 zg, .int .u64 zf, .int .i64 zk, .int .i64 zm, .int .u64 zl, .int .i64 zo, .int .i64 zp, .slice zi zh.length zj, .int .i64 z4]⟩))]) (fun _ => rfl) (fun B abB => ?_)
 have z6 := z8.mono (Nat.le_refl _) abB
 have z7 := z9.mono (Nat.le_refl _) abB
 have z5 := zaa.mono (Nat.le_refl _) abB
 refine WJ.adv 3 rfl ?_
 refine WJ.liftS (loc := []) rfl rfl (fun bv0 => ?_)
 refine WJ.hd (v := .int .i64 zn) 205 rfl rfl rfl rfl (fun ids H' fr => opD_load rfl (evV_eq _ _ _ _ _ rfl) (fr.ldOwn (j := 0) rfl rfl)) rfl ?_
 obtain ⟨⟨t12_0, t12_1⟩, e12, hp⟩ := bindS hp
 refine WJ.cl 200 (R := R_24_35 ⟨t12_0, t12_1⟩) (fun hm h k => R_24_35.mono hm h k) rfl (fun ids H' fr => f59_ok e12) ?_
 rintro v B1 ⟨abB1, ivB1⟩ rfl
 refine ⟨_, rfl, ?_⟩
 replace z6 := z6.mono (Nat.le_refl _) (abB1.le (Nat.zero_le _))
 replace z7 := z7.mono (Nat.le_refl _) (abB1.le (Nat.zero_le _))
 replace z5 := z5.mono (Nat.le_refl _) (abB1.le (Nat.zero_le _))
 refine WJ.hd (v := .agg ⟨[.int .u64 zb, .int .i64 zc, .int .i64 zg, .int .u64 zf, .int .i64 zk, .int .i64 zm, .int .u64 zl, .int .i64 zo, .int .i64 zp]⟩) 210 rfl rfl rfl rfl (fun ids H' fr => opD_load rfl (evV_eq _ _ _ _ _ rfl) (fr.ldOwn (j := 0) rfl rfl)) rfl ?_
 refine WJ.un 203 rfl ?_
 refine WJ.re (I := [(1, .v (.pointer (some ⟨bv0, 0, none⟩))), (3, .v (.int .u64 t12_0)), (16, .v (.agg ⟨[.int .u64 zb, .int .i64 zc, .int .i64 zg, .int .u64 zf, .int .i64 zk, .int .i64 zm, .int .u64 zl, .int .i64 zo, .int .i64 zp]⟩)), (17, .v (.int .i64 0))]) (O := [⟨some ⟨bv0, 0, none⟩, 25, 1, [.int .i64 zn, .slice zr zt.length zs, .int .i64 zy, .int .i64 zz, .int .i64 z0, .int .i64 z1, .int .i64 zv, .int .i64 zw, .int .i64 zx, .int .i64 zq, .int .i64 z2, .int .i64 z3, .int .i64 zu, .slice zd za.length ze, .int .u64 zb, .int .i64 zc, .int .i64 zg, .int .u64 zf, .int .i64 zk, .int .i64 zm, .int .u64 zl, .int .i64 zo, .int .i64 zp, .slice zi zh.length zj, .int .i64 z4]⟩]) ?_ (by exact ⟨rfl, rfl, rfl, rfl, trivial⟩) rfl
 refine WJ.cv 202 (b := true) (H0 := ⟨.nil, 0, 0⟩) rfl rfl rfl rfl rfl rfl rfl rfl ?_
 refine WJ.hd (v := .agg ⟨[.int .u64 zb, .int .i64 zc, .int .i64 zg]⟩) 208 rfl rfl rfl rfl (fun ids H' fr => opD_index rfl (evV_eq _ _ _ _ _ rfl) (evV_eq _ _ _ _ _ rfl) (by rfl)) rfl ?_
 refine WJ.adv 1 rfl ?_
 refine WJ.liftS (loc := []) rfl rfl (fun bv1 => ?_)
 refine WJ.sb 200 (j := 1) rfl rfl rfl rfl rfl rfl rfl rfl rfl rfl ?_
 refine WJ.hd (v := .int .u64 zb) 205 rfl rfl rfl rfl (fun ids H' fr => opD_load rfl (evV_eq _ _ _ _ _ rfl) (fr.ldOwn (j := 1) rfl rfl)) rfl ?_
 refine WJ.ci 200 hp rfl rfl rfl rfl rfl rfl rfl rfl rfl (fun hc23 hp => ?_) (fun hc23 hp => ?_)
 ·obtain rfl := endS (show some _ = some r from hp)
  exact WJ.rt 214 rfl rfl rfl (fun ids H' fr => ⟨fr.ext0, rfl⟩)
 ·refine WJ.hd (v := .int .u64 zb) 202 rfl rfl rfl rfl (fun ids H' fr => opD_load rfl (evV_eq _ _ _ _ _ rfl) (fr.ldOwn (j := 1) rfl rfl)) rfl ?_
  refine WJ.cn 202 hp rfl rfl rfl rfl rfl rfl rfl rfl rfl (fun hc29 hp => ?_) (fun hc29 hp => ?_)
  ·obtain rfl := endS (show some _ = some r from hp)
   exact WJ.rt 208 rfl rfl rfl (fun ids H' fr => ⟨fr.ext0, rfl⟩)
  ·refine WJ.hd (v := .int .u64 zb) 207 rfl rfl rfl rfl (fun ids H' fr => opD_load rfl (evV_eq _ _ _ _ _ rfl) (fr.ldOwn (j := 1) rfl rfl)) rfl ?_
   refine WJ.hd (v := .int .i64 zc) 201 rfl rfl rfl rfl (fun ids H' fr => opD_load rfl (evV_eq _ _ _ _ _ rfl) (fr.ldOwn (j := 1) rfl rfl)) rfl ?_
   obtain ⟨t36, e36, hp⟩ := bindS hp
   refine WJ.cl 200 (R := R_4 t36) (fun hm h k => R_4.mono hm h k) rfl (fun ids H' fr => f60_ok e36) ?_
   rintro v B2 ⟨abB2, ivB2⟩ rfl
   refine ⟨_, rfl, ?_⟩
   replace z6 := z6.mono (Nat.le_refl _) (abB2.le (Nat.zero_le _))
   replace z7 := z7.mono (Nat.le_refl _) (abB2.le (Nat.zero_le _))
   replace z5 := z5.mono (Nat.le_refl _) (abB2.le (Nat.zero_le _))
   cases t36
   ·replace hp := (itS hp).2 Bool.false_ne_true
    obtain rfl := endS (show some _ = some r from hp)
    exact WJ.rt 214 rfl rfl rfl (fun ids H' fr => ⟨fr.ext0, rfl⟩)
   ·replace hp := (itS hp).1 rfl
    refine WJ.hd (v := .int .i64 zg) 203 rfl rfl rfl rfl (fun ids H' fr => opD_load rfl (evV_eq _ _ _ _ _ rfl) (fr.ldOwn (j := 1) rfl rfl)) rfl ?_
    obtain ⟨t41, e41, hp⟩ := bindS hp
    refine WJ.cl 200 (R := R_4 t41) (fun hm h k => R_4.mono hm h k) rfl (fun ids H' fr => f31_ok e41) ?_
    rintro v B3 ⟨abB3, ivB3⟩ rfl
    refine ⟨_, rfl, ?_⟩
    replace z6 := z6.mono (Nat.le_refl _) (abB3.le (Nat.zero_le _))
    replace z7 := z7.mono (Nat.le_refl _) (abB3.le (Nat.zero_le _))
    replace z5 := z5.mono (Nat.le_refl _) (abB3.le (Nat.zero_le _))
    cases t41
    ·replace hp := (itS hp).2 Bool.false_ne_true
     obtain rfl := endS (show some _ = some r from hp)
     exact WJ.rt 209 rfl rfl rfl (fun ids H' fr => ⟨fr.ext0, rfl⟩)
    ·replace hp := (itS hp).1 rfl
     refine WJ.ro 212 rfl ?_
     refine WJ.re (I := [(1, .v (.pointer (some ⟨bv0, 0, none⟩))), (3, .v (.int .u64 t12_0)), (16, .v (.agg ⟨[.int .u64 zb, .int .i64 zc, .int .i64 zg, .int .u64 zf, .int .i64 zk, .int .i64 zm, .int .u64 zl, .int .i64 zo, .int .i64 zp]⟩)), (17, .v (.int .i64 1))]) (O := [⟨some ⟨bv0, 0, none⟩, 25, 1, [.int .i64 zn, .slice zr zt.length zs, .int .i64 zy, .int .i64 zz, .int .i64 z0, .int .i64 z1, .int .i64 zv, .int .i64 zw, .int .i64 zx, .int .i64 zq, .int .i64 z2, .int .i64 z3, .int .i64 zu, .slice zd za.length ze, .int .u64 zb, .int .i64 zc, .int .i64 zg, .int .u64 zf, .int .i64 zk, .int .i64 zm, .int .u64 zl, .int .i64 zo, .int .i64 zp, .slice zi zh.length zj, .int .i64 z4]⟩, ⟨some ⟨bv1, 0, none⟩, 3, 1, [.int .u64 zb, .int .i64 zc, .int .i64 zg]⟩]) ?_ (by exact ⟨rfl, rfl, rfl, rfl, trivial⟩) rfl
     refine WJ.cv 202 (b := true) (H0 := ⟨.nil, 0, 0⟩) rfl rfl rfl rfl rfl rfl rfl rfl ?_
     refine WJ.hd (v := .agg ⟨[.int .u64 zf, .int .i64 zk, .int .i64 zm]⟩) 208 rfl rfl rfl rfl (fun ids H' fr => opD_index rfl (evV_eq _ _ _ _ _ rfl) (evV_eq _ _ _ _ _ rfl) (by rfl)) rfl ?_
     refine WJ.adv 1 rfl ?_
     refine WJ.liftS (loc := []) rfl rfl (fun bv2 => ?_)
     refine WJ.sb 200 (j := 2) rfl rfl rfl rfl rfl rfl rfl rfl rfl rfl ?_
     refine WJ.hd (v := .int .u64 zf) 205 rfl rfl rfl rfl (fun ids H' fr => opD_load rfl (evV_eq _ _ _ _ _ rfl) (fr.ldOwn (j := 2) rfl rfl)) rfl ?_
     refine WJ.ci 200 hp rfl rfl rfl rfl rfl rfl rfl rfl rfl (fun hc23u1 hp => ?_) (fun hc23u1 hp => ?_)
     ·obtain rfl := endS (show some _ = some r from hp)
      exact WJ.rt 214 rfl rfl rfl (fun ids H' fr => ⟨fr.ext0, rfl⟩)
     ·refine WJ.hd (v := .int .u64 zf) 202 rfl rfl rfl rfl (fun ids H' fr => opD_load rfl (evV_eq _ _ _ _ _ rfl) (fr.ldOwn (j := 2) rfl rfl)) rfl ?_
      refine WJ.cn 202 hp rfl rfl rfl rfl rfl rfl rfl rfl rfl (fun hc29u1 hp => ?_) (fun hc29u1 hp => ?_)
      ·obtain rfl := endS (show some _ = some r from hp)
       exact WJ.rt 208 rfl rfl rfl (fun ids H' fr => ⟨fr.ext0, rfl⟩)
      ·refine WJ.hd (v := .int .u64 zf) 207 rfl rfl rfl rfl (fun ids H' fr => opD_load rfl (evV_eq _ _ _ _ _ rfl) (fr.ldOwn (j := 2) rfl rfl)) rfl ?_
       refine WJ.hd (v := .int .i64 zk) 201 rfl rfl rfl rfl (fun ids H' fr => opD_load rfl (evV_eq _ _ _ _ _ rfl) (fr.ldOwn (j := 2) rfl rfl)) rfl ?_
       obtain ⟨t36u1, e36u1, hp⟩ := bindS hp
       refine WJ.cl 200 (R := R_4 t36u1) (fun hm h k => R_4.mono hm h k) rfl (fun ids H' fr => f60_ok e36u1) ?_
       rintro v B4 ⟨abB4, ivB4⟩ rfl
       refine ⟨_, rfl, ?_⟩
       replace z6 := z6.mono (Nat.le_refl _) (abB4.le (Nat.zero_le _))
       replace z7 := z7.mono (Nat.le_refl _) (abB4.le (Nat.zero_le _))
       replace z5 := z5.mono (Nat.le_refl _) (abB4.le (Nat.zero_le _))
       cases t36u1
       ·replace hp := (itS hp).2 Bool.false_ne_true
        obtain rfl := endS (show some _ = some r from hp)
        exact WJ.rt 214 rfl rfl rfl (fun ids H' fr => ⟨fr.ext0, rfl⟩)
       ·replace hp := (itS hp).1 rfl
        refine WJ.hd (v := .int .i64 zm) 203 rfl rfl rfl rfl (fun ids H' fr => opD_load rfl (evV_eq _ _ _ _ _ rfl) (fr.ldOwn (j := 2) rfl rfl)) rfl ?_
        obtain ⟨t41u1, e41u1, hp⟩ := bindS hp
        refine WJ.cl 200 (R := R_4 t41u1) (fun hm h k => R_4.mono hm h k) rfl (fun ids H' fr => f31_ok e41u1) ?_
        rintro v B5 ⟨abB5, ivB5⟩ rfl
        refine ⟨_, rfl, ?_⟩
        replace z6 := z6.mono (Nat.le_refl _) (abB5.le (Nat.zero_le _))
        replace z7 := z7.mono (Nat.le_refl _) (abB5.le (Nat.zero_le _))
        replace z5 := z5.mono (Nat.le_refl _) (abB5.le (Nat.zero_le _))
        cases t41u1
        ·replace hp := (itS hp).2 Bool.false_ne_true
         obtain rfl := endS (show some _ = some r from hp)
         exact WJ.rt 209 rfl rfl rfl (fun ids H' fr => ⟨fr.ext0, rfl⟩)
        ·replace hp := (itS hp).1 rfl
         refine WJ.ro 212 rfl ?_
         refine WJ.re (I := [(1, .v (.pointer (some ⟨bv0, 0, none⟩))), (3, .v (.int .u64 t12_0)), (16, .v (.agg ⟨[.int .u64 zb, .int .i64 zc, .int .i64 zg, .int .u64 zf, .int .i64 zk, .int .i64 zm, .int .u64 zl, .int .i64 zo, .int .i64 zp]⟩)), (17, .v (.int .i64 2))]) (O := [⟨some ⟨bv0, 0, none⟩, 25, 1, [.int .i64 zn, .slice zr zt.length zs, .int .i64 zy, .int .i64 zz, .int .i64 z0, .int .i64 z1, .int .i64 zv, .int .i64 zw, .int .i64 zx, .int .i64 zq, .int .i64 z2, .int .i64 z3, .int .i64 zu, .slice zd za.length ze, .int .u64 zb, .int .i64 zc, .int .i64 zg, .int .u64 zf, .int .i64 zk, .int .i64 zm, .int .u64 zl, .int .i64 zo, .int .i64 zp, .slice zi zh.length zj, .int .i64 z4]⟩, ⟨some ⟨bv1, 0, none⟩, 3, 1, [.int .u64 zb, .int .i64 zc, .int .i64 zg]⟩, ⟨some ⟨bv2, 0, none⟩, 3, 1, [.int .u64 zf, .int .i64 zk, .int .i64 zm]⟩]) ?_ (by exact ⟨rfl, rfl, rfl, rfl, trivial⟩) rfl
         refine WJ.cv 202 (b := true) (H0 := ⟨.nil, 0, 0⟩) rfl rfl rfl rfl rfl rfl rfl rfl ?_
         refine WJ.hd (v := .agg ⟨[.int .u64 zl, .int .i64 zo, .int .i64 zp]⟩) 208 rfl rfl rfl rfl (fun ids H' fr => opD_index rfl (evV_eq _ _ _ _ _ rfl) (evV_eq _ _ _ _ _ rfl) (by rfl)) rfl ?_
         refine WJ.adv 1 rfl ?_
         refine WJ.liftS (loc := []) rfl rfl (fun bv3 => ?_)
         refine WJ.sb 200 (j := 3) rfl rfl rfl rfl rfl rfl rfl rfl rfl rfl ?_
         refine WJ.hd (v := .int .u64 zl) 205 rfl rfl rfl rfl (fun ids H' fr => opD_load rfl (evV_eq _ _ _ _ _ rfl) (fr.ldOwn (j := 3) rfl rfl)) rfl ?_
         refine WJ.ci 200 hp rfl rfl rfl rfl rfl rfl rfl rfl rfl (fun hc23u2 hp => ?_) (fun hc23u2 hp => ?_)
         ·obtain rfl := endS (show some _ = some r from hp)
          exact WJ.rt 214 rfl rfl rfl (fun ids H' fr => ⟨fr.ext0, rfl⟩)
         ·refine WJ.hd (v := .int .u64 zl) 202 rfl rfl rfl rfl (fun ids H' fr => opD_load rfl (evV_eq _ _ _ _ _ rfl) (fr.ldOwn (j := 3) rfl rfl)) rfl ?_
          refine WJ.cn 202 hp rfl rfl rfl rfl rfl rfl rfl rfl rfl (fun hc29u2 hp => ?_) (fun hc29u2 hp => ?_)
          ·obtain rfl := endS (show some _ = some r from hp)
           exact WJ.rt 208 rfl rfl rfl (fun ids H' fr => ⟨fr.ext0, rfl⟩)
          ·refine WJ.hd (v := .int .u64 zl) 207 rfl rfl rfl rfl (fun ids H' fr => opD_load rfl (evV_eq _ _ _ _ _ rfl) (fr.ldOwn (j := 3) rfl rfl)) rfl ?_
           refine WJ.hd (v := .int .i64 zo) 201 rfl rfl rfl rfl (fun ids H' fr => opD_load rfl (evV_eq _ _ _ _ _ rfl) (fr.ldOwn (j := 3) rfl rfl)) rfl ?_
           obtain ⟨t36u2, e36u2, hp⟩ := bindS hp
           refine WJ.cl 200 (R := R_4 t36u2) (fun hm h k => R_4.mono hm h k) rfl (fun ids H' fr => f60_ok e36u2) ?_
           rintro v B6 ⟨abB6, ivB6⟩ rfl
           refine ⟨_, rfl, ?_⟩
           replace z6 := z6.mono (Nat.le_refl _) (abB6.le (Nat.zero_le _))
           replace z7 := z7.mono (Nat.le_refl _) (abB6.le (Nat.zero_le _))
           replace z5 := z5.mono (Nat.le_refl _) (abB6.le (Nat.zero_le _))
           cases t36u2
           ·replace hp := (itS hp).2 Bool.false_ne_true
            obtain rfl := endS (show some _ = some r from hp)
            exact WJ.rt 214 rfl rfl rfl (fun ids H' fr => ⟨fr.ext0, rfl⟩)
           ·replace hp := (itS hp).1 rfl
            refine WJ.hd (v := .int .i64 zp) 203 rfl rfl rfl rfl (fun ids H' fr => opD_load rfl (evV_eq _ _ _ _ _ rfl) (fr.ldOwn (j := 3) rfl rfl)) rfl ?_
            obtain ⟨t41u2, e41u2, hp⟩ := bindS hp
            refine WJ.cl 200 (R := R_4 t41u2) (fun hm h k => R_4.mono hm h k) rfl (fun ids H' fr => f31_ok e41u2) ?_
            rintro v B7 ⟨abB7, ivB7⟩ rfl
            refine ⟨_, rfl, ?_⟩
            replace z6 := z6.mono (Nat.le_refl _) (abB7.le (Nat.zero_le _))
            replace z7 := z7.mono (Nat.le_refl _) (abB7.le (Nat.zero_le _))
            replace z5 := z5.mono (Nat.le_refl _) (abB7.le (Nat.zero_le _))
            cases t41u2
            ·replace hp := (itS hp).2 Bool.false_ne_true
             obtain rfl := endS (show some _ = some r from hp)
             exact WJ.rt 209 rfl rfl rfl (fun ids H' fr => ⟨fr.ext0, rfl⟩)
            ·replace hp := (itS hp).1 rfl
             refine WJ.ro 212 rfl ?_
             refine WJ.re (I := [(1, .v (.pointer (some ⟨bv0, 0, none⟩))), (3, .v (.int .u64 t12_0)), (16, .v (.agg ⟨[.int .u64 zb, .int .i64 zc, .int .i64 zg, .int .u64 zf, .int .i64 zk, .int .i64 zm, .int .u64 zl, .int .i64 zo, .int .i64 zp]⟩)), (17, .v (.int .i64 3))]) (O := [⟨some ⟨bv0, 0, none⟩, 25, 1, [.int .i64 zn, .slice zr zt.length zs, .int .i64 zy, .int .i64 zz, .int .i64 z0, .int .i64 z1, .int .i64 zv, .int .i64 zw, .int .i64 zx, .int .i64 zq, .int .i64 z2, .int .i64 z3, .int .i64 zu, .slice zd za.length ze, .int .u64 zb, .int .i64 zc, .int .i64 zg, .int .u64 zf, .int .i64 zk, .int .i64 zm, .int .u64 zl, .int .i64 zo, .int .i64 zp, .slice zi zh.length zj, .int .i64 z4]⟩, ⟨some ⟨bv1, 0, none⟩, 3, 1, [.int .u64 zb, .int .i64 zc, .int .i64 zg]⟩, ⟨some ⟨bv2, 0, none⟩, 3, 1, [.int .u64 zf, .int .i64 zk, .int .i64 zm]⟩, ⟨some ⟨bv3, 0, none⟩, 3, 1, [.int .u64 zl, .int .i64 zo, .int .i64 zp]⟩]) ?_ (by exact ⟨rfl, rfl, rfl, rfl, trivial⟩) rfl
             refine WJ.cv 202 (b := false) (H0 := ⟨.nil, 0, 0⟩) rfl rfl rfl rfl rfl rfl rfl rfl ?_
             refine WJ.hd (v := .slice zi zh.length zj) 208 rfl rfl rfl rfl (fun ids H' fr => opD_load rfl (evV_eq _ _ _ _ _ rfl) (fr.ldOwn (j := 0) rfl rfl)) rfl ?_
             refine WJ.ci 201 hp rfl rfl rfl rfl rfl rfl rfl rfl rfl (fun hc48 hp => ?_) (fun hc48 hp => ?_)
             ·obtain rfl := endS (show some _ = some r from hp)
              exact WJ.rt 206 rfl rfl rfl (fun ids H' fr => ⟨fr.ext0, rfl⟩)
             ·refine WJ.hd (v := .slice zi zh.length zj) 207 rfl rfl rfl rfl (fun ids H' fr => opD_load rfl (evV_eq _ _ _ _ _ rfl) (fr.ldOwn (j := 0) rfl rfl)) rfl ?_
              refine WJ.adv 4 rfl ?_
              obtain ⟨K2, hK2, hp⟩ : ∃ K, K = _ ∧ Option.bind _ K = some r := ⟨_, rfl, cutS hp⟩
              refine WJ.cut 2 (α := Hp) (fun y => []) (fun y => []) (fun y => [⟨some ⟨bv0, 0, none⟩, 25, 1, [.int .i64 zn, .slice zr zt.length zs, .int .i64 zy, .int .i64 zz, .int .i64 z0, .int .i64 z1, .int .i64 zv, .int .i64 zw, .int .i64 zx, .int .i64 zq, .int .i64 z2, .int .i64 z3, .int .i64 zu, .slice zd za.length ze, .int .u64 zb, .int .i64 zc, .int .i64 zg, .int .u64 zf, .int .i64 zk, .int .i64 zm, .int .u64 zl, .int .i64 zo, .int .i64 zp, .slice zi zh.length zj, .int .i64 z4]⟩, ⟨some ⟨bv1, 0, none⟩, 3, 1, [.int .u64 zb, .int .i64 zc, .int .i64 zg]⟩, ⟨some ⟨bv2, 0, none⟩, 3, 1, [.int .u64 zf, .int .i64 zk, .int .i64 zm]⟩, ⟨some ⟨bv3, 0, none⟩, 3, 1, [.int .u64 zl, .int .i64 zo, .int .i64 zp]⟩]) (fun y => y) (fun y => K2 (Sum.inl ()) = some r ∧ SlF 0 y intC zr zs zt ∧ SlF 0 y (slC intC) zd ze za ∧ SlF 0 y intC zi zj zh) ?_ (fun j2 => ?_)
              ·rintro B10 ⟨hp, z6, z7, z5⟩
               subst hK2
               show WJ _ _ _ B10 [⟨some ⟨bv0, 0, none⟩, 25, 1, [.int .i64 zn, .slice zr zt.length zs, .int .i64 zy, .int .i64 zz, .int .i64 z0, .int .i64 z1, .int .i64 zv, .int .i64 zw, .int .i64 zx, .int .i64 zq, .int .i64 z2, .int .i64 z3, .int .i64 zu, .slice zd za.length ze, .int .u64 zb, .int .i64 zc, .int .i64 zg, .int .u64 zf, .int .i64 zk, .int .i64 zm, .int .u64 zl, .int .i64 zo, .int .i64 zp, .slice zi zh.length zj, .int .i64 z4]⟩, ⟨some ⟨bv1, 0, none⟩, 3, 1, [.int .u64 zb, .int .i64 zc, .int .i64 zg]⟩, ⟨some ⟨bv2, 0, none⟩, 3, 1, [.int .u64 zf, .int .i64 zk, .int .i64 zm]⟩, ⟨some ⟨bv3, 0, none⟩, 3, 1, [.int .u64 zl, .int .i64 zo, .int .i64 zp]⟩] _ _ ⟨[], [], true, 0⟩
               obtain rfl := endS (show some _ = some r from hp)
               exact WJ.rt 204 rfl rfl rfl (fun ids H' fr => ⟨fr.ext0, rfl⟩)
              ·refine WJ.lp 200 (α := Nat × Int × Hp) (fun y => [(1, .v (.pointer (some ⟨bv0, 0, none⟩))), (50, .v (.slice zi zh.length zj)), (51, .v (.int .i64 ((zh.length : Nat) : Int))), (52, .v (.int .i64 y.2.1))]) (fun y => []) (fun y => [⟨some ⟨bv0, 0, none⟩, 25, 1, [.int .i64 zn, .slice zr zt.length zs, .int .i64 zy, .int .i64 zz, .int .i64 z0, .int .i64 z1, .int .i64 zv, .int .i64 zw, .int .i64 zx, .int .i64 zq, .int .i64 z2, .int .i64 z3, .int .i64 zu, .slice zd za.length ze, .int .u64 zb, .int .i64 zc, .int .i64 zg, .int .u64 zf, .int .i64 zk, .int .i64 zm, .int .u64 zl, .int .i64 zo, .int .i64 zp, .slice zi zh.length zj, .int .i64 z4]⟩, ⟨some ⟨bv1, 0, none⟩, 3, 1, [.int .u64 zb, .int .i64 zc, .int .i64 zg]⟩, ⟨some ⟨bv2, 0, none⟩, 3, 1, [.int .u64 zf, .int .i64 zk, .int .i64 zm]⟩, ⟨some ⟨bv3, 0, none⟩, 3, 1, [.int .u64 zl, .int .i64 zo, .int .i64 zp]⟩]) (fun y => y.2.2) (fun y => y.1) (fun y => Option.bind (f50_l1 zh y.1 y.2.1) K2 = some r ∧ SlF 0 y.2.2 intC zr zs zt ∧ SlF 0 y.2.2 (slC intC) zd ze za ∧ SlF 0 y.2.2 intC zi zj zh) (k, 0, B7) rfl ⟨hp, z6, z7, z5⟩ (by exact ⟨rfl, rfl, rfl, rfl, trivial⟩) rfl rfl rfl ?_
               rintro ⟨n, zak, B8⟩ ⟨hp, z6, z7, z5⟩ ih2
               show WJ _ _ _ B8 [⟨some ⟨bv0, 0, none⟩, 25, 1, [.int .i64 zn, .slice zr zt.length zs, .int .i64 zy, .int .i64 zz, .int .i64 z0, .int .i64 z1, .int .i64 zv, .int .i64 zw, .int .i64 zx, .int .i64 zq, .int .i64 z2, .int .i64 z3, .int .i64 zu, .slice zd za.length ze, .int .u64 zb, .int .i64 zc, .int .i64 zg, .int .u64 zf, .int .i64 zk, .int .i64 zm, .int .u64 zl, .int .i64 zo, .int .i64 zp, .slice zi zh.length zj, .int .i64 z4]⟩, ⟨some ⟨bv1, 0, none⟩, 3, 1, [.int .u64 zb, .int .i64 zc, .int .i64 zg]⟩, ⟨some ⟨bv2, 0, none⟩, 3, 1, [.int .u64 zf, .int .i64 zk, .int .i64 zm]⟩, ⟨some ⟨bv3, 0, none⟩, 3, 1, [.int .u64 zl, .int .i64 zo, .int .i64 zp]⟩] _ _ ⟨[(1, .v (.pointer (some ⟨bv0, 0, none⟩))), (50, .v (.slice zi zh.length zj)), (51, .v (.int .i64 ((zh.length : Nat) : Int))), (52, .v (.int .i64 zak))], [], true, 0⟩
               replace hp : Option.bind (f50_l1 zh n zak) K2 = some r := hp
               cases n with
               | zero => rw [f50_l1] at hp; exact (noS hp).elim
               | succ n =>
                rw [f50_l1] at hp
                obtain ⟨t53, e53, hp⟩ := bindS hp
                refine WJ.cv 202 (b := t53) (H0 := ⟨.nil, 0, 0⟩) rfl rfl rfl rfl rfl rfl (by rw [← endS e53]; exact rfl) rfl ?_
                cases t53
                ·replace hp := (itS hp).2 Bool.false_ne_true
                 exact WJ.goto 4 (j2 B8 ⟨hp, z6, z7, z5⟩) rfl rfl (by exact trivial) rfl rfl rfl
                ·replace hp := (itS hp).1 rfl
                 obtain ⟨t55, e55, hp⟩ := bindS hp
                 obtain ⟨b55, o55, cs55, i55, rfl, p55⟩ := z5.at e55 u22 sz3
                 refine WJ.hd (v := .pointer (some ⟨b55, o55, none⟩)) 209 rfl rfl rfl rfl (fun ids H' fr => opD_indexAddr rfl (evV_eq _ _ _ _ _ rfl) (evV_eq _ _ _ _ _ rfl) (i55 _)) rfl ?_
                 refine WJ.hd (v := .int .i64 t55) 200 rfl rfl rfl rfl (fun ids H' fr => opD_load rfl (evV_eq _ _ _ _ _ rfl) ((p55.mono (Nat.zero_le _) (fr.abv.le (Nat.zero_le _))).load (d := 0) ag3 rfl)) rfl ?_
                 obtain ⟨t58, e58, hp⟩ := bindS hp
                 refine WJ.cl 207 (R := R_4 t58) (fun hm h k => R_4.mono hm h k) rfl (fun ids H' fr => f31_ok e58) ?_
                 rintro v B9 ⟨abB9, ivB9⟩ rfl
                 refine ⟨_, rfl, ?_⟩
                 replace z6 := z6.mono (Nat.le_refl _) (abB9.le (Nat.zero_le _))
                 replace z7 := z7.mono (Nat.le_refl _) (abB9.le (Nat.zero_le _))
                 replace z5 := z5.mono (Nat.le_refl _) (abB9.le (Nat.zero_le _))
                 replace p55 := p55.mono (Nat.le_refl _) (abB9.le (Nat.zero_le _))
                 cases t58
                 ·replace hp := (itS hp).2 Bool.false_ne_true
                  subst hK2
                  obtain rfl := endS (show some _ = some r from hp)
                  exact WJ.rt 207 rfl rfl rfl (fun ids H' fr => ⟨fr.ext0, rfl⟩)
                 ·replace hp := (itS hp).1 rfl
                  refine WJ.adv 5 rfl ?_
                  obtain ⟨K3, hK3, hp⟩ : ∃ K, K = _ ∧ Option.bind _ K = some r := ⟨_, rfl, cutS hp⟩
                  refine WJ.cut 3 (α := Unit) (fun y => [(1, .v (.pointer (some ⟨bv0, 0, none⟩))), (50, .v (.slice zi zh.length zj)), (51, .v (.int .i64 ((zh.length : Nat) : Int))), (52, .v (.int .i64 zak))]) (fun y => []) (fun y => [⟨some ⟨bv0, 0, none⟩, 25, 1, [.int .i64 zn, .slice zr zt.length zs, .int .i64 zy, .int .i64 zz, .int .i64 z0, .int .i64 z1, .int .i64 zv, .int .i64 zw, .int .i64 zx, .int .i64 zq, .int .i64 z2, .int .i64 z3, .int .i64 zu, .slice zd za.length ze, .int .u64 zb, .int .i64 zc, .int .i64 zg, .int .u64 zf, .int .i64 zk, .int .i64 zm, .int .u64 zl, .int .i64 zo, .int .i64 zp, .slice zi zh.length zj, .int .i64 z4]⟩, ⟨some ⟨bv1, 0, none⟩, 3, 1, [.int .u64 zb, .int .i64 zc, .int .i64 zg]⟩, ⟨some ⟨bv2, 0, none⟩, 3, 1, [.int .u64 zf, .int .i64 zk, .int .i64 zm]⟩, ⟨some ⟨bv3, 0, none⟩, 3, 1, [.int .u64 zl, .int .i64 zo, .int .i64 zp]⟩]) (fun y => B9) (fun y => K3 ((Sum.inr ())) = some r) ?_ (fun j3 => ?_)
                  ·rintro u hp
                   subst hK3
                   show WJ _ _ _ B9 [⟨some ⟨bv0, 0, none⟩, 25, 1, [.int .i64 zn, .slice zr zt.length zs, .int .i64 zy, .int .i64 zz, .int .i64 z0, .int .i64 z1, .int .i64 zv, .int .i64 zw, .int .i64 zx, .int .i64 zq, .int .i64 z2, .int .i64 z3, .int .i64 zu, .slice zd za.length ze, .int .u64 zb, .int .i64 zc, .int .i64 zg, .int .u64 zf, .int .i64 zk, .int .i64 zm, .int .u64 zl, .int .i64 zo, .int .i64 zp, .slice zi zh.length zj, .int .i64 z4]⟩, ⟨some ⟨bv1, 0, none⟩, 3, 1, [.int .u64 zb, .int .i64 zc, .int .i64 zg]⟩, ⟨some ⟨bv2, 0, none⟩, 3, 1, [.int .u64 zf, .int .i64 zk, .int .i64 zm]⟩, ⟨some ⟨bv3, 0, none⟩, 3, 1, [.int .u64 zl, .int .i64 zo, .int .i64 zp]⟩] _ _ ⟨[(1, .v (.pointer (some ⟨bv0, 0, none⟩))), (50, .v (.slice zi zh.length zj)), (51, .v (.int .i64 ((zh.length : Nat) : Int))), (52, .v (.int .i64 zak))], [], true, 0⟩
                   exact WJ.ag 204 rfl (by exact ⟨rfl, rfl, rfl, rfl, trivial⟩) rfl rfl rfl (ih2 (n, IntKind.i64.wrap (zak + 1), B9) ⟨hp, z6, z7, z5⟩ (Nat.lt_succ_self _))
                  ·refine WJ.ci 202 hp rfl rfl rfl rfl rfl rfl rfl rfl rfl (fun hc61 hp => ?_) (fun hc61 hp => ?_)
                   ·refine WJ.hd (v := .slice zi zh.length zj) 203 rfl rfl rfl rfl (fun ids H' fr => opD_load rfl (evV_eq _ _ _ _ _ rfl) (fr.ldOwn (j := 0) rfl rfl)) rfl ?_
                    obtain ⟨t68, e68, hp⟩ := bindS hp
                    obtain ⟨b68, o68, cs68, i68, rfl, p68⟩ := z5.at e68 u22 sz3
                    refine WJ.hd (v := .pointer (some ⟨b68, o68, none⟩)) 202 rfl rfl rfl rfl (fun ids H' fr => opD_indexAddr rfl (evV_eq _ _ _ _ _ rfl) (evV_eq _ _ _ _ _ rfl) (i68 _)) rfl ?_
                    refine WJ.hd (v := .int .i64 t68) 200 rfl rfl rfl rfl (fun ids H' fr => opD_load rfl (evV_eq _ _ _ _ _ rfl) ((p68.mono (Nat.zero_le _) (fr.abv.le (Nat.zero_le _))).load (d := 0) ag3 rfl)) rfl ?_
                    refine WJ.ci 200 hp rfl rfl rfl rfl rfl rfl rfl rfl rfl (fun hc70 hp => ?_) (fun hc70 hp => ?_)
                    ·subst hK3
                     subst hK2
                     obtain rfl := endS (show some _ = some r from hp)
                     exact WJ.rt 207 rfl rfl rfl (fun ids H' fr => ⟨fr.ext0, rfl⟩)
                    ·exact WJ.goto 5 (j3 () hp) rfl rfl (by exact ⟨rfl, rfl, rfl, rfl, trivial⟩) rfl rfl rfl
                   ·exact WJ.goto 14 (j3 () hp) rfl rfl (by exact ⟨rfl, rfl, rfl, rfl, trivial⟩) rfl rfl rfl
/-! 32 tipstaff/config.lists -/
def f32_l4 (t53 : List Int) : Nat → Int → Option ((Unit) ⊕ (Int))
 | 0, _ => none
 | n + 1, x57 =>
  (some (decide (x57 < (t53.length : Int)))).bind fun t58 =>
  if t58 then
   (rd t53 x57).bind fun t59 =>
   (f31 t59 0 3).bind fun t62 =>
   if t62 then
    f32_l4 t53 n (IntKind.i64.wrap (x57 + 1))
   else
    some (Sum.inr (2 : Int))
  else
   some (Sum.inl ())
def f32_l3 (k : Nat) (za : List (List Int)) : Nat → Int → Option ((Unit) ⊕ (Int))
 | 0, _ => none
 | n + 1, x51 =>
  (some (decide (x51 < (za.length : Int)))).bind fun t52 =>
  if t52 then
   (rd za x51).bind fun t53 =>
   (f32_l4 t53 k 0).bind fun s => match s with
    | .inl _ => 
     f32_l3 k za n (IntKind.i64.wrap (x51 + 1))
    | .inr st => some (Sum.inr st)
  else
   some (Sum.inl ())
def f32_l2 (za : List (List Int)) (zu : Int) : Nat → Int → Option ((Unit) ⊕ (Int))
 | 0, _ => none
 | n + 1, x38 =>
  (some (decide (x38 < (za.length : Int)))).bind fun t39 =>
  if t39 then
   (rd za x38).bind fun t40 =>
   if (t40.length : Int) = zu then
    f32_l2 za zu n (IntKind.i64.wrap (x38 + 1))
   else
    some (Sum.inr (3 : Int))
  else
   some (Sum.inl ())
def f32_l1 (zt : List Int) : Nat → Int → Option ((Unit) ⊕ (Int))
 | 0, _ => none
 | n + 1, x21 =>
  (some (decide (x21 < (zt.length : Int)))).bind fun t22 =>
  if t22 then
   (rd zt x21).bind fun t23 =>
   (f31 t23 1 1000).bind fun t26 =>
   if t26 then
    f32_l1 zt n (IntKind.i64.wrap (x21 + 1))
   else
    some (Sum.inr (2 : Int))
  else
   some (Sum.inl ())
def f32 (k : Nat) (x0 : Config) : Option Int :=
 if (x0.Gaps.length : Int) = (IntKind.i64.wrap (x0.Floors - 1)) then
  (f32_l1 x0.Gaps k 0).bind fun s => match s with
   | .inl _ => 
    if (x0.Rota.length : Int) = x0.Cars then
     (f32_l2 x0.Rota x0.Slots k 0).bind fun s => match s with
      | .inl _ => 
       (f32_l3 k x0.Rota k 0).bind fun s => match s with
        | .inl _ => 
         (f50 k x0).bind fun t67 =>
         some t67
        | .inr st => some st
      | .inr st => some st
    else
     some 3
   | .inr st => some st
 else
  some 3
set_option maxHeartbeats 40000000 in
set_option maxRecDepth 20000 in
theorem f32_ok {k : Nat} {H : Hp} {zr : Option Addr} {zs : Nat} {zd : Option Addr} {ze : Nat} {zi : Option Addr} {zj : Nat} {x0 : Config} {r : Int} (z8 : SlF 0 H intC zr zs x0.Gaps) (z9 : SlF 0 H (slC intC) zd ze x0.Rota) (zaa : SlF 0 H intC zi zj x0.Keys) (hp : f32 k x0 = some r) :
  SCall Tryd.prog 32 [.agg ⟨[.int .i64 x0.Floors, .slice zr x0.Gaps.length zs, .int .i64 x0.Cars, .int .i64 x0.Speed, .int .i64 x0.Brake, .int .i64 x0.Tol, .int .i64 x0.Width, .int .i64 x0.Dwell, .int .i64 x0.Retries, .int .i64 x0.Empty, .int .i64 x0.Full, .int .i64 x0.Trips, .int .i64 x0.Slots, .slice zd x0.Rota.length ze, .int .u64 x0.Rules_0_Mask, .int .i64 x0.Rules_0_Home, .int .i64 x0.Rules_0_Calls, .int .u64 x0.Rules_1_Mask, .int .i64 x0.Rules_1_Home, .int .i64 x0.Rules_1_Calls, .int .u64 x0.Rules_2_Mask, .int .i64 x0.Rules_2_Home, .int .i64 x0.Rules_2_Calls, .slice zi x0.Keys.length zj, .int .i64 x0.Life]⟩] H (Ret fun v H' => Ext H H' ∧ R_35 r H.next H' v) := by
 obtain ⟨zn, zt, zy, zz, z0, z1, zv, zw, zx, zq, z2, z3, zu, za, zb, zc, zg, zf, zk, zm, zl, zo, zp, zh, z4⟩ := x0
 unfold f32 at hp
 replace hp := topS hp
 refine SCall.g Tryd.func32 rfl rfl rfl rfl rfl (l := [(0, .v (.agg ⟨[.int .i64 zn, .slice zr zt.length zs, .int .i64 zy, .int .i64 zz, .int .i64 z0, .int .i64 z1, .int .i64 zv, .int .i64 zw, .int .i64 zx, .int .i64 zq, .int .i64 z2, .int .i64 z3, .int .i64 zu, .slice zd za.length ze, .int .u64 zb, .int .i64 zc, .int .i64 zg, .int .u64 zf, .int .i64 zk, .int .i64 zm, .int .u64 zl, .int .i64 zo, .int .i64 zp, .slice zi zh.length zj, .int .i64 z4]⟩))]) (fun _ => rfl) (fun B abB => ?_)
 refine WJ.cn 214 hp rfl rfl rfl rfl rfl rfl rfl rfl rfl (fun hc17 hp => ?_) (fun hc17 hp => ?_)
 ·obtain rfl := endS (show some _ = some r from hp)
  exact WJ.rt 206 rfl rfl rfl (fun ids H' fr => ⟨fr.ext0, rfl⟩)
 ·refine WJ.adv 12 rfl ?_
  obtain ⟨K4, hK4, hp⟩ : ∃ K, K = _ ∧ Option.bind _ K = some r := ⟨_, rfl, cutS hp⟩
  refine WJ.cut 2 (α := Hp) (fun y => [(1, .p 0 0)]) (fun y => [[.int .i64 zn, .slice zr zt.length zs, .int .i64 zy, .int .i64 zz, .int .i64 z0, .int .i64 z1, .int .i64 zv, .int .i64 zw, .int .i64 zx, .int .i64 zq, .int .i64 z2, .int .i64 z3, .int .i64 zu, .slice zd za.length ze, .int .u64 zb, .int .i64 zc, .int .i64 zg, .int .u64 zf, .int .i64 zk, .int .i64 zm, .int .u64 zl, .int .i64 zo, .int .i64 zp, .slice zi zh.length zj, .int .i64 z4]]) (fun y => []) (fun y => y) (fun y => K4 (Sum.inl ()) = some r) ?_ (fun j4 => ?_)
  ·rintro B3 hp
   subst hK4
   show WJ _ _ _ B3 [] _ _ ⟨[(1, .p 0 0)], [[.int .i64 zn, .slice zr zt.length zs, .int .i64 zy, .int .i64 zz, .int .i64 z0, .int .i64 z1, .int .i64 zv, .int .i64 zw, .int .i64 zx, .int .i64 zq, .int .i64 z2, .int .i64 z3, .int .i64 zu, .slice zd za.length ze, .int .u64 zb, .int .i64 zc, .int .i64 zg, .int .u64 zf, .int .i64 zk, .int .i64 zm, .int .u64 zl, .int .i64 zo, .int .i64 zp, .slice zi zh.length zj, .int .i64 z4]], true, 0⟩
   refine WJ.cn 208 hp rfl rfl rfl rfl rfl rfl rfl rfl rfl (fun hc34 hp => ?_) (fun hc34 hp => ?_)
   ·obtain rfl := endS (show some _ = some r from hp)
    exact WJ.rt 206 rfl rfl rfl (fun ids H' fr => ⟨fr.ext0, rfl⟩)
   ·refine WJ.adv 12 rfl ?_
    obtain ⟨K5, hK5, hp⟩ : ∃ K, K = _ ∧ Option.bind _ K = some r := ⟨_, rfl, cutS hp⟩
    refine WJ.cut 2 (α := Unit) (fun y => [(1, .p 0 0)]) (fun y => [[.int .i64 zn, .slice zr zt.length zs, .int .i64 zy, .int .i64 zz, .int .i64 z0, .int .i64 z1, .int .i64 zv, .int .i64 zw, .int .i64 zx, .int .i64 zq, .int .i64 z2, .int .i64 z3, .int .i64 zu, .slice zd za.length ze, .int .u64 zb, .int .i64 zc, .int .i64 zg, .int .u64 zf, .int .i64 zk, .int .i64 zm, .int .u64 zl, .int .i64 zo, .int .i64 zp, .slice zi zh.length zj, .int .i64 z4]]) (fun y => []) (fun y => B3) (fun y => K5 (Sum.inl ()) = some r) ?_ (fun j5 => ?_)
    ·rintro u hp
     subst hK5
     show WJ _ _ _ B3 [] _ _ ⟨[(1, .p 0 0)], [[.int .i64 zn, .slice zr zt.length zs, .int .i64 zy, .int .i64 zz, .int .i64 z0, .int .i64 z1, .int .i64 zv, .int .i64 zw, .int .i64 zx, .int .i64 zq, .int .i64 z2, .int .i64 z3, .int .i64 zu, .slice zd za.length ze, .int .u64 zb, .int .i64 zc, .int .i64 zg, .int .u64 zf, .int .i64 zk, .int .i64 zm, .int .u64 zl, .int .i64 zo, .int .i64 zp, .slice zi zh.length zj, .int .i64 z4]], true, 0⟩
     refine WJ.adv 9 rfl ?_
     obtain ⟨K6, hK6, hp⟩ : ∃ K, K = _ ∧ Option.bind _ K = some r := ⟨_, rfl, cutS hp⟩
     refine WJ.cut 2 (α := Hp) (fun y => [(1, .p 0 0)]) (fun y => [[.int .i64 zn, .slice zr zt.length zs, .int .i64 zy, .int .i64 zz, .int .i64 z0, .int .i64 z1, .int .i64 zv, .int .i64 zw, .int .i64 zx, .int .i64 zq, .int .i64 z2, .int .i64 z3, .int .i64 zu, .slice zd za.length ze, .int .u64 zb, .int .i64 zc, .int .i64 zg, .int .u64 zf, .int .i64 zk, .int .i64 zm, .int .u64 zl, .int .i64 zo, .int .i64 zp, .slice zi zh.length zj, .int .i64 z4]]) (fun y => []) (fun y => y) (fun y => K6 (Sum.inl ()) = some r) ?_ (fun j6 => ?_)
     ·rintro B8 hp
      subst hK6
      show WJ _ _ _ B8 [] _ _ ⟨[(1, .p 0 0)], [[.int .i64 zn, .slice zr zt.length zs, .int .i64 zy, .int .i64 zz, .int .i64 z0, .int .i64 z1, .int .i64 zv, .int .i64 zw, .int .i64 zx, .int .i64 zq, .int .i64 z2, .int .i64 z3, .int .i64 zu, .slice zd za.length ze, .int .u64 zb, .int .i64 zc, .int .i64 zg, .int .u64 zf, .int .i64 zk, .int .i64 zm, .int .u64 zl, .int .i64 zo, .int .i64 zp, .slice zi zh.length zj, .int .i64 z4]], true, 0⟩
      obtain ⟨t67, e67, hp⟩ := bindS hp
      refine WJ.cl 203 (R := R_35 t67) (fun hm h k => R_35.mono hm h k) rfl (fun ids H' fr => f50_ok (x0 := (Config.mk zn zt zy zz z0 z1 zv zw zx zq z2 z3 zu za zb zc zg zf zk zm zl zo zp zh z4)) (z8.mono (Nat.zero_le _) fr.ext0.abv) (z9.mono (Nat.zero_le _) fr.ext0.abv) (zaa.mono (Nat.zero_le _) fr.ext0.abv) e67) ?_
      rintro v B9 ⟨abB9, ivB9⟩ rfl
      refine ⟨_, rfl, ?_⟩
      obtain rfl := endS (show some _ = some r from hp)
      exact WJ.rt 202 rfl rfl rfl (fun ids H' fr => ⟨fr.ext0, rfl⟩)
     ·refine WJ.lp 200 (α := Nat × Int × Hp) (fun y => [(1, .p 0 0), (49, .v (.slice zd za.length ze)), (50, .v (.int .i64 ((za.length : Nat) : Int))), (51, .v (.int .i64 y.2.1))]) (fun y => [[.int .i64 zn, .slice zr zt.length zs, .int .i64 zy, .int .i64 zz, .int .i64 z0, .int .i64 z1, .int .i64 zv, .int .i64 zw, .int .i64 zx, .int .i64 zq, .int .i64 z2, .int .i64 z3, .int .i64 zu, .slice zd za.length ze, .int .u64 zb, .int .i64 zc, .int .i64 zg, .int .u64 zf, .int .i64 zk, .int .i64 zm, .int .u64 zl, .int .i64 zo, .int .i64 zp, .slice zi zh.length zj, .int .i64 z4]]) (fun y => []) (fun y => y.2.2) (fun y => y.1) (fun y => Option.bind (f32_l3 k za y.1 y.2.1) K6 = some r) (k, 0, B3) rfl hp (by exact ⟨rfl, rfl, rfl, rfl, trivial⟩) rfl rfl rfl ?_
      rintro ⟨n, x51, B4⟩ hp ih6
      show WJ _ _ _ B4 [] _ _ ⟨[(1, .p 0 0), (49, .v (.slice zd za.length ze)), (50, .v (.int .i64 ((za.length : Nat) : Int))), (51, .v (.int .i64 x51))], [[.int .i64 zn, .slice zr zt.length zs, .int .i64 zy, .int .i64 zz, .int .i64 z0, .int .i64 z1, .int .i64 zv, .int .i64 zw, .int .i64 zx, .int .i64 zq, .int .i64 z2, .int .i64 z3, .int .i64 zu, .slice zd za.length ze, .int .u64 zb, .int .i64 zc, .int .i64 zg, .int .u64 zf, .int .i64 zk, .int .i64 zm, .int .u64 zl, .int .i64 zo, .int .i64 zp, .slice zi zh.length zj, .int .i64 z4]], true, 0⟩
      replace hp : Option.bind (f32_l3 k za n x51) K6 = some r := hp
      cases n with
      | zero => rw [f32_l3] at hp; exact (noS hp).elim
      | succ n =>
       rw [f32_l3] at hp
       obtain ⟨t52, e52, hp⟩ := bindS hp
       refine WJ.cv 202 (b := t52) (H0 := ⟨.nil, 0, 0⟩) rfl rfl rfl rfl rfl rfl (by rw [← endS e52]; exact rfl) rfl ?_
       cases t52
       ·replace hp := (itS hp).2 Bool.false_ne_true
        exact WJ.goto 4 (j6 B4 hp) rfl rfl (by exact ⟨rfl, trivial⟩) rfl rfl rfl
       ·replace hp := (itS hp).1 rfl
        obtain ⟨t53, e53, hp⟩ := bindS hp
        obtain ⟨b53, o53, cs53, i53, ⟨a_t53, c_t53, rfl, g_t53⟩, p53⟩ := z9.at e53 u23 sz22
        refine WJ.hd (v := .pointer (some ⟨b53, o53, none⟩)) 208 rfl rfl rfl rfl (fun ids H' fr => opD_indexAddr rfl (evV_eq _ _ _ _ _ rfl) (evV_eq _ _ _ _ _ rfl) (i53 _)) rfl ?_
        refine WJ.hd (v := .slice a_t53 t53.length c_t53) 200 rfl rfl rfl rfl (fun ids H' fr => opD_load rfl (evV_eq _ _ _ _ _ rfl) ((p53.mono (Nat.zero_le _) fr.ext0.abv).load (d := 0) ag22 rfl)) rfl ?_
        refine WJ.adv 9 rfl ?_
        obtain ⟨K7, hK7, hp⟩ : ∃ K, K = _ ∧ Option.bind _ K = some r := ⟨_, rfl, cutS hp⟩
        refine WJ.cut 3 (α := Hp) (fun y => [(1, .p 0 0), (49, .v (.slice zd za.length ze)), (50, .v (.int .i64 ((za.length : Nat) : Int))), (51, .v (.int .i64 x51))]) (fun y => [[.int .i64 zn, .slice zr zt.length zs, .int .i64 zy, .int .i64 zz, .int .i64 z0, .int .i64 z1, .int .i64 zv, .int .i64 zw, .int .i64 zx, .int .i64 zq, .int .i64 z2, .int .i64 z3, .int .i64 zu, .slice zd za.length ze, .int .u64 zb, .int .i64 zc, .int .i64 zg, .int .u64 zf, .int .i64 zk, .int .i64 zm, .int .u64 zl, .int .i64 zo, .int .i64 zp, .slice zi zh.length zj, .int .i64 z4]]) (fun y => []) (fun y => y) (fun y => K7 (Sum.inl ()) = some r) ?_ (fun j7 => ?_)
        ·rintro B7 hp
         subst hK7
         show WJ _ _ _ B7 [] _ _ ⟨[(1, .p 0 0), (49, .v (.slice zd za.length ze)), (50, .v (.int .i64 ((za.length : Nat) : Int))), (51, .v (.int .i64 x51))], [[.int .i64 zn, .slice zr zt.length zs, .int .i64 zy, .int .i64 zz, .int .i64 z0, .int .i64 z1, .int .i64 zv, .int .i64 zw, .int .i64 zx, .int .i64 zq, .int .i64 z2, .int .i64 z3, .int .i64 zu, .slice zd za.length ze, .int .u64 zb, .int .i64 zc, .int .i64 zg, .int .u64 zf, .int .i64 zk, .int .i64 zm, .int .u64 zl, .int .i64 zo, .int .i64 zp, .slice zi zh.length zj, .int .i64 z4]], true, 0⟩
         exact WJ.ag 204 rfl (by exact ⟨rfl, rfl, rfl, rfl, trivial⟩) rfl rfl rfl (ih6 (n, IntKind.i64.wrap (x51 + 1), B7) hp (Nat.lt_succ_self _))
        ·refine WJ.lp 200 (α := Nat × Int × Hp) (fun y => [(1, .p 0 0), (49, .v (.slice zd za.length ze)), (50, .v (.int .i64 ((za.length : Nat) : Int))), (51, .v (.int .i64 x51)), (55, .v (.slice a_t53 t53.length c_t53)), (56, .v (.int .i64 ((t53.length : Nat) : Int))), (57, .v (.int .i64 y.2.1))]) (fun y => [[.int .i64 zn, .slice zr zt.length zs, .int .i64 zy, .int .i64 zz, .int .i64 z0, .int .i64 z1, .int .i64 zv, .int .i64 zw, .int .i64 zx, .int .i64 zq, .int .i64 z2, .int .i64 z3, .int .i64 zu, .slice zd za.length ze, .int .u64 zb, .int .i64 zc, .int .i64 zg, .int .u64 zf, .int .i64 zk, .int .i64 zm, .int .u64 zl, .int .i64 zo, .int .i64 zp, .slice zi zh.length zj, .int .i64 z4]]) (fun y => []) (fun y => y.2.2) (fun y => y.1) (fun y => Option.bind (f32_l4 t53 y.1 y.2.1) K7 = some r) (k, 0, B4) rfl hp (by exact ⟨rfl, rfl, rfl, rfl, rfl, rfl, rfl, trivial⟩) rfl rfl rfl ?_
         rintro ⟨n7, x57, B5⟩ hp ih7
         show WJ _ _ _ B5 [] _ _ ⟨[(1, .p 0 0), (49, .v (.slice zd za.length ze)), (50, .v (.int .i64 ((za.length : Nat) : Int))), (51, .v (.int .i64 x51)), (55, .v (.slice a_t53 t53.length c_t53)), (56, .v (.int .i64 ((t53.length : Nat) : Int))), (57, .v (.int .i64 x57))], [[.int .i64 zn, .slice zr zt.length zs, .int .i64 zy, .int .i64 zz, .int .i64 z0, .int .i64 z1, .int .i64 zv, .int .i64 zw, .int .i64 zx, .int .i64 zq, .int .i64 z2, .int .i64 z3, .int .i64 zu, .slice zd za.length ze, .int .u64 zb, .int .i64 zc, .int .i64 zg, .int .u64 zf, .int .i64 zk, .int .i64 zm, .int .u64 zl, .int .i64 zo, .int .i64 zp, .slice zi zh.length zj, .int .i64 z4]], true, 0⟩
         replace hp : Option.bind (f32_l4 t53 n7 x57) K7 = some r := hp
         cases n7 with
         | zero => rw [f32_l4] at hp; exact (noS hp).elim
         | succ n7 =>
          rw [f32_l4] at hp
          obtain ⟨t58, e58, hp⟩ := bindS hp
          refine WJ.cv 202 (b := t58) (H0 := ⟨.nil, 0, 0⟩) rfl rfl rfl rfl rfl rfl (by rw [← endS e58]; exact rfl) rfl ?_
          cases t58
          ·replace hp := (itS hp).2 Bool.false_ne_true
           exact WJ.goto 5 (j7 B5 hp) rfl rfl (by exact ⟨rfl, rfl, rfl, rfl, trivial⟩) rfl rfl rfl
          ·replace hp := (itS hp).1 rfl
           obtain ⟨t59, e59, hp⟩ := bindS hp
           obtain ⟨b59, o59, cs59, i59, rfl, p59⟩ := g_t53.at e59 u22 sz3
           refine WJ.hd (v := .pointer (some ⟨b59, o59, none⟩)) 208 rfl rfl rfl rfl (fun ids H' fr => opD_indexAddr rfl (evV_eq _ _ _ _ _ rfl) (evV_eq _ _ _ _ _ rfl) (i59 _)) rfl ?_
           refine WJ.hd (v := .int .i64 t59) 200 rfl rfl rfl rfl (fun ids H' fr => opD_load rfl (evV_eq _ _ _ _ _ rfl) ((p59.mono (Nat.zero_le _) fr.ext0.abv).load (d := 0) ag3 rfl)) rfl ?_
           obtain ⟨t62, e62, hp⟩ := bindS hp
           refine WJ.cl 205 (R := R_4 t62) (fun hm h k => R_4.mono hm h k) rfl (fun ids H' fr => f31_ok e62) ?_
           rintro v B6 ⟨abB6, ivB6⟩ rfl
           refine ⟨_, rfl, ?_⟩
           cases t62
           ·replace hp := (itS hp).2 Bool.false_ne_true
            subst hK7
            subst hK6
            obtain rfl := endS (show some _ = some r from hp)
            exact WJ.rt 207 rfl rfl rfl (fun ids H' fr => ⟨fr.ext0, rfl⟩)
           ·replace hp := (itS hp).1 rfl
            exact WJ.ag 209 rfl (by exact ⟨rfl, rfl, rfl, rfl, rfl, rfl, rfl, trivial⟩) rfl rfl rfl (ih7 (n7, IntKind.i64.wrap (x57 + 1), B6) hp (Nat.lt_succ_self _))
    ·refine WJ.lp 200 (α := Nat × Int) (fun y => [(1, .p 0 0), (36, .v (.slice zd za.length ze)), (37, .v (.int .i64 ((za.length : Nat) : Int))), (38, .v (.int .i64 y.2))]) (fun y => [[.int .i64 zn, .slice zr zt.length zs, .int .i64 zy, .int .i64 zz, .int .i64 z0, .int .i64 z1, .int .i64 zv, .int .i64 zw, .int .i64 zx, .int .i64 zq, .int .i64 z2, .int .i64 z3, .int .i64 zu, .slice zd za.length ze, .int .u64 zb, .int .i64 zc, .int .i64 zg, .int .u64 zf, .int .i64 zk, .int .i64 zm, .int .u64 zl, .int .i64 zo, .int .i64 zp, .slice zi zh.length zj, .int .i64 z4]]) (fun y => []) (fun y => B3) (fun y => y.1) (fun y => Option.bind (f32_l2 za zu y.1 y.2) K5 = some r) (k, 0) rfl hp (by exact ⟨rfl, rfl, rfl, rfl, trivial⟩) rfl rfl rfl ?_
     rintro ⟨n, x38⟩ hp ih5
     show WJ _ _ _ B3 [] _ _ ⟨[(1, .p 0 0), (36, .v (.slice zd za.length ze)), (37, .v (.int .i64 ((za.length : Nat) : Int))), (38, .v (.int .i64 x38))], [[.int .i64 zn, .slice zr zt.length zs, .int .i64 zy, .int .i64 zz, .int .i64 z0, .int .i64 z1, .int .i64 zv, .int .i64 zw, .int .i64 zx, .int .i64 zq, .int .i64 z2, .int .i64 z3, .int .i64 zu, .slice zd za.length ze, .int .u64 zb, .int .i64 zc, .int .i64 zg, .int .u64 zf, .int .i64 zk, .int .i64 zm, .int .u64 zl, .int .i64 zo, .int .i64 zp, .slice zi zh.length zj, .int .i64 z4]], true, 0⟩
     replace hp : Option.bind (f32_l2 za zu n x38) K5 = some r := hp
     cases n with
     | zero => rw [f32_l2] at hp; exact (noS hp).elim
     | succ n =>
      rw [f32_l2] at hp
      obtain ⟨t39, e39, hp⟩ := bindS hp
      refine WJ.cv 202 (b := t39) (H0 := ⟨.nil, 0, 0⟩) rfl rfl rfl rfl rfl rfl (by rw [← endS e39]; exact rfl) rfl ?_
      cases t39
      ·replace hp := (itS hp).2 Bool.false_ne_true
       exact WJ.goto 4 (j5 () hp) rfl rfl (by exact ⟨rfl, trivial⟩) rfl rfl rfl
      ·replace hp := (itS hp).1 rfl
       obtain ⟨t40, e40, hp⟩ := bindS hp
       obtain ⟨b40, o40, cs40, i40, ⟨a_t40, c_t40, rfl, g_t40⟩, p40⟩ := z9.at e40 u23 sz22
       refine WJ.hd (v := .pointer (some ⟨b40, o40, none⟩)) 208 rfl rfl rfl rfl (fun ids H' fr => opD_indexAddr rfl (evV_eq _ _ _ _ _ rfl) (evV_eq _ _ _ _ _ rfl) (i40 _)) rfl ?_
       refine WJ.hd (v := .slice a_t40 t40.length c_t40) 200 rfl rfl rfl rfl (fun ids H' fr => opD_load rfl (evV_eq _ _ _ _ _ rfl) ((p40.mono (Nat.zero_le _) fr.ext0.abv).load (d := 0) ag22 rfl)) rfl ?_
       refine WJ.cn 208 hp rfl rfl rfl rfl rfl rfl rfl rfl rfl (fun hc46 hp => ?_) (fun hc46 hp => ?_)
       ·subst hK5
        obtain rfl := endS (show some _ = some r from hp)
        exact WJ.rt 206 rfl rfl rfl (fun ids H' fr => ⟨fr.ext0, rfl⟩)
       ·exact WJ.ag 208 rfl (by exact ⟨rfl, rfl, rfl, rfl, trivial⟩) rfl rfl rfl (ih5 (n, IntKind.i64.wrap (x38 + 1)) hp (Nat.lt_succ_self _))
  ·refine WJ.lp 200 (α := Nat × Int × Hp) (fun y => [(1, .p 0 0), (19, .v (.slice zr zt.length zs)), (20, .v (.int .i64 ((zt.length : Nat) : Int))), (21, .v (.int .i64 y.2.1))]) (fun y => [[.int .i64 zn, .slice zr zt.length zs, .int .i64 zy, .int .i64 zz, .int .i64 z0, .int .i64 z1, .int .i64 zv, .int .i64 zw, .int .i64 zx, .int .i64 zq, .int .i64 z2, .int .i64 z3, .int .i64 zu, .slice zd za.length ze, .int .u64 zb, .int .i64 zc, .int .i64 zg, .int .u64 zf, .int .i64 zk, .int .i64 zm, .int .u64 zl, .int .i64 zo, .int .i64 zp, .slice zi zh.length zj, .int .i64 z4]]) (fun y => []) (fun y => y.2.2) (fun y => y.1) (fun y => Option.bind (f32_l1 zt y.1 y.2.1) K4 = some r) (k, 0, B) rfl hp (by exact ⟨rfl, rfl, rfl, rfl, trivial⟩) rfl rfl rfl ?_
   rintro ⟨n, x21, B1⟩ hp ih4
   show WJ _ _ _ B1 [] _ _ ⟨[(1, .p 0 0), (19, .v (.slice zr zt.length zs)), (20, .v (.int .i64 ((zt.length : Nat) : Int))), (21, .v (.int .i64 x21))], [[.int .i64 zn, .slice zr zt.length zs, .int .i64 zy, .int .i64 zz, .int .i64 z0, .int .i64 z1, .int .i64 zv, .int .i64 zw, .int .i64 zx, .int .i64 zq, .int .i64 z2, .int .i64 z3, .int .i64 zu, .slice zd za.length ze, .int .u64 zb, .int .i64 zc, .int .i64 zg, .int .u64 zf, .int .i64 zk, .int .i64 zm, .int .u64 zl, .int .i64 zo, .int .i64 zp, .slice zi zh.length zj, .int .i64 z4]], true, 0⟩
   replace hp : Option.bind (f32_l1 zt n x21) K4 = some r := hp
   cases n with
   | zero => rw [f32_l1] at hp; exact (noS hp).elim
   | succ n =>
    rw [f32_l1] at hp
    obtain ⟨t22, e22, hp⟩ := bindS hp
    refine WJ.cv 202 (b := t22) (H0 := ⟨.nil, 0, 0⟩) rfl rfl rfl rfl rfl rfl (by rw [← endS e22]; exact rfl) rfl ?_
    cases t22
    ·replace hp := (itS hp).2 Bool.false_ne_true
     exact WJ.goto 4 (j4 B1 hp) rfl rfl (by exact ⟨rfl, trivial⟩) rfl rfl rfl
    ·replace hp := (itS hp).1 rfl
     obtain ⟨t23, e23, hp⟩ := bindS hp
     obtain ⟨b23, o23, cs23, i23, rfl, p23⟩ := z8.at e23 u22 sz3
     refine WJ.hd (v := .pointer (some ⟨b23, o23, none⟩)) 208 rfl rfl rfl rfl (fun ids H' fr => opD_indexAddr rfl (evV_eq _ _ _ _ _ rfl) (evV_eq _ _ _ _ _ rfl) (i23 _)) rfl ?_
     refine WJ.hd (v := .int .i64 t23) 200 rfl rfl rfl rfl (fun ids H' fr => opD_load rfl (evV_eq _ _ _ _ _ rfl) ((p23.mono (Nat.zero_le _) fr.ext0.abv).load (d := 0) ag3 rfl)) rfl ?_
     obtain ⟨t26, e26, hp⟩ := bindS hp
     refine WJ.cl 205 (R := R_4 t26) (fun hm h k => R_4.mono hm h k) rfl (fun ids H' fr => f31_ok e26) ?_
     rintro v B2 ⟨abB2, ivB2⟩ rfl
     refine ⟨_, rfl, ?_⟩
     cases t26
     ·replace hp := (itS hp).2 Bool.false_ne_true
      subst hK4
      obtain rfl := endS (show some _ = some r from hp)
      exact WJ.rt 207 rfl rfl rfl (fun ids H' fr => ⟨fr.ext0, rfl⟩)
     ·replace hp := (itS hp).1 rfl
      exact WJ.ag 209 rfl (by exact ⟨rfl, rfl, rfl, rfl, trivial⟩) rfl rfl rfl (ih4 (n, IntKind.i64.wrap (x21 + 1), B2) hp (Nat.lt_succ_self _))
end
end Go.Proofs.YthemdclmlcblbaaDoor
set_option linter.unusedVariables false
set_option linter.unusedSimpArgs false
namespace Go.Proofs.YthemdclmlcblbaaDoor
open Go Go.Det Go.RowKit
noncomputable section
/-! 53 tipstaff/shaft.Check -/
def f53_l1 (x0 : List Int) : Nat → Int → Option ((Unit) ⊕ (Int))
 | 0, _ => none
 | n + 1, zal =>
  (some (decide (zal < (x0.length : Int)))).bind fun t9u2 =>
  if t9u2 then
   (rd x0 zal).bind fun t14u1 =>
   if t14u1 < 1 then
    some (Sum.inr zal)
   else
    (some (decide (t14u1 > 1000))).bind fun t7u2 =>
    if t7u2 then
     some (Sum.inr zal)
    else
     f53_l1 x0 n (IntKind.i64.wrap (zal + 1))
  else
   some (Sum.inl ())
def f53 (k : Nat) (x0 : List Int) : Option (Int × Int) :=
 if (x0.length : Int) < 1 then
  some (4, 0)
 else
  if (x0.length : Int) ≥ 64 then
   some (4, 0)
  else
   ((f53_l1 x0 k 0).bind fun s => match s with
    | .inl _ => 
     some (((-1) : Int))
    | .inr st => some (st)).bind fun x16_8 =>
    if x16_8 ≥ 0 then
     some (2, x16_8)
    else
     some (0, 0)
set_option maxHeartbeats 40000000 in
set_option maxRecDepth 20000 in
theorem f53_ok {k : Nat} {H : Hp} {a_x0 : Option Addr} {c_x0 : Nat} {x0 : List Int} {r : Int × Int} (g_x0 : SlF 0 H intC a_x0 c_x0 x0) (hp : f53 k x0 = some r) :
  SCall Tryd.prog 53 [.slice a_x0 x0.length c_x0] H (Ret fun v H' => Ext H H' ∧ R_35_3 r H.next H' v) := by
 unfold f53 at hp
 replace hp := topS hp
 refine SCall.g Tryd.func53 rfl rfl rfl rfl rfl (l := [(0, .v (.slice a_x0 x0.length c_x0))]) (fun _ => rfl) (fun B abB => ?_)
 have gbg_x0 := g_x0.mono (Nat.le_refl _) abB
 refine WJ.ci 210 hp rfl rfl rfl rfl rfl rfl rfl rfl rfl (fun hc8 hp => ?_) (fun hc8 hp => ?_)
 ·obtain rfl := endS (show some _ = some r from hp)
  exact WJ.rt 212 rfl rfl rfl (fun ids H' fr => ⟨fr.ext0, rfl⟩)
 ·refine WJ.ci 203 hp rfl rfl rfl rfl rfl rfl rfl rfl rfl (fun hc12 hp => ?_) (fun hc12 hp => ?_)
  ·obtain rfl := endS (show some _ = some r from hp)
   exact WJ.rt 208 rfl rfl rfl (fun ids H' fr => ⟨fr.ext0, rfl⟩)
  ·obtain ⟨K8, hK8, hp⟩ : ∃ K, K = _ ∧ Option.bind _ K = some r := ⟨_, rfl, cutS hp⟩
   refine WJ.inlC 213 (α := Int × Hp) (fun y => [(16, .v (.int .i64 y.1))]) (fun y => []) (fun y => y.2) (fun y => K8 ((y.1)) = some r ∧ SlF 0 y.2 intC a_x0 c_x0 x0) rfl rfl Tryd.func64 rfl rfl rfl rfl rfl (lc := [(0, .v (.slice a_x0 x0.length c_x0)), (1, .v (.func (.func 63) ⟨[]⟩ ⟨[]⟩))]) (fun _ => rfl) ?_ (fun j8 => ?_)
   ·rintro ⟨x16_8, B3⟩ ⟨hp, gbg_x0⟩
    subst hK8
    show WJ _ _ _ B3 [] _ _ ⟨[(16, .v (.int .i64 x16_8))], [], true, 0⟩
    refine WJ.ci 205 hp rfl rfl rfl rfl rfl rfl rfl rfl rfl (fun hc18u1 hp => ?_) (fun hc18u1 hp => ?_)
    ·obtain rfl := endS (show some _ = some r from hp)
     exact WJ.rt 208 rfl rfl rfl (fun ids H' fr => ⟨fr.ext0, rfl⟩)
    ·obtain rfl := endS (show some _ = some r from hp)
     exact WJ.rt 208 rfl rfl rfl (fun ids H' fr => ⟨fr.ext0, rfl⟩)
   ·refine WJ.adv 12 rfl ?_
    obtain ⟨K9, hK9, hp⟩ : ∃ K, K = _ ∧ Option.bind _ K = some r := ⟨_, rfl, cutS hp⟩
    refine WJ.cut 2 (α := Hp) (fun y => []) (fun y => []) (fun y => []) (fun y => y) (fun y => K9 (Sum.inl ()) = some r ∧ SlF 0 y intC a_x0 c_x0 x0) ?_ (fun j9 => ?_)
    ·rintro B2 ⟨hp, gbg_x0⟩
     subst hK9
     show WJ _ _ _ B2 [] _ _ ⟨[], [], true, 0⟩
     refine WJ.inlR 204 rfl rfl rfl rfl ?_
     exact WJ.gotoO (j8 ((-1), B2) ⟨hp, gbg_x0⟩) (by exact ⟨rfl, trivial⟩) rfl rfl
    ·refine WJ.lp 200 (α := Nat × Int × Hp) (fun y => [(0, .v (.slice a_x0 x0.length c_x0)), (1, .v (.func (.func 63) ⟨[]⟩ ⟨[]⟩)), (7, .v (.int .i64 ((x0.length : Nat) : Int))), (8, .v (.int .i64 y.2.1))]) (fun y => []) (fun y => []) (fun y => y.2.2) (fun y => y.1) (fun y => Option.bind (f53_l1 x0 y.1 y.2.1) K9 = some r ∧ SlF 0 y.2.2 intC a_x0 c_x0 x0) (k, 0, B) rfl ⟨hp, gbg_x0⟩ (by exact ⟨rfl, rfl, rfl, rfl, trivial⟩) rfl rfl rfl ?_
     rintro ⟨n, zal, B1⟩ ⟨hp, gbg_x0⟩ ih9
     show WJ _ _ _ B1 [] _ _ ⟨[(0, .v (.slice a_x0 x0.length c_x0)), (1, .v (.func (.func 63) ⟨[]⟩ ⟨[]⟩)), (7, .v (.int .i64 ((x0.length : Nat) : Int))), (8, .v (.int .i64 zal))], [], true, 0⟩
     replace hp : Option.bind (f53_l1 x0 n zal) K9 = some r := hp
     cases n with
     | zero => rw [f53_l1] at hp; exact (noS hp).elim
     | succ n =>
      rw [f53_l1] at hp
      obtain ⟨t9u2, e9u2, hp⟩ := bindS hp
      refine WJ.cv 202 (b := t9u2) (H0 := ⟨.nil, 0, 0⟩) rfl rfl rfl rfl rfl rfl (by rw [← endS e9u2]; exact rfl) rfl ?_
      cases t9u2
      ·replace hp := (itS hp).2 Bool.false_ne_true
       exact WJ.goto 4 (j9 B1 ⟨hp, gbg_x0⟩) rfl rfl (by exact trivial) rfl rfl rfl
      ·replace hp := (itS hp).1 rfl
       obtain ⟨t14u1, e14u1, hp⟩ := bindS hp
       obtain ⟨b14u1, o14u1, cs14u1, i14u1, rfl, p14u1⟩ := gbg_x0.at e14u1 u22 sz3
       refine WJ.hd (v := .pointer (some ⟨b14u1, o14u1, none⟩)) 216 rfl rfl rfl rfl (fun ids H' fr => opD_indexAddr rfl (evV_eq _ _ _ _ _ rfl) (evV_eq _ _ _ _ _ rfl) (i14u1 _)) rfl ?_
       refine WJ.hd (v := .int .i64 t14u1) 200 rfl rfl rfl rfl (fun ids H' fr => opD_load rfl (evV_eq _ _ _ _ _ rfl) ((p14u1.mono (Nat.zero_le _) (fr.abv.le (Nat.zero_le _))).load (d := 0) ag3 rfl)) rfl ?_
       refine WJ.inl 200 rfl rfl Tryd.func63 rfl rfl rfl rfl rfl (lc := [(0, .v (.int .i64 t14u1))]) (fun _ => rfl) ?_
       refine WJ.ci 207 hp rfl rfl rfl rfl rfl rfl rfl rfl rfl (fun hc4u2 hp => ?_) (fun hc4u2 hp => ?_)
       ·refine WJ.inlR 206 rfl rfl rfl rfl ?_
        refine WJ.inlR 207 rfl rfl rfl rfl ?_
        subst hK9
        exact WJ.gotoO (j8 (zal, B1) ⟨hp, gbg_x0⟩) (by exact ⟨rfl, trivial⟩) rfl rfl
       ·obtain ⟨t7u2, e7u2, hp⟩ := bindS hp
        refine WJ.cv 202 (b := t7u2) (H0 := ⟨.nil, 0, 0⟩) rfl rfl rfl rfl rfl rfl (by rw [← endS e7u2]; exact rfl) rfl ?_
        refine WJ.inlR 203 rfl rfl rfl rfl ?_
        cases t7u2
        ·replace hp := (itS hp).2 Bool.false_ne_true
         exact WJ.ag 208 rfl (by exact ⟨rfl, rfl, rfl, rfl, trivial⟩) rfl rfl rfl (ih9 (n, IntKind.i64.wrap (zal + 1), B1) ⟨hp, gbg_x0⟩ (Nat.lt_succ_self _))
        ·replace hp := (itS hp).1 rfl
         refine WJ.inlR 207 rfl rfl rfl rfl ?_
         subst hK9
         exact WJ.gotoO (j8 (zal, B1) ⟨hp, gbg_x0⟩) (by exact ⟨rfl, trivial⟩) rfl rfl
/-! 43 tipstaff/shaft.Positions -/
def f43_l1 : Nat → (List Int) → Int → Int → Option ((List Int) × Int)
 | 0, _, _, _ => none
 | n + 1, l2_h12, v0_0_h12, zag =>
  if zag < (l2_h12.length : Int) then
   (rd l2_h12 zag).bind fun t35u2 =>
   (rd l2_h12 zag).bind fun t38u2 =>
   (some (l2_h12.set (zag).toNat (IntKind.i64.wrap (v0_0_h12 + t35u2)))).bind fun lstu2 =>
   f43_l1 n lstu2 (IntKind.i64.wrap (v0_0_h12 + t35u2)) (IntKind.i64.wrap (zag + 1))
  else
   some ((l2_h12, v0_0_h12))
def f43 (k : Nat) (x0 : List Int) : Option ((List Int) × Int) :=
 (f53 k x0).bind fun (t13_0, t13_1) =>
 if t13_0 = 0 then
  (apn 8 [0] x0).bind fun l23 =>
  (f43_l1 k l23 0 1).bind fun (l2_12, v0_0_12) =>
   some (l2_12, 0)
 else
  some ([], t13_0)
set_option maxHeartbeats 40000000 in
set_option maxRecDepth 20000 in
theorem f43_ok {k : Nat} {H : Hp} {a_x0 : Option Addr} {c_x0 : Nat} {x0 : List Int} {r : (List Int) × Int} (g_x0 : SlF 0 H intC a_x0 c_x0 x0) (hp : f43 k x0 = some r) :
  SCall Tryd.prog 43 [.slice a_x0 x0.length c_x0] H (Ret fun v H' => Ext H H' ∧ R_22_35 r H.next H' v) := by
 unfold f43 at hp
 replace hp := topS hp
 refine SCall.g Tryd.func43 rfl rfl rfl rfl rfl (l := [(0, .v (.slice a_x0 x0.length c_x0))]) (fun _ => rfl) (fun B abB => ?_)
 have gbg_x0 := g_x0.mono (Nat.le_refl _) abB
 obtain ⟨⟨t13_0, t13_1⟩, e13, hp⟩ := bindS hp
 refine WJ.cl 209 (R := R_35_3 ⟨t13_0, t13_1⟩) (fun hm h k => R_35_3.mono hm h k) rfl (fun ids H' fr => f53_ok (gbg_x0.mono (Nat.zero_le _) (fr.abv.le (Nat.zero_le _))) e13) ?_
 rintro v B1 ⟨abB1, ivB1⟩ rfl
 refine ⟨_, rfl, ?_⟩
 replace gbg_x0 := gbg_x0.mono (Nat.le_refl _) (abB1.le (Nat.zero_le _))
 refine WJ.cn 209 hp rfl rfl rfl rfl rfl rfl rfl rfl rfl (fun hc17 hp => ?_) (fun hc17 hp => ?_)
 ·obtain rfl := endS (show some _ = some r from hp)
  exact WJ.rt 208 rfl rfl rfl (fun ids H' fr => ⟨fr.ext0, ⟨_, _, rfl, SlF.nil⟩⟩)
 ·refine WJ.adv 6 rfl ?_
  refine WJ.liftS (loc := []) rfl rfl (fun bv0 => ?_)
  refine WJ.sb 200 (j := 0) rfl rfl rfl rfl rfl rfl rfl rfl rfl rfl ?_
  refine WJ.adv 4 rfl ?_
  refine WJ.nf ?_
  refine WJ.adv 6 rfl ?_
  refine WJ.liftS (loc := []) rfl rfl (fun bv1 => ?_)
  refine WJ.sb 200 (j := 1) rfl rfl rfl rfl rfl rfl rfl rfl rfl rfl ?_
  refine WJ.hd (v := .slice (some ⟨bv1, 0, none⟩) 1 1) 203 rfl rfl rfl rfl (fun ids H' fr => opD_slice (lo' := none) (hi' := (some (.int .i64 1))) (mx' := (some (.int .i64 1))) rfl (evV_eq _ _ _ _ _ rfl) rfl rfl rfl (by kernel_rfl)) rfl ?_
  obtain ⟨l23, e23, hp⟩ := bindS hp
  obtain ⟨ne23, bd23, rfl⟩ := apn_some e23
  refine WJ.an 201 (L2 := x0) ([0] : List Int) 1 rfl rfl rfl rfl rfl rfl rfl rfl rfl rfl rfl rfl rfl (el22 rfl) rfl (fun _ => rfl) rfl (fun ids H' fr => (gbg_x0.mono (Nat.zero_le _) (fr.abv.le (Nat.zero_le _))).srcF) ne23 bd23 ?_
  intro b23
  refine ⟨_, rfl, ?_⟩
  refine WJ.adv 8 rfl ?_
  obtain ⟨K12, hK12, hp⟩ : ∃ K, K = _ ∧ Option.bind _ K = some r := ⟨_, rfl, cutS hp⟩
  refine WJ.cut 2 (α := (List Int) × Int × (Option Addr) × Nat × Hp) (fun y => [(9, .v (.slice y.2.2.1 y.1.length y.2.2.2.1))]) (fun y => []) (fun y => [⟨some ⟨bv0, 0, none⟩, 1, 1, [.int .i64 y.2.1]⟩, ⟨some ⟨bv1, 0, none⟩, 1, 1, [.int .i64 0]⟩, ⟨y.2.2.1, y.2.2.2.1, 1, encL iE y.1⟩]) (fun y => y.2.2.2.2) (fun y => K12 ((y.1, y.2.1)) = some r ∧ SlF 0 y.2.2.2.2 intC a_x0 c_x0 x0) ?_ (fun j12 => ?_)
  ·rintro ⟨l2_12, v0_0_12, a2_12, c2_12, B3⟩ ⟨hp, gbg_x0⟩
   subst hK12
   show WJ _ _ _ B3 [⟨some ⟨bv0, 0, none⟩, 1, 1, [.int .i64 v0_0_12]⟩, ⟨some ⟨bv1, 0, none⟩, 1, 1, [.int .i64 0]⟩, ⟨a2_12, c2_12, 1, encL iE l2_12⟩] _ _ ⟨[(9, .v (.slice a2_12 l2_12.length c2_12))], [], true, 0⟩
   obtain rfl := endS (show some _ = some r from hp)
   exact WJ.rt 206 rfl rfl rfl (fun ids H' fr => ⟨fr.ext0, ⟨_, _, rfl, (fr.slOwn (j := 2) rfl rfl (Nat.le_refl _))⟩⟩)
  ·refine WJ.lp 200 (α := Nat × (List Int) × Int × Int × (Option Addr) × Nat × Hp) (fun y => [(7, .v (.func (.func 54) ⟨[]⟩ ⟨[.pointer (some ⟨bv0, 0, none⟩)]⟩)), (9, .v (.slice y.2.2.2.2.1 y.2.1.length y.2.2.2.2.2.1)), (10, .v (.int .i64 y.2.2.2.1))]) (fun y => []) (fun y => [⟨some ⟨bv0, 0, none⟩, 1, 1, [.int .i64 y.2.2.1]⟩, ⟨some ⟨bv1, 0, none⟩, 1, 1, [.int .i64 0]⟩, ⟨y.2.2.2.2.1, y.2.2.2.2.2.1, 1, encL iE y.2.1⟩]) (fun y => y.2.2.2.2.2.2) (fun y => y.1) (fun y => Option.bind (f43_l1 y.1 y.2.1 y.2.2.1 y.2.2.2.1) K12 = some r ∧ SlF 0 y.2.2.2.2.2.2 intC a_x0 c_x0 x0) (k, ([0] ++ x0), 0, 1, (some ⟨b23, 0, none⟩), LOOSE, B1) rfl ⟨hp, gbg_x0⟩ (by exact ⟨rfl, rfl, rfl, trivial⟩) rfl rfl rfl ?_
   rintro ⟨n, l2_h12, v0_0_h12, zag, a2_h12, c2_h12, B2⟩ ⟨hp, gbg_x0⟩ ih12
   show WJ _ _ _ B2 [⟨some ⟨bv0, 0, none⟩, 1, 1, [.int .i64 v0_0_h12]⟩, ⟨some ⟨bv1, 0, none⟩, 1, 1, [.int .i64 0]⟩, ⟨a2_h12, c2_h12, 1, encL iE l2_h12⟩] _ _ ⟨[(7, .v (.func (.func 54) ⟨[]⟩ ⟨[.pointer (some ⟨bv0, 0, none⟩)]⟩)), (9, .v (.slice a2_h12 l2_h12.length c2_h12)), (10, .v (.int .i64 zag))], [], true, 0⟩
   replace hp : Option.bind (f43_l1 n l2_h12 v0_0_h12 zag) K12 = some r := hp
   cases n with
   | zero => rw [f43_l1] at hp; exact (noS hp).elim
   | succ n =>
    rw [f43_l1] at hp
    refine WJ.ci 206 hp rfl rfl rfl rfl rfl rfl rfl rfl rfl (fun hc27u2 hp => ?_) (fun hc27u2 hp => ?_)
    ·obtain ⟨t35u2, e35u2, hp⟩ := bindS hp
     refine WJ.ownAddr (enc := iE) (sz := 1) 2 (fun _ => rfl) rfl rfl e35u2 (fun b35u2 hb35u2 => ?_)
     refine WJ.hd (v := .pointer (some ⟨b35u2, (zag : Int).toNat * 1, none⟩)) 211 rfl rfl rfl rfl (fun ids H' fr => opD_indexAddr rfl (evV_eq _ _ _ _ _ rfl) (evV_eq _ _ _ _ _ rfl) (ownIdx hb35u2 e35u2 u22 sz3)) rfl ?_
     refine WJ.hd (v := .int .i64 t35u2) 200 rfl rfl rfl rfl (fun ids H' fr => opD_load rfl (evV_eq _ _ _ _ _ rfl) ((fr.ownEl (enc := iE) (sz := 1) (j := 2) (fun _ => rfl) rfl hb35u2 e35u2).load (d := 0) ag3 rfl)) rfl ?_
     refine WJ.inl 200 rfl rfl Tryd.func54 rfl rfl rfl rfl rfl (lc := [(0, .v (.int .i64 t35u2)), (1, .v (.pointer (some ⟨bv0, 0, none⟩)))]) (fun _ => rfl) ?_
     refine WJ.hd (v := .int .i64 v0_0_h12) 206 rfl rfl rfl rfl (fun ids H' fr => opD_load rfl (evV_eq _ _ _ _ _ rfl) (fr.ldOwn (j := 0) rfl rfl)) rfl ?_
     refine WJ.sb 202 (j := 0) rfl rfl rfl rfl rfl rfl rfl rfl rfl rfl ?_
     refine WJ.hd (v := .int .i64 (IntKind.i64.wrap (v0_0_h12 + t35u2))) 203 rfl rfl rfl rfl (fun ids H' fr => opD_load rfl (evV_eq _ _ _ _ _ rfl) (fr.ldOwn (j := 0) rfl rfl)) rfl ?_
     refine WJ.inlR 202 rfl rfl rfl rfl ?_
     obtain ⟨t38u2, e38u2, hp⟩ := bindS hp
     refine WJ.ownAddr (enc := iE) (sz := 1) 2 (fun _ => rfl) rfl rfl e38u2 (fun b38u2 hb38u2 => ?_)
     refine WJ.hd (v := .pointer (some ⟨b38u2, (zag : Int).toNat * 1, none⟩)) 200 rfl rfl rfl rfl (fun ids H' fr => opD_indexAddr rfl (evV_eq _ _ _ _ _ rfl) (evV_eq _ _ _ _ _ rfl) (ownIdx hb38u2 e38u2 u22 sz3)) rfl ?_
     obtain ⟨lstu2, estu2, hp⟩ := bindS hp
     obtain rfl := Option.some.inj estu2
     refine WJ.st 200 (IntKind.i64.wrap (v0_0_h12 + t35u2)) 2 rfl rfl rfl rfl rfl rfl rfl rfl hb38u2 (fun _ => rfl) e38u2 sz3 rfl rfl rfl ?_
     rw [show l2_h12.length = (l2_h12.set (zag).toNat (IntKind.i64.wrap (v0_0_h12 + t35u2))).length from (List.length_set).symm]
     exact WJ.ag 207 rfl (by exact ⟨rfl, rfl, rfl, trivial⟩) rfl rfl rfl (ih12 (n, (l2_h12.set (zag).toNat (IntKind.i64.wrap (v0_0_h12 + t35u2))), IntKind.i64.wrap (v0_0_h12 + t35u2), IntKind.i64.wrap (zag + 1), a2_h12, c2_h12, B2) ⟨hp, gbg_x0⟩ (Nat.lt_succ_self _))
    ·exact WJ.goto 3 (j12 (l2_h12, v0_0_h12, a2_h12, c2_h12, B2) ⟨hp, gbg_x0⟩) rfl rfl (by exact ⟨rfl, trivial⟩) rfl rfl rfl
/-! 24 tipstaff/shaft.Height -/
def f24 (k : Nat) (x0 : List Int) : Option (Int × Int) :=
 (f43 k x0).bind fun (t8_0, t8_1) =>
 if t8_1 = 0 then
  (rd t8_0 (IntKind.i64.wrap ((t8_0.length : Int) - 1))).bind fun t18 =>
  some (t18, 0)
 else
  some (0, t8_1)
set_option maxHeartbeats 40000000 in
set_option maxRecDepth 20000 in
theorem f24_ok {k : Nat} {H : Hp} {a_x0 : Option Addr} {c_x0 : Nat} {x0 : List Int} {r : Int × Int} (g_x0 : SlF 0 H intC a_x0 c_x0 x0) (hp : f24 k x0 = some r) :
  SCall Tryd.prog 24 [.slice a_x0 x0.length c_x0] H (Ret fun v H' => Ext H H' ∧ R_3_35 r H.next H' v) := by
 unfold f24 at hp
 replace hp := topS hp
 refine SCall.g Tryd.func24 rfl rfl rfl rfl rfl (l := [(0, .v (.slice a_x0 x0.length c_x0))]) (fun _ => rfl) (fun B abB => ?_)
 obtain ⟨⟨t8_0, t8_1⟩, e8, hp⟩ := bindS hp
 refine WJ.cl 208 (R := R_22_35 ⟨t8_0, t8_1⟩) (fun hm h k => R_22_35.mono hm h k) rfl (fun ids H' fr => f43_ok (g_x0.mono (Nat.zero_le _) fr.ext0.abv) e8) ?_
 rintro v B1 ⟨abB1, ivB1⟩ ⟨a_t8_0, c_t8_0, rfl, g_t8_0⟩
 refine ⟨_, rfl, ?_⟩
 refine WJ.cn 210 hp rfl rfl rfl rfl rfl rfl rfl rfl rfl (fun hc12 hp => ?_) (fun hc12 hp => ?_)
 ·obtain rfl := endS (show some _ = some r from hp)
  exact WJ.rt 208 rfl rfl rfl (fun ids H' fr => ⟨fr.ext0, rfl⟩)
 ·obtain ⟨t18, e18, hp⟩ := bindS hp
  obtain ⟨b18, o18, cs18, i18, rfl, p18⟩ := g_t8_0.at e18 u22 sz3
  refine WJ.hd (v := .pointer (some ⟨b18, o18, none⟩)) 209 rfl rfl rfl rfl (fun ids H' fr => opD_indexAddr rfl (evV_eq _ _ _ _ _ rfl) (evV_eq _ _ _ _ _ rfl) (i18 _)) rfl ?_
  refine WJ.hd (v := .int .i64 t18) 200 rfl rfl rfl rfl (fun ids H' fr => opD_load rfl (evV_eq _ _ _ _ _ rfl) ((p18.mono (Nat.zero_le _) (fr.abv.le (Nat.zero_le _))).load (d := 0) ag3 rfl)) rfl ?_
  obtain rfl := endS (show some _ = some r from hp)
  exact WJ.rt 203 rfl rfl rfl (fun ids H' fr => ⟨fr.ext0, rfl⟩)
/-! 55 tipstaff/profile.limits -/
def f55 (x0 : Int) (x1 : Int) : Option Bool :=
 if x0 ≥ 0 then
  if x0 ≤ 63000 then
   if x1 ≥ 1 then
    (some (decide (x1 ≤ 20))).bind fun t17 =>
    some t17
   else
    some false
  else
   some false
 else
  some false
set_option maxHeartbeats 40000000 in
set_option maxRecDepth 20000 in
theorem f55_ok {H : Hp} {x0 : Int} {x1 : Int} {r : Bool} (hp : f55 x0 x1 = some r) :
  SCall Tryd.prog 55 [.int .i64 x0, .int .i64 x1] H (Ret fun v H' => Ext H H' ∧ R_4 r H.next H' v) := by
 unfold f55 at hp
 replace hp := topS hp
 refine SCall.g Tryd.func55 rfl rfl rfl rfl rfl (l := [(0, .v (.int .i64 x0)), (1, .v (.int .i64 x1))]) (fun _ => rfl) (fun B abB => ?_)
 refine WJ.ci 207 hp rfl rfl rfl rfl rfl rfl rfl rfl rfl (fun hc6 hp => ?_) (fun hc6 hp => ?_)
 ·refine WJ.ci 202 hp rfl rfl rfl rfl rfl rfl rfl rfl rfl (fun hc9 hp => ?_) (fun hc9 hp => ?_)
  ·refine WJ.ci 203 hp rfl rfl rfl rfl rfl rfl rfl rfl rfl (fun hc13 hp => ?_) (fun hc13 hp => ?_)
   ·obtain ⟨t17, e17, hp⟩ := bindS hp
    refine WJ.cv 203 (b := t17) (H0 := ⟨.nil, 0, 0⟩) rfl rfl rfl rfl rfl rfl (by rw [← endS e17]; exact rfl) rfl ?_
    obtain rfl := endS (show some _ = some r from hp)
    exact WJ.rt 203 rfl rfl rfl (fun ids H' fr => ⟨fr.ext0, rfl⟩)
   ·obtain rfl := endS (show some _ = some r from hp)
    exact WJ.rt 207 rfl rfl rfl (fun ids H' fr => ⟨fr.ext0, rfl⟩)
  ·obtain rfl := endS (show some _ = some r from hp)
   exact WJ.rt 211 rfl rfl rfl (fun ids H' fr => ⟨fr.ext0, rfl⟩)
 ·obtain rfl := endS (show some _ = some r from hp)
  exact WJ.rt 214 rfl rfl rfl (fun ids H' fr => ⟨fr.ext0, rfl⟩)
/-! 72 tipstaff/profile.tri -/
def f72 (x0 : Int) : Option Int :=
 some (IntKind.i64.wrap ((IntKind.i64.wrap (x0 * (IntKind.i64.wrap (x0 + 1)))).tdiv 2))
set_option maxHeartbeats 40000000 in
set_option maxRecDepth 20000 in
theorem f72_ok {H : Hp} {x0 : Int} {r : Int} (hp : f72 x0 = some r) :
  SCall Tryd.prog 72 [.int .i64 x0] H (Ret fun v H' => Ext H H' ∧ R_3 r H.next H' v) := by
 unfold f72 at hp
 replace hp := topS hp
 refine SCall.g Tryd.func72 rfl rfl rfl rfl rfl (l := [(0, .v (.int .i64 x0))]) (fun _ => rfl) (fun B abB => ?_)
 refine WJ.hd (v := .int .i64 (IntKind.i64.wrap ((IntKind.i64.wrap (x0 * (IntKind.i64.wrap (x0 + 1)))).tdiv 2))) 210 rfl rfl rfl rfl (fun ids H' fr => opD_bin rfl (evV_eq _ _ _ _ _ rfl) (evV_eq _ _ _ _ _ rfl) (bin_quo (by decide))) rfl ?_
 obtain rfl := endS (show some _ = some r from hp)
 exact WJ.rt 202 rfl rfl rfl (fun ids H' fr => ⟨fr.ext0, rfl⟩)
/-! 70 tipstaff/profile.next -/
def f70 (k : Nat) (x0 : Int) (x1 : Int) (x2 : Int) : Option (Int × Bool) :=
 (if (IntKind.i64.wrap (x0 + 1)) ≥ 0 then
  if (IntKind.i64.wrap (x0 + 1)) ≤ x2 then
   (f72 (IntKind.i64.wrap (x0 + 1))).bind fun t26 =>
   if t26 ≤ x1 then
    some (Sum.inl ((IntKind.i64.wrap (x0 + 1), true) : Int × Bool))
   else
    some (Sum.inr false)
  else
   some (Sum.inr false)
 else
  some (Sum.inr false)).bind fun s => match s with
  | .inl st => some st
  | .inr x7_14 => 
   (if x0 ≥ 0 then
    if x0 ≤ x2 then
     (f72 x0).bind fun t26u1 =>
     if t26u1 ≤ x1 then
      some (Sum.inl ((x0, true) : Int × Bool))
     else
      some (Sum.inr x7_14)
    else
     some (Sum.inr x7_14)
   else
    some (Sum.inr x7_14)).bind fun s => match s with
    | .inl st => some st
    | .inr x7_15 => 
     (if (IntKind.i64.wrap (x0 - 1)) ≥ 0 then
      if (IntKind.i64.wrap (x0 - 1)) ≤ x2 then
       (f72 (IntKind.i64.wrap (x0 - 1))).bind fun t26u2 =>
       if t26u2 ≤ x1 then
        some (Sum.inl ((IntKind.i64.wrap (x0 - 1), true) : Int × Bool))
       else
        some (Sum.inr x7_15)
      else
       some (Sum.inr x7_15)
     else
      some (Sum.inr x7_15)).bind fun s => match s with
      | .inl st => some st
      | .inr x7_16 => 
       some (IntKind.i64.wrap (x0 - 1), x7_16)
set_option maxHeartbeats 40000000 in
set_option maxRecDepth 20000 in
theorem f70_ok {k : Nat} {H : Hp} {x0 : Int} {x1 : Int} {x2 : Int} {r : Int × Bool} (hp : f70 k x0 x1 x2 = some r) :
  SCall Tryd.prog 70 [.int .i64 x0, .int .i64 x1, .int .i64 x2] H (Ret fun v H' => Ext H H' ∧ R_3_4 r H.next H' v) := by
 unfold f70 at hp
 replace hp := topS hp
 refine SCall.g Tryd.func70 rfl rfl rfl rfl rfl (l := [(0, .v (.int .i64 x0)), (1, .v (.int .i64 x1)), (2, .v (.int .i64 x2))]) (fun _ => rfl) (fun B abB => ?_)
 refine WJ.un 220 rfl ?_
 refine WJ.re (I := [(1, .v (.int .i64 x1)), (2, .v (.int .i64 x2)), (6, .v (.int .i64 0)), (7, .v (.bool false)), (13, .v (.agg ⟨[.int .i64 (IntKind.i64.wrap (x0 + 1)), .int .i64 x0, .int .i64 (IntKind.i64.wrap (x0 - 1))]⟩)), (14, .v (.int .i64 0))]) (O := []) ?_ (by exact ⟨rfl, rfl, rfl, rfl, rfl, rfl, trivial⟩) rfl
 refine WJ.cv 202 (b := true) (H0 := ⟨.nil, 0, 0⟩) rfl rfl rfl rfl rfl rfl rfl rfl ?_
 refine WJ.hd (v := .int .i64 (IntKind.i64.wrap (x0 + 1))) 208 rfl rfl rfl rfl (fun ids H' fr => opD_index rfl (evV_eq _ _ _ _ _ rfl) (evV_eq _ _ _ _ _ rfl) (by rfl)) rfl ?_
 refine WJ.adv 3 rfl ?_
 obtain ⟨K14, hK14, hp⟩ : ∃ K, K = _ ∧ Option.bind _ K = some r := ⟨_, rfl, cutS hp⟩
 refine WJ.cut 3 (α := Bool × Hp) (fun y => [(1, .v (.int .i64 x1)), (2, .v (.int .i64 x2)), (6, .v (.int .i64 (IntKind.i64.wrap (x0 + 1)))), (7, .v (.bool y.1)), (13, .v (.agg ⟨[.int .i64 (IntKind.i64.wrap (x0 + 1)), .int .i64 x0, .int .i64 (IntKind.i64.wrap (x0 - 1))]⟩)), (14, .v (.int .i64 0))]) (fun y => []) (fun y => []) (fun y => y.2) (fun y => K14 ((Sum.inr y.1)) = some r) ?_ (fun j14 => ?_)
 ·rintro ⟨x7_14, B2⟩ hp
  subst hK14
  show WJ _ _ _ B2 [] _ _ ⟨[(1, .v (.int .i64 x1)), (2, .v (.int .i64 x2)), (6, .v (.int .i64 (IntKind.i64.wrap (x0 + 1)))), (7, .v (.bool x7_14)), (13, .v (.agg ⟨[.int .i64 (IntKind.i64.wrap (x0 + 1)), .int .i64 x0, .int .i64 (IntKind.i64.wrap (x0 - 1))]⟩)), (14, .v (.int .i64 0))], [], true, 0⟩
  refine WJ.ro 204 rfl ?_
  refine WJ.re (I := [(1, .v (.int .i64 x1)), (2, .v (.int .i64 x2)), (6, .v (.int .i64 (IntKind.i64.wrap (x0 + 1)))), (7, .v (.bool x7_14)), (13, .v (.agg ⟨[.int .i64 (IntKind.i64.wrap (x0 + 1)), .int .i64 x0, .int .i64 (IntKind.i64.wrap (x0 - 1))]⟩)), (14, .v (.int .i64 1))]) (O := []) ?_ (by exact ⟨rfl, rfl, rfl, rfl, rfl, rfl, trivial⟩) rfl
  refine WJ.cv 202 (b := true) (H0 := ⟨.nil, 0, 0⟩) rfl rfl rfl rfl rfl rfl rfl rfl ?_
  refine WJ.hd (v := .int .i64 x0) 208 rfl rfl rfl rfl (fun ids H' fr => opD_index rfl (evV_eq _ _ _ _ _ rfl) (evV_eq _ _ _ _ _ rfl) (by rfl)) rfl ?_
  refine WJ.adv 3 rfl ?_
  obtain ⟨K15, hK15, hp⟩ : ∃ K, K = _ ∧ Option.bind _ K = some r := ⟨_, rfl, cutS hp⟩
  refine WJ.cut 3 (α := Bool × Hp) (fun y => [(1, .v (.int .i64 x1)), (2, .v (.int .i64 x2)), (6, .v (.int .i64 x0)), (7, .v (.bool y.1)), (13, .v (.agg ⟨[.int .i64 (IntKind.i64.wrap (x0 + 1)), .int .i64 x0, .int .i64 (IntKind.i64.wrap (x0 - 1))]⟩)), (14, .v (.int .i64 1))]) (fun y => []) (fun y => []) (fun y => y.2) (fun y => K15 ((Sum.inr y.1)) = some r) ?_ (fun j15 => ?_)
  ·rintro ⟨x7_15, B4⟩ hp
   subst hK15
   show WJ _ _ _ B4 [] _ _ ⟨[(1, .v (.int .i64 x1)), (2, .v (.int .i64 x2)), (6, .v (.int .i64 x0)), (7, .v (.bool x7_15)), (13, .v (.agg ⟨[.int .i64 (IntKind.i64.wrap (x0 + 1)), .int .i64 x0, .int .i64 (IntKind.i64.wrap (x0 - 1))]⟩)), (14, .v (.int .i64 1))], [], true, 0⟩
   refine WJ.ro 204 rfl ?_
   refine WJ.re (I := [(1, .v (.int .i64 x1)), (2, .v (.int .i64 x2)), (6, .v (.int .i64 x0)), (7, .v (.bool x7_15)), (13, .v (.agg ⟨[.int .i64 (IntKind.i64.wrap (x0 + 1)), .int .i64 x0, .int .i64 (IntKind.i64.wrap (x0 - 1))]⟩)), (14, .v (.int .i64 2))]) (O := []) ?_ (by exact ⟨rfl, rfl, rfl, rfl, rfl, rfl, trivial⟩) rfl
   refine WJ.cv 202 (b := true) (H0 := ⟨.nil, 0, 0⟩) rfl rfl rfl rfl rfl rfl rfl rfl ?_
   refine WJ.hd (v := .int .i64 (IntKind.i64.wrap (x0 - 1))) 208 rfl rfl rfl rfl (fun ids H' fr => opD_index rfl (evV_eq _ _ _ _ _ rfl) (evV_eq _ _ _ _ _ rfl) (by rfl)) rfl ?_
   refine WJ.adv 3 rfl ?_
   obtain ⟨K16, hK16, hp⟩ : ∃ K, K = _ ∧ Option.bind _ K = some r := ⟨_, rfl, cutS hp⟩
   refine WJ.cut 3 (α := Bool × Hp) (fun y => [(1, .v (.int .i64 x1)), (2, .v (.int .i64 x2)), (6, .v (.int .i64 (IntKind.i64.wrap (x0 - 1)))), (7, .v (.bool y.1)), (13, .v (.agg ⟨[.int .i64 (IntKind.i64.wrap (x0 + 1)), .int .i64 x0, .int .i64 (IntKind.i64.wrap (x0 - 1))]⟩)), (14, .v (.int .i64 2))]) (fun y => []) (fun y => []) (fun y => y.2) (fun y => K16 ((Sum.inr y.1)) = some r) ?_ (fun j16 => ?_)
   ·rintro ⟨x7_16, B6⟩ hp
    subst hK16
    show WJ _ _ _ B6 [] _ _ ⟨[(1, .v (.int .i64 x1)), (2, .v (.int .i64 x2)), (6, .v (.int .i64 (IntKind.i64.wrap (x0 - 1)))), (7, .v (.bool x7_16)), (13, .v (.agg ⟨[.int .i64 (IntKind.i64.wrap (x0 + 1)), .int .i64 x0, .int .i64 (IntKind.i64.wrap (x0 - 1))]⟩)), (14, .v (.int .i64 2))], [], true, 0⟩
    refine WJ.ro 204 rfl ?_
    refine WJ.re (I := [(1, .v (.int .i64 x1)), (2, .v (.int .i64 x2)), (6, .v (.int .i64 (IntKind.i64.wrap (x0 - 1)))), (7, .v (.bool x7_16)), (13, .v (.agg ⟨[.int .i64 (IntKind.i64.wrap (x0 + 1)), .int .i64 x0, .int .i64 (IntKind.i64.wrap (x0 - 1))]⟩)), (14, .v (.int .i64 3))]) (O := []) ?_ (by exact ⟨rfl, rfl, rfl, rfl, rfl, rfl, trivial⟩) rfl
    refine WJ.cv 202 (b := false) (H0 := ⟨.nil, 0, 0⟩) rfl rfl rfl rfl rfl rfl rfl rfl ?_
    obtain rfl := endS (show some _ = some r from hp)
    exact WJ.rt 211 rfl rfl rfl (fun ids H' fr => ⟨fr.ext0, rfl⟩)
   ·refine WJ.ci 202 hp rfl rfl rfl rfl rfl rfl rfl rfl rfl (fun hc18u2 hp => ?_) (fun hc18u2 hp => ?_)
    ·refine WJ.ci 203 hp rfl rfl rfl rfl rfl rfl rfl rfl rfl (fun hc22u2 hp => ?_) (fun hc22u2 hp => ?_)
     ·obtain ⟨t26u2, e26u2, hp⟩ := bindS hp
      refine WJ.cl 203 (R := R_3 t26u2) (fun hm h k => R_3.mono hm h k) rfl (fun ids H' fr => f72_ok e26u2) ?_
      rintro v B5 ⟨abB5, ivB5⟩ rfl
      refine ⟨_, rfl, ?_⟩
      refine WJ.ci 201 hp rfl rfl rfl rfl rfl rfl rfl rfl rfl (fun hc28u2 hp => ?_) (fun hc28u2 hp => ?_)
      ·subst hK16
       obtain rfl := endS (show some _ = some r from hp)
       exact WJ.rt 215 rfl rfl rfl (fun ids H' fr => ⟨fr.ext0, rfl⟩)
      ·exact WJ.goto 5 (j16 (x7_15, B5) hp) rfl rfl (by exact ⟨rfl, rfl, rfl, rfl, rfl, rfl, trivial⟩) rfl rfl rfl
     ·exact WJ.goto 11 (j16 (x7_15, B4) hp) rfl rfl (by exact ⟨rfl, rfl, rfl, rfl, rfl, rfl, trivial⟩) rfl rfl rfl
    ·exact WJ.goto 15 (j16 (x7_15, B4) hp) rfl rfl (by exact ⟨rfl, rfl, rfl, rfl, rfl, rfl, trivial⟩) rfl rfl rfl
  ·refine WJ.ci 202 hp rfl rfl rfl rfl rfl rfl rfl rfl rfl (fun hc18u1 hp => ?_) (fun hc18u1 hp => ?_)
   ·refine WJ.ci 203 hp rfl rfl rfl rfl rfl rfl rfl rfl rfl (fun hc22u1 hp => ?_) (fun hc22u1 hp => ?_)
    ·obtain ⟨t26u1, e26u1, hp⟩ := bindS hp
     refine WJ.cl 203 (R := R_3 t26u1) (fun hm h k => R_3.mono hm h k) rfl (fun ids H' fr => f72_ok e26u1) ?_
     rintro v B3 ⟨abB3, ivB3⟩ rfl
     refine ⟨_, rfl, ?_⟩
     refine WJ.ci 201 hp rfl rfl rfl rfl rfl rfl rfl rfl rfl (fun hc28u1 hp => ?_) (fun hc28u1 hp => ?_)
     ·subst hK15
      obtain rfl := endS (show some _ = some r from hp)
      exact WJ.rt 215 rfl rfl rfl (fun ids H' fr => ⟨fr.ext0, rfl⟩)
     ·exact WJ.goto 5 (j15 (x7_14, B3) hp) rfl rfl (by exact ⟨rfl, rfl, rfl, rfl, rfl, rfl, trivial⟩) rfl rfl rfl
    ·exact WJ.goto 11 (j15 (x7_14, B2) hp) rfl rfl (by exact ⟨rfl, rfl, rfl, rfl, rfl, rfl, trivial⟩) rfl rfl rfl
   ·exact WJ.goto 15 (j15 (x7_14, B2) hp) rfl rfl (by exact ⟨rfl, rfl, rfl, rfl, rfl, rfl, trivial⟩) rfl rfl rfl
 ·refine WJ.ci 202 hp rfl rfl rfl rfl rfl rfl rfl rfl rfl (fun hc18 hp => ?_) (fun hc18 hp => ?_)
  ·refine WJ.ci 203 hp rfl rfl rfl rfl rfl rfl rfl rfl rfl (fun hc22 hp => ?_) (fun hc22 hp => ?_)
   ·obtain ⟨t26, e26, hp⟩ := bindS hp
    refine WJ.cl 203 (R := R_3 t26) (fun hm h k => R_3.mono hm h k) rfl (fun ids H' fr => f72_ok e26) ?_
    rintro v B1 ⟨abB1, ivB1⟩ rfl
    refine ⟨_, rfl, ?_⟩
    refine WJ.ci 201 hp rfl rfl rfl rfl rfl rfl rfl rfl rfl (fun hc28 hp => ?_) (fun hc28 hp => ?_)
    ·subst hK14
     obtain rfl := endS (show some _ = some r from hp)
     exact WJ.rt 215 rfl rfl rfl (fun ids H' fr => ⟨fr.ext0, rfl⟩)
    ·exact WJ.goto 5 (j14 (false, B1) hp) rfl rfl (by exact ⟨rfl, rfl, rfl, rfl, rfl, rfl, trivial⟩) rfl rfl rfl
   ·exact WJ.goto 11 (j14 (false, B) hp) rfl rfl (by exact ⟨rfl, rfl, rfl, rfl, rfl, rfl, trivial⟩) rfl rfl rfl
  ·exact WJ.goto 15 (j14 (false, B) hp) rfl rfl (by exact ⟨rfl, rfl, rfl, rfl, rfl, rfl, trivial⟩) rfl rfl rfl
/-! 56 tipstaff/profile.travel -/
def f56_l1 (k : Nat) (x1 : Int) : Nat → Int → Int → Int → Int → Option (Int × Int)
 | 0, _, _, _, _ => none
 | n + 1, v0_0_h19, v1_0_h19, zb9, zbc =>
  if zbc > 0 then
   (f70 k zb9 zbc x1).bind fun (t16u2_0, t16u2_1) =>
   f56_l1 k x1 n (IntKind.i64.wrap (v0_0_h19 + 1)) (gmax v1_0_h19 t16u2_0) t16u2_0 (IntKind.i64.wrap (zbc - t16u2_0))
  else
   some (((v0_0_h19, v1_0_h19) : Int × Int))
def f56 (k : Nat) (x0 : Int) (x1 : Int) : Option (Int × Int) :=
 (f56_l1 k x1 k 0 0 0 x0).bind fun st =>
  some st
set_option maxHeartbeats 40000000 in
set_option maxRecDepth 20000 in
theorem f56_ok {k : Nat} {H : Hp} {x0 : Int} {x1 : Int} {r : Int × Int} (hp : f56 k x0 x1 = some r) :
  SCall Tryd.prog 56 [.int .i64 x0, .int .i64 x1] H (Ret fun v H' => Ext H H' ∧ R_3_3 r H.next H' v) := by
 unfold f56 at hp
 replace hp := topS hp
 refine SCall.g Tryd.func56 rfl rfl rfl rfl rfl (l := [(0, .v (.int .i64 x0)), (1, .v (.int .i64 x1))]) (fun _ => rfl) (fun B abB => ?_)
 refine WJ.adv 3 rfl ?_
 refine WJ.liftS (loc := []) rfl rfl (fun bv0 => ?_)
 refine WJ.adv 1 rfl ?_
 refine WJ.liftS (loc := []) rfl rfl (fun bv1 => ?_)
 refine WJ.inl 206 rfl rfl Tryd.func65 rfl rfl rfl rfl rfl (lc := [(0, .v (.int .i64 x0)), (1, .v (.int .i64 x1))]) (fun _ => rfl) ?_
 refine WJ.adv 3 rfl ?_
 refine WJ.liftS (loc := []) rfl rfl (fun bv2 => ?_)
 refine WJ.adv 1 rfl ?_
 refine WJ.liftS (loc := []) rfl rfl (fun bv3 => ?_)
 refine WJ.adv 5 rfl ?_
 refine WJ.nf ?_
 refine WJ.inlR 202 rfl rfl rfl rfl ?_
 refine WJ.adv 2 rfl ?_
 refine WJ.rf rfl rfl rfl rfl Tryd.func69 rfl rfl (ga := 3) rfl rfl rfl (lc := fun lpf69 => [(0, .v (.func (.yield lpf69) ⟨[]⟩ ⟨[]⟩)), (1, .v (.pointer (some ⟨bv2, 0, none⟩))), (2, .v (.pointer (some ⟨bv3, 0, none⟩)))]) (fun _ _ => rfl) ?_
 rintro lpf69 B1 Cf69 hCf69 ⟨abB1, ivB1⟩ h0f69 hlf69
 refine WJ.hd (v := .int .i64 x0) 206 rfl rfl rfl rfl (fun ids H' fr => opD_load rfl (evV_eq _ _ _ _ _ rfl) (fr.ldOwn (j := 2) rfl rfl)) rfl ?_
 refine WJ.adv 3 rfl ?_
 obtain ⟨K19, hK19, hp⟩ : ∃ K, K = _ ∧ Option.bind _ K = some r := ⟨_, rfl, cutS hp⟩
 refine WJ.lp 200 (α := Nat × Int × Int × Int × Int × Hp) (fun y => [(0, .v (.func (.yield lpf69) ⟨[]⟩ ⟨[]⟩)), (2, .v (.pointer (some ⟨bv3, 0, none⟩))), (4, .v (.int .i64 y.2.2.2.1)), (5, .v (.int .i64 y.2.2.2.2.1))]) (fun y => []) (fun y => [⟨some ⟨bv0, 0, none⟩, 1, 1, [.int .i64 y.2.1]⟩, ⟨some ⟨bv1, 0, none⟩, 1, 1, [.int .i64 y.2.2.1]⟩, ⟨some ⟨bv2, 0, none⟩, 1, 1, [.int .i64 x0]⟩, ⟨some ⟨bv3, 0, none⟩, 1, 1, [.int .i64 x1]⟩]) (fun y => y.2.2.2.2.2) (fun y => y.1) (fun y => Option.bind (f56_l1 k x1 y.1 y.2.1 y.2.2.1 y.2.2.2.1 y.2.2.2.2.1) K19 = some r ∧ y.2.2.2.2.2.get lpf69 = some (.loop (Cf69.rec_ .ready none))) (k, 0, 0, 0, x0, B1) rfl ⟨hp, hlf69⟩ (by exact ⟨rfl, rfl, rfl, rfl, trivial⟩) rfl rfl rfl ?_
 rintro ⟨n, v0_0_h19, v1_0_h19, zb9, zbc, B2⟩ ⟨hp, hlf69⟩ ih19
 show WJ _ _ _ B2 [⟨some ⟨bv0, 0, none⟩, 1, 1, [.int .i64 v0_0_h19]⟩, ⟨some ⟨bv1, 0, none⟩, 1, 1, [.int .i64 v1_0_h19]⟩, ⟨some ⟨bv2, 0, none⟩, 1, 1, [.int .i64 x0]⟩, ⟨some ⟨bv3, 0, none⟩, 1, 1, [.int .i64 x1]⟩] _ _ ⟨[(0, .v (.func (.yield lpf69) ⟨[]⟩ ⟨[]⟩)), (2, .v (.pointer (some ⟨bv3, 0, none⟩))), (4, .v (.int .i64 zb9)), (5, .v (.int .i64 zbc))], [], true, 0⟩
 replace hp : Option.bind (f56_l1 k x1 n v0_0_h19 v1_0_h19 zb9 zbc) K19 = some r := hp
 cases n with
 | zero => rw [f56_l1] at hp; exact (noS hp).elim
 | succ n =>
  rw [f56_l1] at hp
  refine WJ.ci 204 hp rfl rfl rfl rfl rfl rfl rfl rfl rfl (fun hc8u3 hp => ?_) (fun hc8u3 hp => ?_)
  ·refine WJ.hd (v := .int .i64 x1) 209 rfl rfl rfl rfl (fun ids H' fr => opD_load rfl (evV_eq _ _ _ _ _ rfl) (fr.ldOwn (j := 3) rfl rfl)) rfl ?_
   obtain ⟨⟨t16u2_0, t16u2_1⟩, e16u2, hp⟩ := bindS hp
   refine WJ.cl 200 (R := R_3_4 ⟨t16u2_0, t16u2_1⟩) (fun hm h k => R_3_4.mono hm h k) rfl (fun ids H' fr => f70_ok e16u2) ?_
   rintro v B3 ⟨abB3, ivB3⟩ rfl
   refine ⟨_, rfl, ?_⟩
   replace hlf69 := ivB3 _ _ hlf69
   refine WJ.adv 9 rfl ?_
   refine WJ.yl (lr := [(4, .v (.pointer (some ⟨bv0, 0, none⟩))), (5, .v (.pointer (some ⟨bv1, 0, none⟩))), (10, .v (.int .i64 t16u2_0))]) hCf69 rfl rfl rfl rfl rfl rfl rfl rfl rfl rfl rfl hlf69 rfl ⟨rfl, rfl, rfl, rfl, rfl, rfl, trivial⟩ ?_
   refine WJ.ylA 203 rfl hlf69 h0f69 (fun B4 abB4 kpB4 hnB4 => ?_) rfl
   replace hlf69 := hnB4
   refine WJ.hd (v := .int .i64 v0_0_h19) 203 rfl rfl rfl rfl (fun ids H' fr => opD_load rfl (evV_eq _ _ _ _ _ rfl) (fr.ldOwn (j := 0) rfl rfl)) rfl ?_
   refine WJ.sb 201 (j := 0) rfl rfl rfl rfl rfl rfl rfl rfl rfl rfl ?_
   refine WJ.hd (v := .int .i64 v1_0_h19) 202 rfl rfl rfl rfl (fun ids H' fr => opD_load rfl (evV_eq _ _ _ _ _ rfl) (fr.ldOwn (j := 1) rfl rfl)) rfl ?_
   refine WJ.hd (v := .int .i64 (gmax v1_0_h19 t16u2_0)) 201 rfl rfl rfl rfl (fun ids H' fr => opD_max rfl rfl rfl (evV_eq (v := .v (.int .i64 v1_0_h19)) _ _ _ _ _ rfl) (evV_eq (v := .v (.int .i64 t16u2_0)) _ _ _ _ _ rfl)) rfl ?_
   refine WJ.sb 200 (j := 1) rfl rfl rfl rfl rfl rfl rfl rfl rfl rfl ?_
   refine WJ.ylE 202 rfl hlf69 h0f69 (.inl ⟨rfl, rfl, rfl, rfl⟩) rfl (fun B5 abB5 kpB5 hnB5 => ?_)
   replace hlf69 := hnB5
   exact WJ.ag 211 rfl (by exact ⟨rfl, rfl, rfl, rfl, trivial⟩) rfl rfl rfl (ih19 (n, IntKind.i64.wrap (v0_0_h19 + 1), gmax v1_0_h19 t16u2_0, t16u2_0, IntKind.i64.wrap (zbc - t16u2_0), B5) ⟨hp, hlf69⟩ (Nat.lt_succ_self _))
  ·refine WJ.rfR 203 (.inr rfl) rfl rfl hlf69 h0f69 (fun h => by cases h) (fun B6 abB6 kpB6 => ?_)
   refine WJ.drCG (c := 3) (m := 1) 202 rfl gmix (by kernel_rfl) (by kernel_rfl) rfl rfl (fun D7 eD7 abD7 obD7 => ?_)
   refine WD.hd (v := .int .i64 v0_0_h19) rfl rfl rfl rfl (fun ids H' s0 h0 f => side_load rfl rfl rfl (obD7 0 _ _ rfl rfl) h0 f) (fun ids H' fr => opD_load rfl (evV_eq _ _ _ _ _ rfl) (fr.ldOwn (j := 0) rfl rfl)) rfl ?_
   refine WD.hd (v := .int .i64 v1_0_h19) rfl rfl rfl rfl (fun ids H' s0 h0 f => side_load rfl rfl rfl (obD7 1 _ _ rfl rfl) h0 f) (fun ids H' fr => opD_load rfl (evV_eq _ _ _ _ _ rfl) (fr.ldOwn (j := 1) rfl rfl)) rfl ?_
   refine WD.sbS (j := 0) rfl rfl rfl rfl rfl rfl rfl rfl rfl rfl ?_
   refine WD.done rfl ?_
   refine WJ.ph2 ?_
   refine WD.sb (j := 1) rfl rfl rfl rfl rfl rfl rfl rfl rfl rfl ?_
   refine WD.done rfl ?_
   subst hK19
   obtain rfl := endS (show some _ = some r from hp)
   exact WJ.rto 200 rfl (.cell (v := .int .i64 v0_0_h19) 0 rfl rfl rfl (.cell (v := .int .i64 v1_0_h19) 1 rfl rfl rfl .nil)) rfl (fun ids H' fr => ⟨fr.ext0, rfl⟩)
/-! 44 tipstaff/profile.Travel -/
def f44 (k : Nat) (x0 : Int) (x1 : Int) : Option (Int × Int) :=
 (f55 x0 x1).bind fun t10 =>
 if t10 then
  (f56 k x0 x1).bind fun (t15_0, t15_1) =>
  some (t15_0, 0)
 else
  some (0, 2)
set_option maxHeartbeats 40000000 in
set_option maxRecDepth 20000 in
theorem f44_ok {k : Nat} {H : Hp} {x0 : Int} {x1 : Int} {r : Int × Int} (hp : f44 k x0 x1 = some r) :
  SCall Tryd.prog 44 [.int .i64 x0, .int .i64 x1] H (Ret fun v H' => Ext H H' ∧ R_3_35 r H.next H' v) := by
 unfold f44 at hp
 replace hp := topS hp
 refine SCall.g Tryd.func44 rfl rfl rfl rfl rfl (l := [(0, .v (.int .i64 x0)), (1, .v (.int .i64 x1))]) (fun _ => rfl) (fun B abB => ?_)
 obtain ⟨t10, e10, hp⟩ := bindS hp
 refine WJ.cl 210 (R := R_4 t10) (fun hm h k => R_4.mono hm h k) rfl (fun ids H' fr => f55_ok e10) ?_
 rintro v B1 ⟨abB1, ivB1⟩ rfl
 refine ⟨_, rfl, ?_⟩
 cases t10
 ·replace hp := (itS hp).2 Bool.false_ne_true
  obtain rfl := endS (show some _ = some r from hp)
  exact WJ.rt 208 rfl rfl rfl (fun ids H' fr => ⟨fr.ext0, rfl⟩)
 ·replace hp := (itS hp).1 rfl
  obtain ⟨⟨t15_0, t15_1⟩, e15, hp⟩ := bindS hp
  refine WJ.cl 208 (R := R_3_3 ⟨t15_0, t15_1⟩) (fun hm h k => R_3_3.mono hm h k) rfl (fun ids H' fr => f56_ok e15) ?_
  rintro v B2 ⟨abB2, ivB2⟩ rfl
  refine ⟨_, rfl, ?_⟩
  obtain rfl := endS (show some _ = some r from hp)
  exact WJ.rt 212 rfl rfl rfl (fun ids H' fr => ⟨fr.ext0, rfl⟩)
/-! 25 tipstaff/config.way -/
def f25 (k : Nat) (x0 : Config) (x1 : Int) : Option Int :=
 if x1 = 0 then
  some 0
 else
  (f44 k x1 x0.Speed).bind fun (t13_0, t13_1) =>
  some (IntKind.i64.wrap (t13_0 + (IntKind.i64.wrap (2 * x0.Brake))))
set_option maxHeartbeats 40000000 in
set_option maxRecDepth 20000 in
theorem f25_ok {k : Nat} {H : Hp} {zr : Option Addr} {zs : Nat} {zd : Option Addr} {ze : Nat} {zi : Option Addr} {zj : Nat} {x0 : Config} {x1 : Int} {r : Int} (z8 : SlF 0 H intC zr zs x0.Gaps) (z9 : SlF 0 H (slC intC) zd ze x0.Rota) (zaa : SlF 0 H intC zi zj x0.Keys) (hp : f25 k x0 x1 = some r) :
  SCall Tryd.prog 25 [.agg ⟨[.int .i64 x0.Floors, .slice zr x0.Gaps.length zs, .int .i64 x0.Cars, .int .i64 x0.Speed, .int .i64 x0.Brake, .int .i64 x0.Tol, .int .i64 x0.Width, .int .i64 x0.Dwell, .int .i64 x0.Retries, .int .i64 x0.Empty, .int .i64 x0.Full, .int .i64 x0.Trips, .int .i64 x0.Slots, .slice zd x0.Rota.length ze, .int .u64 x0.Rules_0_Mask, .int .i64 x0.Rules_0_Home, .int .i64 x0.Rules_0_Calls, .int .u64 x0.Rules_1_Mask, .int .i64 x0.Rules_1_Home, .int .i64 x0.Rules_1_Calls, .int .u64 x0.Rules_2_Mask, .int .i64 x0.Rules_2_Home, .int .i64 x0.Rules_2_Calls, .slice zi x0.Keys.length zj, .int .i64 x0.Life]⟩, .int .i64 x1] H (Ret fun v H' => Ext H H' ∧ R_3 r H.next H' v) := by
 obtain ⟨zn, zt, zy, zz, z0, z1, zv, zw, zx, zq, z2, z3, zu, za, zb, zc, zg, zf, zk, zm, zl, zo, zp, zh, z4⟩ := x0
 unfold f25 at hp
 replace hp := topS hp
 refine SCall.g Tryd.func25 rfl rfl rfl rfl rfl (l := [(0, .v (.agg ⟨[.int .i64 zn, .slice zr zt.length zs, .int .i64 zy, .int .i64 zz, .int .i64 z0, .int .i64 z1, .int .i64 zv, .int .i64 zw, .int .i64 zx, .int .i64 zq, .int .i64 z2, .int .i64 z3, .int .i64 zu, .slice zd za.length ze, .int .u64 zb, .int .i64 zc, .int .i64 zg, .int .u64 zf, .int .i64 zk, .int .i64 zm, .int .u64 zl, .int .i64 zo, .int .i64 zp, .slice zi zh.length zj, .int .i64 z4]⟩)), (1, .v (.int .i64 x1))]) (fun _ => rfl) (fun B abB => ?_)
 refine WJ.ci 209 hp rfl rfl rfl rfl rfl rfl rfl rfl rfl (fun hc8 hp => ?_) (fun hc8 hp => ?_)
 ·obtain rfl := endS (show some _ = some r from hp)
  exact WJ.rt 206 rfl rfl rfl (fun ids H' fr => ⟨fr.ext0, rfl⟩)
 ·obtain ⟨⟨t13_0, t13_1⟩, e13, hp⟩ := bindS hp
  refine WJ.cl 208 (R := R_3_35 ⟨t13_0, t13_1⟩) (fun hm h k => R_3_35.mono hm h k) rfl (fun ids H' fr => f44_ok e13) ?_
  rintro v B1 ⟨abB1, ivB1⟩ rfl
  refine ⟨_, rfl, ?_⟩
  obtain rfl := endS (show some _ = some r from hp)
  exact WJ.rt 215 rfl rfl rfl (fun ids H' fr => ⟨fr.ext0, rfl⟩)
/-! 45 tipstaff/door.Rule -/
def f45 (x0 : DoorRule) : Option Int :=
 if x0.Width < 1 then
  some 2
 else
  if x0.Width > 20 then
   some 2
  else
   if x0.Dwell < 1 then
    some 2
   else
    if x0.Dwell > 50 then
     some 2
    else
     if x0.Retries < 0 then
      some 2
     else
      if x0.Retries > 5 then
       some 2
      else
       some 0
set_option maxHeartbeats 40000000 in
set_option maxRecDepth 20000 in
theorem f45_ok {H : Hp} {x0 : DoorRule} {r : Int} (hp : f45 x0 = some r) :
  SCall Tryd.prog 45 [.agg ⟨[.int .i64 x0.Width, .int .i64 x0.Dwell, .int .i64 x0.Retries]⟩] H (Ret fun v H' => Ext H H' ∧ R_35 r H.next H' v) := by
 obtain ⟨zv, zw, zx⟩ := x0
 unfold f45 at hp
 replace hp := topS hp
 refine SCall.g Tryd.func45 rfl rfl rfl rfl rfl (l := [(0, .v (.agg ⟨[.int .i64 zv, .int .i64 zw, .int .i64 zx]⟩))]) (fun _ => rfl) (fun B abB => ?_)
 refine WJ.ci 210 hp rfl rfl rfl rfl rfl rfl rfl rfl rfl (fun hc5 hp => ?_) (fun hc5 hp => ?_)
 ·obtain rfl := endS (show some _ = some r from hp)
  exact WJ.rt 231 rfl rfl rfl (fun ids H' fr => ⟨fr.ext0, rfl⟩)
 ·refine WJ.ci 203 hp rfl rfl rfl rfl rfl rfl rfl rfl rfl (fun hc9 hp => ?_) (fun hc9 hp => ?_)
  ·obtain rfl := endS (show some _ = some r from hp)
   exact WJ.rt 227 rfl rfl rfl (fun ids H' fr => ⟨fr.ext0, rfl⟩)
  ·refine WJ.ci 204 hp rfl rfl rfl rfl rfl rfl rfl rfl rfl (fun hc14 hp => ?_) (fun hc14 hp => ?_)
   ·obtain rfl := endS (show some _ = some r from hp)
    exact WJ.rt 222 rfl rfl rfl (fun ids H' fr => ⟨fr.ext0, rfl⟩)
   ·refine WJ.ci 204 hp rfl rfl rfl rfl rfl rfl rfl rfl rfl (fun hc19 hp => ?_) (fun hc19 hp => ?_)
    ·obtain rfl := endS (show some _ = some r from hp)
     exact WJ.rt 217 rfl rfl rfl (fun ids H' fr => ⟨fr.ext0, rfl⟩)
    ·refine WJ.ci 204 hp rfl rfl rfl rfl rfl rfl rfl rfl rfl (fun hc24 hp => ?_) (fun hc24 hp => ?_)
     ·obtain rfl := endS (show some _ = some r from hp)
      exact WJ.rt 212 rfl rfl rfl (fun ids H' fr => ⟨fr.ext0, rfl⟩)
     ·refine WJ.ci 204 hp rfl rfl rfl rfl rfl rfl rfl rfl rfl (fun hc29 hp => ?_) (fun hc29 hp => ?_)
      ·obtain rfl := endS (show some _ = some r from hp)
       exact WJ.rt 207 rfl rfl rfl (fun ids H' fr => ⟨fr.ext0, rfl⟩)
      ·obtain rfl := endS (show some _ = some r from hp)
       exact WJ.rt 208 rfl rfl rfl (fun ids H' fr => ⟨fr.ext0, rfl⟩)
/-! 26 tipstaff/door.Worst -/
def f26 (x0 : DoorRule) : Option (Int × Int) :=
 (f45 (DoorRule.mk x0.Width x0.Dwell x0.Retries)).bind fun t6 =>
 if t6 = 0 then
  some (IntKind.i64.wrap ((IntKind.i64.wrap ((IntKind.i64.wrap (2 * x0.Width)) + x0.Dwell)) + (IntKind.i64.wrap (x0.Retries * (IntKind.i64.wrap ((IntKind.i64.wrap ((IntKind.i64.wrap (2 * x0.Width)) - 1)) + x0.Dwell))))), 0)
 else
  some (0, t6)
set_option maxHeartbeats 40000000 in
set_option maxRecDepth 20000 in
theorem f26_ok {H : Hp} {x0 : DoorRule} {r : Int × Int} (hp : f26 x0 = some r) :
  SCall Tryd.prog 26 [.agg ⟨[.int .i64 x0.Width, .int .i64 x0.Dwell, .int .i64 x0.Retries]⟩] H (Ret fun v H' => Ext H H' ∧ R_3_35 r H.next H' v) := by
 obtain ⟨zv, zw, zx⟩ := x0
 unfold f26 at hp
 replace hp := topS hp
 refine SCall.g Tryd.func26 rfl rfl rfl rfl rfl (l := [(0, .v (.agg ⟨[.int .i64 zv, .int .i64 zw, .int .i64 zx]⟩))]) (fun _ => rfl) (fun B abB => ?_)
 obtain ⟨t6, e6, hp⟩ := bindS hp
 refine WJ.cl 210 (R := R_35 t6) (fun hm h k => R_35.mono hm h k) rfl (fun ids H' fr => f45_ok (x0 := (DoorRule.mk zv zw zx)) e6) ?_
 rintro v B1 ⟨abB1, ivB1⟩ rfl
 refine ⟨_, rfl, ?_⟩
 refine WJ.cn 205 hp rfl rfl rfl rfl rfl rfl rfl rfl rfl (fun hc8 hp => ?_) (fun hc8 hp => ?_)
 ·obtain rfl := endS (show some _ = some r from hp)
  exact WJ.rt 208 rfl rfl rfl (fun ids H' fr => ⟨fr.ext0, rfl⟩)
 ·obtain rfl := endS (show some _ = some r from hp)
  exact WJ.rt 225 rfl rfl rfl (fun ids H' fr => ⟨fr.ext0, rfl⟩)
/-! 4 tipstaff/tipstafflaw27.light -/
def f4_l1 (za : List (List Int)) : Nat → Int → Option ((Bool) ⊕ (Unit))
 | 0, _ => none
 | n + 1, x3 =>
  if x3 < (za.length : Int) then
   (rd za x3).bind fun t30 =>
   if (t30.length : Int) > 100 then
    some (Sum.inl (false : Bool))
   else
    f4_l1 za n (IntKind.i64.wrap (x3 + 1))
  else
   some (Sum.inr ())
def f4 (k : Nat) (x0 : Config) : Option Bool :=
 if (x0.Gaps.length : Int) > 100 then
  some false
 else
  if (x0.Rota.length : Int) > 20 then
   some false
  else
   if (x0.Keys.length : Int) > 100 then
    some false
   else
    (f4_l1 x0.Rota k 0).bind fun s => match s with
     | .inl st => some st
     | .inr _ => 
      some true
set_option maxHeartbeats 40000000 in
set_option maxRecDepth 20000 in
theorem f4_ok {k : Nat} {H : Hp} {zr : Option Addr} {zs : Nat} {zd : Option Addr} {ze : Nat} {zi : Option Addr} {zj : Nat} {x0 : Config} {r : Bool} (z8 : SlF 0 H intC zr zs x0.Gaps) (z9 : SlF 0 H (slC intC) zd ze x0.Rota) (zaa : SlF 0 H intC zi zj x0.Keys) (hp : f4 k x0 = some r) :
  SCall Tryd.prog 4 [.agg ⟨[.int .i64 x0.Floors, .slice zr x0.Gaps.length zs, .int .i64 x0.Cars, .int .i64 x0.Speed, .int .i64 x0.Brake, .int .i64 x0.Tol, .int .i64 x0.Width, .int .i64 x0.Dwell, .int .i64 x0.Retries, .int .i64 x0.Empty, .int .i64 x0.Full, .int .i64 x0.Trips, .int .i64 x0.Slots, .slice zd x0.Rota.length ze, .int .u64 x0.Rules_0_Mask, .int .i64 x0.Rules_0_Home, .int .i64 x0.Rules_0_Calls, .int .u64 x0.Rules_1_Mask, .int .i64 x0.Rules_1_Home, .int .i64 x0.Rules_1_Calls, .int .u64 x0.Rules_2_Mask, .int .i64 x0.Rules_2_Home, .int .i64 x0.Rules_2_Calls, .slice zi x0.Keys.length zj, .int .i64 x0.Life]⟩] H (Ret fun v H' => Ext H H' ∧ R_4 r H.next H' v) := by
 obtain ⟨zn, zt, zy, zz, z0, z1, zv, zw, zx, zq, z2, z3, zu, za, zb, zc, zg, zf, zk, zm, zl, zo, zp, zh, z4⟩ := x0
 unfold f4 at hp
 replace hp := topS hp
 refine SCall.g Tryd.func4 rfl rfl rfl rfl rfl (l := [(0, .v (.agg ⟨[.int .i64 zn, .slice zr zt.length zs, .int .i64 zy, .int .i64 zz, .int .i64 z0, .int .i64 z1, .int .i64 zv, .int .i64 zw, .int .i64 zx, .int .i64 zq, .int .i64 z2, .int .i64 z3, .int .i64 zu, .slice zd za.length ze, .int .u64 zb, .int .i64 zc, .int .i64 zg, .int .u64 zf, .int .i64 zk, .int .i64 zm, .int .u64 zl, .int .i64 zo, .int .i64 zp, .slice zi zh.length zj, .int .i64 z4]⟩))]) (fun _ => rfl) (fun B abB => ?_)
 refine WJ.ci 211 hp rfl rfl rfl rfl rfl rfl rfl rfl rfl (fun hc7 hp => ?_) (fun hc7 hp => ?_)
 ·obtain rfl := endS (show some _ = some r from hp)
  exact WJ.rt 218 rfl rfl rfl (fun ids H' fr => ⟨fr.ext0, rfl⟩)
 ·refine WJ.ci 204 hp rfl rfl rfl rfl rfl rfl rfl rfl rfl (fun hc12 hp => ?_) (fun hc12 hp => ?_)
  ·obtain rfl := endS (show some _ = some r from hp)
   exact WJ.rt 213 rfl rfl rfl (fun ids H' fr => ⟨fr.ext0, rfl⟩)
  ·refine WJ.ci 205 hp rfl rfl rfl rfl rfl rfl rfl rfl rfl (fun hc18 hp => ?_) (fun hc18 hp => ?_)
   ·obtain rfl := endS (show some _ = some r from hp)
    exact WJ.rt 207 rfl rfl rfl (fun ids H' fr => ⟨fr.ext0, rfl⟩)
   ·refine WJ.adv 10 rfl ?_
    obtain ⟨K20, hK20, hp⟩ : ∃ K, K = _ ∧ Option.bind _ K = some r := ⟨_, rfl, cutS hp⟩
    refine WJ.cut 2 (α := Unit) (fun y => []) (fun y => [[.int .i64 zn, .slice zr zt.length zs, .int .i64 zy, .int .i64 zz, .int .i64 z0, .int .i64 z1, .int .i64 zv, .int .i64 zw, .int .i64 zx, .int .i64 zq, .int .i64 z2, .int .i64 z3, .int .i64 zu, .slice zd za.length ze, .int .u64 zb, .int .i64 zc, .int .i64 zg, .int .u64 zf, .int .i64 zk, .int .i64 zm, .int .u64 zl, .int .i64 zo, .int .i64 zp, .slice zi zh.length zj, .int .i64 z4]]) (fun y => []) (fun y => B) (fun y => K20 (Sum.inr ()) = some r) ?_ (fun j20 => ?_)
    ·rintro u hp
     subst hK20
     show WJ _ _ _ B [] _ _ ⟨[], [[.int .i64 zn, .slice zr zt.length zs, .int .i64 zy, .int .i64 zz, .int .i64 z0, .int .i64 z1, .int .i64 zv, .int .i64 zw, .int .i64 zx, .int .i64 zq, .int .i64 z2, .int .i64 z3, .int .i64 zu, .slice zd za.length ze, .int .u64 zb, .int .i64 zc, .int .i64 zg, .int .u64 zf, .int .i64 zk, .int .i64 zm, .int .u64 zl, .int .i64 zo, .int .i64 zp, .slice zi zh.length zj, .int .i64 z4]], true, 0⟩
     obtain rfl := endS (show some _ = some r from hp)
     exact WJ.rt 204 rfl rfl rfl (fun ids H' fr => ⟨fr.ext0, rfl⟩)
    ·refine WJ.lp 200 (α := Nat × Int) (fun y => [(1, .p 0 0), (3, .v (.int .i64 y.2))]) (fun y => [[.int .i64 zn, .slice zr zt.length zs, .int .i64 zy, .int .i64 zz, .int .i64 z0, .int .i64 z1, .int .i64 zv, .int .i64 zw, .int .i64 zx, .int .i64 zq, .int .i64 z2, .int .i64 z3, .int .i64 zu, .slice zd za.length ze, .int .u64 zb, .int .i64 zc, .int .i64 zg, .int .u64 zf, .int .i64 zk, .int .i64 zm, .int .u64 zl, .int .i64 zo, .int .i64 zp, .slice zi zh.length zj, .int .i64 z4]]) (fun y => []) (fun y => B) (fun y => y.1) (fun y => Option.bind (f4_l1 za y.1 y.2) K20 = some r) (k, 0) rfl hp (by exact ⟨rfl, rfl, trivial⟩) rfl rfl rfl ?_
     rintro ⟨n, x3⟩ hp ih20
     show WJ _ _ _ B [] _ _ ⟨[(1, .p 0 0), (3, .v (.int .i64 x3))], [[.int .i64 zn, .slice zr zt.length zs, .int .i64 zy, .int .i64 zz, .int .i64 z0, .int .i64 z1, .int .i64 zv, .int .i64 zw, .int .i64 zx, .int .i64 zq, .int .i64 z2, .int .i64 z3, .int .i64 zu, .slice zd za.length ze, .int .u64 zb, .int .i64 zc, .int .i64 zg, .int .u64 zf, .int .i64 zk, .int .i64 zm, .int .u64 zl, .int .i64 zo, .int .i64 zp, .slice zi zh.length zj, .int .i64 z4]], true, 0⟩
     replace hp : Option.bind (f4_l1 za n x3) K20 = some r := hp
     cases n with
     | zero => rw [f4_l1] at hp; exact (noS hp).elim
     | succ n =>
      rw [f4_l1] at hp
      refine WJ.ci 207 hp rfl rfl rfl rfl rfl rfl rfl rfl rfl (fun hc24 hp => ?_) (fun hc24 hp => ?_)
      ·obtain ⟨t30, e30, hp⟩ := bindS hp
       obtain ⟨b30, o30, cs30, i30, ⟨a_t30, c_t30, rfl, g_t30⟩, p30⟩ := z9.at e30 u23 sz22
       refine WJ.hd (v := .pointer (some ⟨b30, o30, none⟩)) 210 rfl rfl rfl rfl (fun ids H' fr => opD_indexAddr rfl (evV_eq _ _ _ _ _ rfl) (evV_eq _ _ _ _ _ rfl) (i30 _)) rfl ?_
       refine WJ.hd (v := .slice a_t30 t30.length c_t30) 200 rfl rfl rfl rfl (fun ids H' fr => opD_load rfl (evV_eq _ _ _ _ _ rfl) ((p30.mono (Nat.zero_le _) fr.ext0.abv).load (d := 0) ag22 rfl)) rfl ?_
       refine WJ.ci 201 hp rfl rfl rfl rfl rfl rfl rfl rfl rfl (fun hc33 hp => ?_) (fun hc33 hp => ?_)
       ·subst hK20
        obtain rfl := endS (show some _ = some r from hp)
        exact WJ.rt 206 rfl rfl rfl (fun ids H' fr => ⟨fr.ext0, rfl⟩)
       ·exact WJ.ag 209 rfl (by exact ⟨rfl, rfl, trivial⟩) rfl rfl rfl (ih20 (n, IntKind.i64.wrap (x3 + 1)) hp (Nat.lt_succ_self _))
      ·exact WJ.goto 3 (j20 () hp) rfl rfl (by exact trivial) rfl rfl rfl
/-! 23 tipstaff/tipstaffkit.OwnInts -/
def f23 (x0 : List Int) : Option (List Int) :=
 (apd 8 ([] : List Int) x0).bind fun l5 =>
 some l5
set_option maxHeartbeats 40000000 in
set_option maxRecDepth 20000 in
theorem f23_ok {H : Hp} {a_x0 : Option Addr} {c_x0 : Nat} {x0 : List Int} {r : List Int} (g_x0 : SlF 0 H intC a_x0 c_x0 x0) (hp : f23 x0 = some r) :
  SCall Tryd.prog 23 [.slice a_x0 x0.length c_x0] H (Ret fun v H' => Ext H H' ∧ R_22 r H.next H' v) := by
 unfold f23 at hp
 replace hp := topS hp
 refine SCall.g Tryd.func23 rfl rfl rfl rfl rfl (l := [(0, .v (.slice a_x0 x0.length c_x0))]) (fun _ => rfl) (fun B abB => ?_)
 refine WJ.bs (cs := encL iE ([] : List Int)) (sz := 1) (pl := []) 206 rfl rfl rfl rfl rfl (fun _ _ => rfl) (fun _ => by rfl) rfl rfl ?_
 intro b3
 refine ⟨_, rfl, ?_⟩
 obtain ⟨l5, e5, hp⟩ := bindS hp
 obtain ⟨bd5, rfl⟩ := apd_some e5
 refine WJ.ap (L := ([] : List Int)) (L2 := x0) 201 0 rfl rfl rfl rfl rfl rfl rfl rfl (el22 rfl) rfl (fun _ => rfl) (fun _ => rfl) rfl (fun ids H' fr => (g_x0.mono (Nat.zero_le _) fr.ext0.abv).srcF) bd5 ?_
 intro a5 c5
 refine ⟨_, rfl, ?_⟩
 obtain rfl := endS (show some _ = some r from hp)
 exact WJ.rt 202 rfl rfl rfl (fun ids H' fr => ⟨fr.ext0, ⟨_, _, rfl, (fr.slOwn (j := 0) rfl rfl (Nat.le_refl _))⟩⟩)
/-! 6 tipstaff/tipstaffkit.OwnConfig -/
def f6_l1 (za : List (List Int)) : Nat → (List (List Int)) → Int → Option ((List (List Int)))
 | 0, _, _ => none
 | n + 1, l2_h22, zbd =>
  if zbd < (za.length : Int) then
   (rd za zbd).bind fun t24 =>
   (f23 t24).bind fun t26 =>
   (apd 24 l2_h22 ([t26] : List (List Int))).bind fun l28 =>
   f6_l1 za n l28 (IntKind.i64.wrap (zbd + 1))
  else
   some (l2_h22)
def f6 (k : Nat) (x0 : Config) : Option Config :=
 (f23 x0.Gaps).bind fun t7 =>
 (f23 x0.Keys).bind fun t10 =>
 (f6_l1 x0.Rota k ([]) 0).bind fun l2_22 =>
  some (Config.mk x0.Floors t7 x0.Cars x0.Speed x0.Brake x0.Tol x0.Width x0.Dwell x0.Retries x0.Empty x0.Full x0.Trips x0.Slots l2_22 x0.Rules_0_Mask x0.Rules_0_Home x0.Rules_0_Calls x0.Rules_1_Mask x0.Rules_1_Home x0.Rules_1_Calls x0.Rules_2_Mask x0.Rules_2_Home x0.Rules_2_Calls t10 x0.Life)
set_option maxHeartbeats 40000000 in
set_option maxRecDepth 20000 in
theorem f6_ok {k : Nat} {H : Hp} {zr : Option Addr} {zs : Nat} {zd : Option Addr} {ze : Nat} {zi : Option Addr} {zj : Nat} {x0 : Config} {r : Config} (z8 : SlF 0 H intC zr zs x0.Gaps) (z9 : SlF 0 H (slC intC) zd ze x0.Rota) (zaa : SlF 0 H intC zi zj x0.Keys) (hp : f6 k x0 = some r) :
  SCall Tryd.prog 6 [.agg ⟨[.int .i64 x0.Floors, .slice zr x0.Gaps.length zs, .int .i64 x0.Cars, .int .i64 x0.Speed, .int .i64 x0.Brake, .int .i64 x0.Tol, .int .i64 x0.Width, .int .i64 x0.Dwell, .int .i64 x0.Retries, .int .i64 x0.Empty, .int .i64 x0.Full, .int .i64 x0.Trips, .int .i64 x0.Slots, .slice zd x0.Rota.length ze, .int .u64 x0.Rules_0_Mask, .int .i64 x0.Rules_0_Home, .int .i64 x0.Rules_0_Calls, .int .u64 x0.Rules_1_Mask, .int .i64 x0.Rules_1_Home, .int .i64 x0.Rules_1_Calls, .int .u64 x0.Rules_2_Mask, .int .i64 x0.Rules_2_Home, .int .i64 x0.Rules_2_Calls, .slice zi x0.Keys.length zj, .int .i64 x0.Life]⟩] H (Ret fun v H' => Ext H H' ∧ R_29 r H.next H' v) := by
 obtain ⟨zn, zt, zy, zz, z0, z1, zv, zw, zx, zq, z2, z3, zu, za, zb, zc, zg, zf, zk, zm, zl, zo, zp, zh, z4⟩ := x0
 unfold f6 at hp
 replace hp := topS hp
 refine SCall.g Tryd.func6 rfl rfl rfl rfl rfl (l := [(0, .v (.agg ⟨[.int .i64 zn, .slice zr zt.length zs, .int .i64 zy, .int .i64 zz, .int .i64 z0, .int .i64 z1, .int .i64 zv, .int .i64 zw, .int .i64 zx, .int .i64 zq, .int .i64 z2, .int .i64 z3, .int .i64 zu, .slice zd za.length ze, .int .u64 zb, .int .i64 zc, .int .i64 zg, .int .u64 zf, .int .i64 zk, .int .i64 zm, .int .u64 zl, .int .i64 zo, .int .i64 zp, .slice zi zh.length zj, .int .i64 z4]⟩))]) (fun _ => rfl) (fun B abB => ?_)
 have z6 := z8.mono (Nat.le_refl _) abB
 have z7 := z9.mono (Nat.le_refl _) abB
 have z5 := zaa.mono (Nat.le_refl _) abB
 refine WJ.adv 3 rfl ?_
 refine WJ.liftS (loc := []) rfl rfl (fun bv0 => ?_)
 refine WJ.adv 1 rfl ?_
 refine WJ.liftS (loc := []) rfl rfl (fun bv1 => ?_)
 refine WJ.drCG (c := 5) (m := 5) 202 rfl gmix (by kernel_rfl) (by kernel_rfl) rfl rfl (fun D1 eD1 abD1 obD1 => ?_)
 have zcj := z6
 have zck := z7
 have zcl := z5
 refine WD.hd (v := .slice zr zt.length zs) rfl rfl rfl rfl (fun ids H' s0 h0 f => side_load rfl rfl rfl (obD1 0 _ _ rfl rfl) h0 f) (fun ids H' fr => opD_load rfl (evV_eq _ _ _ _ _ rfl) (fr.ldOwn (j := 0) rfl rfl)) rfl ?_
 obtain ⟨t7, e7, hp⟩ := bindS hp
 refine WD.cl (R := R_22 t7) (fun hm h k => R_22.mono hm h k) rfl (fun ids H' fr => f23_ok (z6.mono (Nat.zero_le _) (fr.abv.le (Nat.zero_le _))) e7) ?_
 rintro v B2 ⟨abB2, ivB2⟩ ⟨a_t7, c_t7, rfl, g_t7⟩
 refine ⟨_, rfl, ?_⟩
 replace z6 := z6.mono (Nat.le_refl _) (abB2.le (Nat.zero_le _))
 replace z7 := z7.mono (Nat.le_refl _) (abB2.le (Nat.zero_le _))
 replace z5 := z5.mono (Nat.le_refl _) (abB2.le (Nat.zero_le _))
 refine WD.hd (v := .slice zi zh.length zj) rfl rfl rfl rfl (fun ids H' s0 h0 f => side_load rfl rfl rfl (obD1 0 _ _ rfl rfl) h0 f) (fun ids H' fr => opD_load rfl (evV_eq _ _ _ _ _ rfl) (fr.ldOwn (j := 0) rfl rfl)) rfl ?_
 refine WD.done rfl ?_
 refine WJ.ph2 ?_
 obtain ⟨t10, e10, hp⟩ := bindS hp
 refine WD.cl (R := R_22 t10) (fun hm h k => R_22.mono hm h k) rfl (fun ids H' fr => f23_ok (z5.mono (Nat.zero_le _) (fr.abv.le (Nat.zero_le _))) e10) ?_
 rintro v B3 ⟨abB3, ivB3⟩ ⟨a_t10, c_t10, rfl, g_t10⟩
 refine ⟨_, rfl, ?_⟩
 replace z6 := z6.mono (Nat.le_refl _) (abB3.le (Nat.zero_le _))
 replace z7 := z7.mono (Nat.le_refl _) (abB3.le (Nat.zero_le _))
 replace z5 := z5.mono (Nat.le_refl _) (abB3.le (Nat.zero_le _))
 replace g_t7 := g_t7.mono (Nat.le_refl _) (abB3.le (Nat.zero_le _))
 refine WD.sb (cs' := [.int .i64 zn, .slice a_t7 t7.length c_t7, .int .i64 zy, .int .i64 zz, .int .i64 z0, .int .i64 z1, .int .i64 zv, .int .i64 zw, .int .i64 zx, .int .i64 zq, .int .i64 z2, .int .i64 z3, .int .i64 zu, .slice zd za.length ze, .int .u64 zb, .int .i64 zc, .int .i64 zg, .int .u64 zf, .int .i64 zk, .int .i64 zm, .int .u64 zl, .int .i64 zo, .int .i64 zp, .slice zi zh.length zj, .int .i64 z4]) (j := 0) rfl rfl rfl rfl rfl rfl rfl rfl (by kernel_rfl) rfl ?_
 refine WD.sb (cs' := [.int .i64 zn, .slice a_t7 t7.length c_t7, .int .i64 zy, .int .i64 zz, .int .i64 z0, .int .i64 z1, .int .i64 zv, .int .i64 zw, .int .i64 zx, .int .i64 zq, .int .i64 z2, .int .i64 z3, .int .i64 zu, .slice zd za.length ze, .int .u64 zb, .int .i64 zc, .int .i64 zg, .int .u64 zf, .int .i64 zk, .int .i64 zm, .int .u64 zl, .int .i64 zo, .int .i64 zp, .slice a_t10 t10.length c_t10, .int .i64 z4]) (j := 0) rfl rfl rfl rfl rfl rfl rfl rfl (by kernel_rfl) rfl ?_
 refine WD.done rfl ?_
 refine WJ.adv 10 rfl ?_
 refine WJ.nw 1 ?_
 have rn2 : RepL (slC intC) H.next B3 [] ([] : List (List Int)) := rfl
 obtain ⟨K22, hK22, hp⟩ : ∃ K, K = _ ∧ Option.bind _ K = some r := ⟨_, rfl, cutS hp⟩
 refine WJ.cut 2 (α := (List (List Int)) × (Option Addr) × Nat × (List Value) × Hp) (fun y => [(1, .v (.pointer (some ⟨bv0, 0, none⟩))), (2, .v (.pointer (some ⟨bv1, 0, none⟩))), (3, .v (.slice y.2.1 y.1.length y.2.2.1))]) (fun y => []) (fun y => [⟨some ⟨bv0, 0, none⟩, 25, 1, [.int .i64 zn, .slice a_t7 t7.length c_t7, .int .i64 zy, .int .i64 zz, .int .i64 z0, .int .i64 z1, .int .i64 zv, .int .i64 zw, .int .i64 zx, .int .i64 zq, .int .i64 z2, .int .i64 z3, .int .i64 zu, .slice zd za.length ze, .int .u64 zb, .int .i64 zc, .int .i64 zg, .int .u64 zf, .int .i64 zk, .int .i64 zm, .int .u64 zl, .int .i64 zo, .int .i64 zp, .slice a_t10 t10.length c_t10, .int .i64 z4]⟩, ⟨some ⟨bv1, 0, none⟩, 25, 1, [.int .i64 0, .slice none 0 0, .int .i64 0, .int .i64 0, .int .i64 0, .int .i64 0, .int .i64 0, .int .i64 0, .int .i64 0, .int .i64 0, .int .i64 0, .int .i64 0, .int .i64 0, .slice none 0 0, .int .u64 0, .int .i64 0, .int .i64 0, .int .u64 0, .int .i64 0, .int .i64 0, .int .u64 0, .int .i64 0, .int .i64 0, .slice none 0 0, .int .i64 0]⟩, ⟨y.2.1, y.2.2.1, 1, y.2.2.2.1⟩]) (fun y => y.2.2.2.2) (fun y => K22 (y.1) = some r ∧ SlF 0 y.2.2.2.2 intC zr zs zt ∧ SlF 0 y.2.2.2.2 (slC intC) zd ze za ∧ SlF 0 y.2.2.2.2 intC zi zj zh ∧ SlF H.next y.2.2.2.2 intC a_t7 c_t7 t7 ∧ SlF H.next y.2.2.2.2 intC a_t10 c_t10 t10 ∧ RepL (slC intC) H.next y.2.2.2.2 [] ([] : List (List Int)) ∧ RepL (slC intC) H.next y.2.2.2.2 y.2.2.2.1 y.1) ?_ (fun j22 => ?_)
 ·rintro ⟨l2_22, a2_22, c2_22, cs2_22, B6⟩ ⟨hp, z6, z7, z5, g_t7, g_t10, rn2, r2_22⟩
  subst hK22
  show WJ _ _ _ B6 [⟨some ⟨bv0, 0, none⟩, 25, 1, [.int .i64 zn, .slice a_t7 t7.length c_t7, .int .i64 zy, .int .i64 zz, .int .i64 z0, .int .i64 z1, .int .i64 zv, .int .i64 zw, .int .i64 zx, .int .i64 zq, .int .i64 z2, .int .i64 z3, .int .i64 zu, .slice zd za.length ze, .int .u64 zb, .int .i64 zc, .int .i64 zg, .int .u64 zf, .int .i64 zk, .int .i64 zm, .int .u64 zl, .int .i64 zo, .int .i64 zp, .slice a_t10 t10.length c_t10, .int .i64 z4]⟩, ⟨some ⟨bv1, 0, none⟩, 25, 1, [.int .i64 0, .slice none 0 0, .int .i64 0, .int .i64 0, .int .i64 0, .int .i64 0, .int .i64 0, .int .i64 0, .int .i64 0, .int .i64 0, .int .i64 0, .int .i64 0, .int .i64 0, .slice none 0 0, .int .u64 0, .int .i64 0, .int .i64 0, .int .u64 0, .int .i64 0, .int .i64 0, .int .u64 0, .int .i64 0, .int .i64 0, .slice none 0 0, .int .i64 0]⟩, ⟨a2_22, c2_22, 1, cs2_22⟩] _ _ ⟨[(1, .v (.pointer (some ⟨bv0, 0, none⟩))), (2, .v (.pointer (some ⟨bv1, 0, none⟩))), (3, .v (.slice a2_22 l2_22.length c2_22))], [], true, 0⟩
  refine WJ.sb 204 (cs' := [.int .i64 zn, .slice a_t7 t7.length c_t7, .int .i64 zy, .int .i64 zz, .int .i64 z0, .int .i64 z1, .int .i64 zv, .int .i64 zw, .int .i64 zx, .int .i64 zq, .int .i64 z2, .int .i64 z3, .int .i64 zu, .slice a2_22 l2_22.length c2_22, .int .u64 zb, .int .i64 zc, .int .i64 zg, .int .u64 zf, .int .i64 zk, .int .i64 zm, .int .u64 zl, .int .i64 zo, .int .i64 zp, .slice a_t10 t10.length c_t10, .int .i64 z4]) (j := 0) rfl rfl rfl rfl rfl rfl rfl rfl (by kernel_rfl) rfl ?_
  refine WJ.hd (v := .agg ⟨[.int .i64 zn, .slice a_t7 t7.length c_t7, .int .i64 zy, .int .i64 zz, .int .i64 z0, .int .i64 z1, .int .i64 zv, .int .i64 zw, .int .i64 zx, .int .i64 zq, .int .i64 z2, .int .i64 z3, .int .i64 zu, .slice a2_22 l2_22.length c2_22, .int .u64 zb, .int .i64 zc, .int .i64 zg, .int .u64 zf, .int .i64 zk, .int .i64 zm, .int .u64 zl, .int .i64 zo, .int .i64 zp, .slice a_t10 t10.length c_t10, .int .i64 z4]⟩) 203 rfl rfl rfl rfl (fun ids H' fr => opD_load rfl (evV_eq _ _ _ _ _ rfl) (fr.ldOwn (j := 0) rfl rfl)) rfl ?_
  refine WJ.sb 200 (cs' := [.int .i64 zn, .slice a_t7 t7.length c_t7, .int .i64 zy, .int .i64 zz, .int .i64 z0, .int .i64 z1, .int .i64 zv, .int .i64 zw, .int .i64 zx, .int .i64 zq, .int .i64 z2, .int .i64 z3, .int .i64 zu, .slice a2_22 l2_22.length c2_22, .int .u64 zb, .int .i64 zc, .int .i64 zg, .int .u64 zf, .int .i64 zk, .int .i64 zm, .int .u64 zl, .int .i64 zo, .int .i64 zp, .slice a_t10 t10.length c_t10, .int .i64 z4]) (j := 1) rfl rfl rfl rfl rfl rfl rfl rfl (by kernel_rfl) rfl ?_
  obtain rfl := endS (show some _ = some r from hp)
  exact WJ.rto 201 rfl (.cell (v := .agg ⟨[.int .i64 zn, .slice a_t7 t7.length c_t7, .int .i64 zy, .int .i64 zz, .int .i64 z0, .int .i64 z1, .int .i64 zv, .int .i64 zw, .int .i64 zx, .int .i64 zq, .int .i64 z2, .int .i64 z3, .int .i64 zu, .slice a2_22 l2_22.length c2_22, .int .u64 zb, .int .i64 zc, .int .i64 zg, .int .u64 zf, .int .i64 zk, .int .i64 zm, .int .u64 zl, .int .i64 zo, .int .i64 zp, .slice a_t10 t10.length c_t10, .int .i64 z4]⟩) 1 rfl rfl rfl .nil) rfl (fun ids H' fr => ⟨fr.ext0, ⟨_, _, _, _, _, _, rfl, (g_t7.mono (Nat.le_refl _) (fr.abv.le (Nat.zero_le _))), (fr.slN (j := 2) rfl rfl rfl r2_22 (Nat.le_refl _)), (g_t10.mono (Nat.le_refl _) (fr.abv.le (Nat.zero_le _)))⟩⟩)
 ·refine WJ.lp 200 (α := Nat × (List (List Int)) × Int × (Option Addr) × Nat × (List Value) × Hp) (fun y => [(1, .v (.pointer (some ⟨bv0, 0, none⟩))), (2, .v (.pointer (some ⟨bv1, 0, none⟩))), (3, .v (.slice y.2.2.2.1 y.2.1.length y.2.2.2.2.1)), (4, .v (.int .i64 y.2.2.1))]) (fun y => []) (fun y => [⟨some ⟨bv0, 0, none⟩, 25, 1, [.int .i64 zn, .slice a_t7 t7.length c_t7, .int .i64 zy, .int .i64 zz, .int .i64 z0, .int .i64 z1, .int .i64 zv, .int .i64 zw, .int .i64 zx, .int .i64 zq, .int .i64 z2, .int .i64 z3, .int .i64 zu, .slice zd za.length ze, .int .u64 zb, .int .i64 zc, .int .i64 zg, .int .u64 zf, .int .i64 zk, .int .i64 zm, .int .u64 zl, .int .i64 zo, .int .i64 zp, .slice a_t10 t10.length c_t10, .int .i64 z4]⟩, ⟨some ⟨bv1, 0, none⟩, 25, 1, [.int .i64 0, .slice none 0 0, .int .i64 0, .int .i64 0, .int .i64 0, .int .i64 0, .int .i64 0, .int .i64 0, .int .i64 0, .int .i64 0, .int .i64 0, .int .i64 0, .int .i64 0, .slice none 0 0, .int .u64 0, .int .i64 0, .int .i64 0, .int .u64 0, .int .i64 0, .int .i64 0, .int .u64 0, .int .i64 0, .int .i64 0, .slice none 0 0, .int .i64 0]⟩, ⟨y.2.2.2.1, y.2.2.2.2.1, 1, y.2.2.2.2.2.1⟩]) (fun y => y.2.2.2.2.2.2) (fun y => y.1) (fun y => Option.bind (f6_l1 za y.1 y.2.1 y.2.2.1) K22 = some r ∧ SlF 0 y.2.2.2.2.2.2 intC zr zs zt ∧ SlF 0 y.2.2.2.2.2.2 (slC intC) zd ze za ∧ SlF 0 y.2.2.2.2.2.2 intC zi zj zh ∧ SlF H.next y.2.2.2.2.2.2 intC a_t7 c_t7 t7 ∧ SlF H.next y.2.2.2.2.2.2 intC a_t10 c_t10 t10 ∧ RepL (slC intC) H.next y.2.2.2.2.2.2 [] ([] : List (List Int)) ∧ RepL (slC intC) H.next y.2.2.2.2.2.2 y.2.2.2.2.2.1 y.2.1) (k, ([] : List (List Int)), 0, none, 0, [], B3) rfl ⟨hp, z6, z7, z5, g_t7, g_t10, rn2, rn2⟩ (by exact ⟨rfl, rfl, rfl, rfl, trivial⟩) rfl rfl rfl ?_
  rintro ⟨n, l2_h22, zbd, a2_h22, c2_h22, cs2_h22, B4⟩ ⟨hp, z6, z7, z5, g_t7, g_t10, rn2, r2_h22⟩ ih22
  show WJ _ _ _ B4 [⟨some ⟨bv0, 0, none⟩, 25, 1, [.int .i64 zn, .slice a_t7 t7.length c_t7, .int .i64 zy, .int .i64 zz, .int .i64 z0, .int .i64 z1, .int .i64 zv, .int .i64 zw, .int .i64 zx, .int .i64 zq, .int .i64 z2, .int .i64 z3, .int .i64 zu, .slice zd za.length ze, .int .u64 zb, .int .i64 zc, .int .i64 zg, .int .u64 zf, .int .i64 zk, .int .i64 zm, .int .u64 zl, .int .i64 zo, .int .i64 zp, .slice a_t10 t10.length c_t10, .int .i64 z4]⟩, ⟨some ⟨bv1, 0, none⟩, 25, 1, [.int .i64 0, .slice none 0 0, .int .i64 0, .int .i64 0, .int .i64 0, .int .i64 0, .int .i64 0, .int .i64 0, .int .i64 0, .int .i64 0, .int .i64 0, .int .i64 0, .int .i64 0, .slice none 0 0, .int .u64 0, .int .i64 0, .int .i64 0, .int .u64 0, .int .i64 0, .int .i64 0, .int .u64 0, .int .i64 0, .int .i64 0, .slice none 0 0, .int .i64 0]⟩, ⟨a2_h22, c2_h22, 1, cs2_h22⟩] _ _ ⟨[(1, .v (.pointer (some ⟨bv0, 0, none⟩))), (2, .v (.pointer (some ⟨bv1, 0, none⟩))), (3, .v (.slice a2_h22 l2_h22.length c2_h22)), (4, .v (.int .i64 zbd))], [], true, 0⟩
  replace hp : Option.bind (f6_l1 za n l2_h22 zbd) K22 = some r := hp
  cases n with
  | zero => rw [f6_l1] at hp; exact (noS hp).elim
  | succ n =>
   rw [f6_l1] at hp
   refine WJ.hd (v := .slice zd za.length ze) 205 rfl rfl rfl rfl (fun ids H' fr => opD_load rfl (evV_eq _ _ _ _ _ rfl) (fr.ldOwn (j := 0) rfl rfl)) rfl ?_
   refine WJ.ci 201 hp rfl rfl rfl rfl rfl rfl rfl rfl rfl (fun hc17 hp => ?_) (fun hc17 hp => ?_)
   ·refine WJ.hd (v := .slice zd za.length ze) 208 rfl rfl rfl rfl (fun ids H' fr => opD_load rfl (evV_eq _ _ _ _ _ rfl) (fr.ldOwn (j := 0) rfl rfl)) rfl ?_
    obtain ⟨t24, e24, hp⟩ := bindS hp
    obtain ⟨b24, o24, cs24, i24, ⟨a_t24, c_t24, rfl, g_t24⟩, p24⟩ := z7.at e24 u23 sz22
    refine WJ.hd (v := .pointer (some ⟨b24, o24, none⟩)) 201 rfl rfl rfl rfl (fun ids H' fr => opD_indexAddr rfl (evV_eq _ _ _ _ _ rfl) (evV_eq _ _ _ _ _ rfl) (i24 _)) rfl ?_
    refine WJ.hd (v := .slice a_t24 t24.length c_t24) 200 rfl rfl rfl rfl (fun ids H' fr => opD_load rfl (evV_eq _ _ _ _ _ rfl) ((p24.mono (Nat.zero_le _) (fr.abv.le (Nat.zero_le _))).load (d := 0) ag22 rfl)) rfl ?_
    obtain ⟨t26, e26, hp⟩ := bindS hp
    refine WJ.cl 200 (R := R_22 t26) (fun hm h k => R_22.mono hm h k) rfl (fun ids H' fr => f23_ok (g_t24.mono (Nat.zero_le _) (fr.abv.le (Nat.zero_le _))) e26) ?_
    rintro v B5 ⟨abB5, ivB5⟩ ⟨a_t26, c_t26, rfl, g_t26⟩
    refine ⟨_, rfl, ?_⟩
    replace z6 := z6.mono (Nat.le_refl _) (abB5.le (Nat.zero_le _))
    replace z7 := z7.mono (Nat.le_refl _) (abB5.le (Nat.zero_le _))
    replace z5 := z5.mono (Nat.le_refl _) (abB5.le (Nat.zero_le _))
    replace g_t7 := g_t7.mono (Nat.le_refl _) (abB5.le (Nat.zero_le _))
    replace g_t10 := g_t10.mono (Nat.le_refl _) (abB5.le (Nat.zero_le _))
    replace rn2 := rn2.mono (Nat.le_refl _) (abB5.le (Nat.zero_le _))
    replace r2_h22 := r2_h22.mono (Nat.le_refl _) (abB5.le (Nat.zero_le _))
    replace g_t24 := g_t24.mono (Nat.le_refl _) (abB5.le (Nat.zero_le _))
    replace p24 := p24.mono (Nat.le_refl _) (abB5.le (Nat.zero_le _))
    refine WJ.bs (cs := [.slice a_t26 t26.length c_t26]) (sz := 1) (pl := [(0, .slice a_t26 t26.length c_t26)]) 200 rfl rfl rfl rfl rfl (fun _ _ => rfl) (fun _ => by rfl) rfl rfl ?_
    intro b27
    refine ⟨_, rfl, ?_⟩
    obtain ⟨l28, e28, hp⟩ := bindS hp
    obtain ⟨bd28, rfl⟩ := apd_some e28
    refine WJ.apN (cs := cs2_h22) (new := [.slice a_t26 t26.length c_t26]) (L := l2_h22) (L2 := ([t26] : List (List Int))) 200 2 rfl rfl rfl rfl rfl rfl rfl rfl r2_h22.len (el23 rfl) rfl rfl (fun ids H' fr => fr.srcBox (j := 3) rfl rfl (by decide)) rfl rfl bd28 ?_
    intro a28 c28
    refine ⟨_, rfl, ?_⟩
    have rp28 : RepL (slC intC) H.next B5 (cs2_h22 ++ [.slice a_t26 t26.length c_t26]) (l2_h22 ++ ([t26] : List (List Int))) := r2_h22.append ⟨[.slice a_t26 t26.length c_t26], [], rfl, ⟨_, _, rfl, g_t26⟩, rfl⟩
    refine WJ.pop [⟨some ⟨bv0, 0, none⟩, 25, 1, [.int .i64 zn, .slice a_t7 t7.length c_t7, .int .i64 zy, .int .i64 zz, .int .i64 z0, .int .i64 z1, .int .i64 zv, .int .i64 zw, .int .i64 zx, .int .i64 zq, .int .i64 z2, .int .i64 z3, .int .i64 zu, .slice zd za.length ze, .int .u64 zb, .int .i64 zc, .int .i64 zg, .int .u64 zf, .int .i64 zk, .int .i64 zm, .int .u64 zl, .int .i64 zo, .int .i64 zp, .slice a_t10 t10.length c_t10, .int .i64 z4]⟩, ⟨some ⟨bv1, 0, none⟩, 25, 1, [.int .i64 0, .slice none 0 0, .int .i64 0, .int .i64 0, .int .i64 0, .int .i64 0, .int .i64 0, .int .i64 0, .int .i64 0, .int .i64 0, .int .i64 0, .int .i64 0, .int .i64 0, .slice none 0 0, .int .u64 0, .int .i64 0, .int .i64 0, .int .u64 0, .int .i64 0, .int .i64 0, .int .u64 0, .int .i64 0, .int .i64 0, .slice none 0 0, .int .i64 0]⟩, ⟨a28, c28, 1, (cs2_h22 ++ [.slice a_t26 t26.length c_t26])⟩] rfl ?_
    exact WJ.ag 208 rfl (by exact ⟨rfl, rfl, rfl, rfl, trivial⟩) rfl rfl rfl (ih22 (n, (l2_h22 ++ ([t26] : List (List Int))), IntKind.i64.wrap (zbd + 1), a28, c28, (cs2_h22 ++ [.slice a_t26 t26.length c_t26]), B5) ⟨hp, z6, z7, z5, g_t7, g_t10, rn2, rp28⟩ (Nat.lt_succ_self _))
   ·exact WJ.goto 3 (j22 (l2_h22, a2_h22, c2_h22, cs2_h22, B4) ⟨hp, z6, z7, z5, g_t7, g_t10, rn2, r2_h22⟩) rfl rfl (by exact ⟨rfl, rfl, rfl, trivial⟩) rfl rfl rfl
/-! 34 tipstaff/tipstaffref27.in -/
def f34 (x0 : Int) (x1 : Int) (x2 : Int) : Option Bool :=
 if x0 ≥ x1 then
  (some (decide (x0 ≤ x2))).bind fun t13 =>
  some t13
 else
  some false
set_option maxHeartbeats 40000000 in
set_option maxRecDepth 20000 in
theorem f34_ok {H : Hp} {x0 : Int} {x1 : Int} {x2 : Int} {r : Bool} (hp : f34 x0 x1 x2 = some r) :
  SCall Tryd.prog 34 [.int .i64 x0, .int .i64 x1, .int .i64 x2] H (Ret fun v H' => Ext H H' ∧ R_4 r H.next H' v) := by
 unfold f34 at hp
 replace hp := topS hp
 refine SCall.g Tryd.func34 rfl rfl rfl rfl rfl (l := [(0, .v (.int .i64 x0)), (1, .v (.int .i64 x1)), (2, .v (.int .i64 x2))]) (fun _ => rfl) (fun B abB => ?_)
 refine WJ.ci 208 hp rfl rfl rfl rfl rfl rfl rfl rfl rfl (fun hc9 hp => ?_) (fun hc9 hp => ?_)
 ·obtain ⟨t13, e13, hp⟩ := bindS hp
  refine WJ.cv 203 (b := t13) (H0 := ⟨.nil, 0, 0⟩) rfl rfl rfl rfl rfl rfl (by rw [← endS e13]; exact rfl) rfl ?_
  obtain rfl := endS (show some _ = some r from hp)
  exact WJ.rt 203 rfl rfl rfl (fun ids H' fr => ⟨fr.ext0, rfl⟩)
 ·obtain rfl := endS (show some _ = some r from hp)
  exact WJ.rt 207 rfl rfl rfl (fun ids H' fr => ⟨fr.ext0, rfl⟩)
/-! 33 tipstaff/tipstaffref27.numbers -/
def f33 (x0 : Config) : Option Bool :=
 (f34 x0.Floors 2 64).bind fun t7 =>
 if t7 then
  (f34 x0.Cars 1 8).bind fun t11 =>
  if t11 then
   (f34 x0.Speed 1 20).bind fun t16 =>
   if t16 then
    (f34 x0.Brake 0 5).bind fun t21 =>
    if t21 then
     (f34 x0.Tol 0 20).bind fun t26 =>
     ((f34 x0.Width 1 20).bind fun t30 =>
     if t30 then
      (f34 x0.Dwell 1 50).bind fun t34 =>
      if t34 then
       (f34 x0.Retries 0 5).bind fun t39 =>
       if t39 then
        (f34 x0.Empty 0 10000).bind fun t44 =>
        if t44 then
         if x0.Full > x0.Empty then
          (some (decide (x0.Full ≤ 10000))).bind fun t56 =>
          some (t56)
         else
          some (false)
        else
         some (false)
       else
        some (false)
      else
       some (false)
     else
      some (false)).bind fun x4_27 =>
      if t26 then
       if x4_27 then
        (f34 x0.Trips 1 16).bind fun t65 =>
        if t65 then
         (f34 x0.Slots 1 24).bind fun t70 =>
         if t70 then
          (f34 x0.Life 1 100000).bind fun t75 =>
          some t75
         else
          some false
        else
         some false
       else
        some false
      else
       some false
    else
     ((f34 x0.Width 1 20).bind fun t30 =>
     if t30 then
      (f34 x0.Dwell 1 50).bind fun t34 =>
      if t34 then
       (f34 x0.Retries 0 5).bind fun t39 =>
       if t39 then
        (f34 x0.Empty 0 10000).bind fun t44 =>
        if t44 then
         if x0.Full > x0.Empty then
          (some (decide (x0.Full ≤ 10000))).bind fun t56 =>
          some (t56)
         else
          some (false)
        else
         some (false)
       else
        some (false)
      else
       some (false)
     else
      some (false)).bind fun x4_26 =>
      some false
   else
    ((f34 x0.Width 1 20).bind fun t30 =>
    if t30 then
     (f34 x0.Dwell 1 50).bind fun t34 =>
     if t34 then
      (f34 x0.Retries 0 5).bind fun t39 =>
      if t39 then
       (f34 x0.Empty 0 10000).bind fun t44 =>
       if t44 then
        if x0.Full > x0.Empty then
         (some (decide (x0.Full ≤ 10000))).bind fun t56 =>
         some (t56)
        else
         some (false)
       else
        some (false)
      else
       some (false)
     else
      some (false)
    else
     some (false)).bind fun x4_25 =>
     some false
  else
   ((f34 x0.Width 1 20).bind fun t30 =>
   if t30 then
    (f34 x0.Dwell 1 50).bind fun t34 =>
    if t34 then
     (f34 x0.Retries 0 5).bind fun t39 =>
     if t39 then
      (f34 x0.Empty 0 10000).bind fun t44 =>
      if t44 then
       if x0.Full > x0.Empty then
        (some (decide (x0.Full ≤ 10000))).bind fun t56 =>
        some (t56)
       else
        some (false)
      else
       some (false)
     else
      some (false)
    else
     some (false)
   else
    some (false)).bind fun x4_24 =>
    some false
 else
  ((f34 x0.Width 1 20).bind fun t30 =>
  if t30 then
   (f34 x0.Dwell 1 50).bind fun t34 =>
   if t34 then
    (f34 x0.Retries 0 5).bind fun t39 =>
    if t39 then
     (f34 x0.Empty 0 10000).bind fun t44 =>
     if t44 then
      if x0.Full > x0.Empty then
       (some (decide (x0.Full ≤ 10000))).bind fun t56 =>
       some (t56)
      else
       some (false)
     else
      some (false)
    else
     some (false)
   else
    some (false)
  else
   some (false)).bind fun x4_23 =>
   some false
set_option maxHeartbeats 40000000 in
set_option maxRecDepth 20000 in
theorem f33_ok {H : Hp} {zr : Option Addr} {zs : Nat} {zd : Option Addr} {ze : Nat} {zi : Option Addr} {zj : Nat} {x0 : Config} {r : Bool} (z8 : SlF 0 H intC zr zs x0.Gaps) (z9 : SlF 0 H (slC intC) zd ze x0.Rota) (zaa : SlF 0 H intC zi zj x0.Keys) (hp : f33 x0 = some r) :
  SCall Tryd.prog 33 [.agg ⟨[.int .i64 x0.Floors, .slice zr x0.Gaps.length zs, .int .i64 x0.Cars, .int .i64 x0.Speed, .int .i64 x0.Brake, .int .i64 x0.Tol, .int .i64 x0.Width, .int .i64 x0.Dwell, .int .i64 x0.Retries, .int .i64 x0.Empty, .int .i64 x0.Full, .int .i64 x0.Trips, .int .i64 x0.Slots, .slice zd x0.Rota.length ze, .int .u64 x0.Rules_0_Mask, .int .i64 x0.Rules_0_Home, .int .i64 x0.Rules_0_Calls, .int .u64 x0.Rules_1_Mask, .int .i64 x0.Rules_1_Home, .int .i64 x0.Rules_1_Calls, .int .u64 x0.Rules_2_Mask, .int .i64 x0.Rules_2_Home, .int .i64 x0.Rules_2_Calls, .slice zi x0.Keys.length zj, .int .i64 x0.Life]⟩] H (Ret fun v H' => Ext H H' ∧ R_4 r H.next H' v) := by
 obtain ⟨zn, zt, zy, zz, z0, z1, zv, zw, zx, zq, z2, z3, zu, za, zb, zc, zg, zf, zk, zm, zl, zo, zp, zh, z4⟩ := x0
 unfold f33 at hp
 replace hp := topS hp
 refine SCall.g Tryd.func33 rfl rfl rfl rfl rfl (l := [(0, .v (.agg ⟨[.int .i64 zn, .slice zr zt.length zs, .int .i64 zy, .int .i64 zz, .int .i64 z0, .int .i64 z1, .int .i64 zv, .int .i64 zw, .int .i64 zx, .int .i64 zq, .int .i64 z2, .int .i64 z3, .int .i64 zu, .slice zd za.length ze, .int .u64 zb, .int .i64 zc, .int .i64 zg, .int .u64 zf, .int .i64 zk, .int .i64 zm, .int .u64 zl, .int .i64 zo, .int .i64 zp, .slice zi zh.length zj, .int .i64 z4]⟩))]) (fun _ => rfl) (fun B abB => ?_)
 obtain ⟨t7, e7, hp⟩ := bindS hp
 refine WJ.cl 209 (R := R_4 t7) (fun hm h k => R_4.mono hm h k) rfl (fun ids H' fr => f34_ok e7) ?_
 rintro v B1 ⟨abB1, ivB1⟩ rfl
 refine ⟨_, rfl, ?_⟩
 cases t7
 ·replace hp := (itS hp).2 Bool.false_ne_true
  refine WJ.adv 23 rfl ?_
  obtain ⟨K23, hK23, hp⟩ : ∃ K, K = _ ∧ Option.bind _ K = some r := ⟨_, rfl, cutS hp⟩
  refine WJ.cut 1 (α := Bool × Hp) (fun y => [(1, .p 0 0), (3, .v (.bool false)), (4, .v (.bool y.1))]) (fun y => [[.int .i64 zn, .slice zr zt.length zs, .int .i64 zy, .int .i64 zz, .int .i64 z0, .int .i64 z1, .int .i64 zv, .int .i64 zw, .int .i64 zx, .int .i64 zq, .int .i64 z2, .int .i64 z3, .int .i64 zu, .slice zd za.length ze, .int .u64 zb, .int .i64 zc, .int .i64 zg, .int .u64 zf, .int .i64 zk, .int .i64 zm, .int .u64 zl, .int .i64 zo, .int .i64 zp, .slice zi zh.length zj, .int .i64 z4]]) (fun y => []) (fun y => y.2) (fun y => K23 ((y.1)) = some r) ?_ (fun j23 => ?_)
  ·rintro ⟨x4_23, B6⟩ hp
   subst hK23
   show WJ _ _ _ B6 [] _ _ ⟨[(1, .p 0 0), (3, .v (.bool false)), (4, .v (.bool x4_23))], [[.int .i64 zn, .slice zr zt.length zs, .int .i64 zy, .int .i64 zz, .int .i64 z0, .int .i64 z1, .int .i64 zv, .int .i64 zw, .int .i64 zx, .int .i64 zq, .int .i64 z2, .int .i64 z3, .int .i64 zu, .slice zd za.length ze, .int .u64 zb, .int .i64 zc, .int .i64 zg, .int .u64 zf, .int .i64 zk, .int .i64 zm, .int .u64 zl, .int .i64 zo, .int .i64 zp, .slice zi zh.length zj, .int .i64 z4]], true, 0⟩
   obtain rfl := endS (show some _ = some r from hp)
   exact WJ.rt 223 rfl rfl rfl (fun ids H' fr => ⟨fr.ext0, rfl⟩)
  ·obtain ⟨t30, e30, hp⟩ := bindS hp
   refine WJ.cl 203 (R := R_4 t30) (fun hm h k => R_4.mono hm h k) rfl (fun ids H' fr => f34_ok e30) ?_
   rintro v B2 ⟨abB2, ivB2⟩ rfl
   refine ⟨_, rfl, ?_⟩
   cases t30
   ·replace hp := (itS hp).2 Bool.false_ne_true
    exact WJ.goto 29 (j23 (false, B2) hp) rfl rfl (by exact ⟨rfl, rfl, rfl, trivial⟩) rfl rfl rfl
   ·replace hp := (itS hp).1 rfl
    obtain ⟨t34, e34, hp⟩ := bindS hp
    refine WJ.cl 203 (R := R_4 t34) (fun hm h k => R_4.mono hm h k) rfl (fun ids H' fr => f34_ok e34) ?_
    rintro v B3 ⟨abB3, ivB3⟩ rfl
    refine ⟨_, rfl, ?_⟩
    cases t34
    ·replace hp := (itS hp).2 Bool.false_ne_true
     exact WJ.goto 25 (j23 (false, B3) hp) rfl rfl (by exact ⟨rfl, rfl, rfl, trivial⟩) rfl rfl rfl
    ·replace hp := (itS hp).1 rfl
     obtain ⟨t39, e39, hp⟩ := bindS hp
     refine WJ.cl 204 (R := R_4 t39) (fun hm h k => R_4.mono hm h k) rfl (fun ids H' fr => f34_ok e39) ?_
     rintro v B4 ⟨abB4, ivB4⟩ rfl
     refine ⟨_, rfl, ?_⟩
     cases t39
     ·replace hp := (itS hp).2 Bool.false_ne_true
      exact WJ.goto 20 (j23 (false, B4) hp) rfl rfl (by exact ⟨rfl, rfl, rfl, trivial⟩) rfl rfl rfl
     ·replace hp := (itS hp).1 rfl
      obtain ⟨t44, e44, hp⟩ := bindS hp
      refine WJ.cl 204 (R := R_4 t44) (fun hm h k => R_4.mono hm h k) rfl (fun ids H' fr => f34_ok e44) ?_
      rintro v B5 ⟨abB5, ivB5⟩ rfl
      refine ⟨_, rfl, ?_⟩
      cases t44
      ·replace hp := (itS hp).2 Bool.false_ne_true
       exact WJ.goto 15 (j23 (false, B5) hp) rfl rfl (by exact ⟨rfl, rfl, rfl, trivial⟩) rfl rfl rfl
      ·replace hp := (itS hp).1 rfl
       refine WJ.ci 206 hp rfl rfl rfl rfl rfl rfl rfl rfl rfl (fun hc51 hp => ?_) (fun hc51 hp => ?_)
       ·obtain ⟨t56, e56, hp⟩ := bindS hp
        refine WJ.cv 204 (b := t56) (H0 := ⟨.nil, 0, 0⟩) rfl rfl rfl rfl rfl rfl (by rw [← endS e56]; exact rfl) rfl ?_
        exact WJ.goto 3 (j23 (t56, B5) hp) rfl rfl (by exact ⟨rfl, rfl, rfl, trivial⟩) rfl rfl rfl
       ·exact WJ.goto 8 (j23 (false, B5) hp) rfl rfl (by exact ⟨rfl, rfl, rfl, trivial⟩) rfl rfl rfl
 ·replace hp := (itS hp).1 rfl
  obtain ⟨t11, e11, hp⟩ := bindS hp
  refine WJ.cl 203 (R := R_4 t11) (fun hm h k => R_4.mono hm h k) rfl (fun ids H' fr => f34_ok e11) ?_
  rintro v B7 ⟨abB7, ivB7⟩ rfl
  refine ⟨_, rfl, ?_⟩
  cases t11
  ·replace hp := (itS hp).2 Bool.false_ne_true
   refine WJ.adv 19 rfl ?_
   obtain ⟨K24, hK24, hp⟩ : ∃ K, K = _ ∧ Option.bind _ K = some r := ⟨_, rfl, cutS hp⟩
   refine WJ.cut 1 (α := Bool × Hp) (fun y => [(1, .p 0 0), (3, .v (.bool false)), (4, .v (.bool y.1))]) (fun y => [[.int .i64 zn, .slice zr zt.length zs, .int .i64 zy, .int .i64 zz, .int .i64 z0, .int .i64 z1, .int .i64 zv, .int .i64 zw, .int .i64 zx, .int .i64 zq, .int .i64 z2, .int .i64 z3, .int .i64 zu, .slice zd za.length ze, .int .u64 zb, .int .i64 zc, .int .i64 zg, .int .u64 zf, .int .i64 zk, .int .i64 zm, .int .u64 zl, .int .i64 zo, .int .i64 zp, .slice zi zh.length zj, .int .i64 z4]]) (fun y => []) (fun y => y.2) (fun y => K24 ((y.1)) = some r) ?_ (fun j24 => ?_)
   ·rintro ⟨x4_24, B12⟩ hp
    subst hK24
    show WJ _ _ _ B12 [] _ _ ⟨[(1, .p 0 0), (3, .v (.bool false)), (4, .v (.bool x4_24))], [[.int .i64 zn, .slice zr zt.length zs, .int .i64 zy, .int .i64 zz, .int .i64 z0, .int .i64 z1, .int .i64 zv, .int .i64 zw, .int .i64 zx, .int .i64 zq, .int .i64 z2, .int .i64 z3, .int .i64 zu, .slice zd za.length ze, .int .u64 zb, .int .i64 zc, .int .i64 zg, .int .u64 zf, .int .i64 zk, .int .i64 zm, .int .u64 zl, .int .i64 zo, .int .i64 zp, .slice zi zh.length zj, .int .i64 z4]], true, 0⟩
    obtain rfl := endS (show some _ = some r from hp)
    exact WJ.rt 223 rfl rfl rfl (fun ids H' fr => ⟨fr.ext0, rfl⟩)
   ·obtain ⟨t30, e30, hp⟩ := bindS hp
    refine WJ.cl 203 (R := R_4 t30) (fun hm h k => R_4.mono hm h k) rfl (fun ids H' fr => f34_ok e30) ?_
    rintro v B8 ⟨abB8, ivB8⟩ rfl
    refine ⟨_, rfl, ?_⟩
    cases t30
    ·replace hp := (itS hp).2 Bool.false_ne_true
     exact WJ.goto 29 (j24 (false, B8) hp) rfl rfl (by exact ⟨rfl, rfl, rfl, trivial⟩) rfl rfl rfl
    ·replace hp := (itS hp).1 rfl
     obtain ⟨t34, e34, hp⟩ := bindS hp
     refine WJ.cl 203 (R := R_4 t34) (fun hm h k => R_4.mono hm h k) rfl (fun ids H' fr => f34_ok e34) ?_
     rintro v B9 ⟨abB9, ivB9⟩ rfl
     refine ⟨_, rfl, ?_⟩
     cases t34
     ·replace hp := (itS hp).2 Bool.false_ne_true
      exact WJ.goto 25 (j24 (false, B9) hp) rfl rfl (by exact ⟨rfl, rfl, rfl, trivial⟩) rfl rfl rfl
     ·replace hp := (itS hp).1 rfl
      obtain ⟨t39, e39, hp⟩ := bindS hp
      refine WJ.cl 204 (R := R_4 t39) (fun hm h k => R_4.mono hm h k) rfl (fun ids H' fr => f34_ok e39) ?_
      rintro v B10 ⟨abB10, ivB10⟩ rfl
      refine ⟨_, rfl, ?_⟩
      cases t39
      ·replace hp := (itS hp).2 Bool.false_ne_true
       exact WJ.goto 20 (j24 (false, B10) hp) rfl rfl (by exact ⟨rfl, rfl, rfl, trivial⟩) rfl rfl rfl
      ·replace hp := (itS hp).1 rfl
       obtain ⟨t44, e44, hp⟩ := bindS hp
       refine WJ.cl 204 (R := R_4 t44) (fun hm h k => R_4.mono hm h k) rfl (fun ids H' fr => f34_ok e44) ?_
       rintro v B11 ⟨abB11, ivB11⟩ rfl
       refine ⟨_, rfl, ?_⟩
       cases t44
       ·replace hp := (itS hp).2 Bool.false_ne_true
        exact WJ.goto 15 (j24 (false, B11) hp) rfl rfl (by exact ⟨rfl, rfl, rfl, trivial⟩) rfl rfl rfl
       ·replace hp := (itS hp).1 rfl
        refine WJ.ci 206 hp rfl rfl rfl rfl rfl rfl rfl rfl rfl (fun hc51 hp => ?_) (fun hc51 hp => ?_)
        ·obtain ⟨t56, e56, hp⟩ := bindS hp
         refine WJ.cv 204 (b := t56) (H0 := ⟨.nil, 0, 0⟩) rfl rfl rfl rfl rfl rfl (by rw [← endS e56]; exact rfl) rfl ?_
         exact WJ.goto 3 (j24 (t56, B11) hp) rfl rfl (by exact ⟨rfl, rfl, rfl, trivial⟩) rfl rfl rfl
        ·exact WJ.goto 8 (j24 (false, B11) hp) rfl rfl (by exact ⟨rfl, rfl, rfl, trivial⟩) rfl rfl rfl
  ·replace hp := (itS hp).1 rfl
   obtain ⟨t16, e16, hp⟩ := bindS hp
   refine WJ.cl 204 (R := R_4 t16) (fun hm h k => R_4.mono hm h k) rfl (fun ids H' fr => f34_ok e16) ?_
   rintro v B13 ⟨abB13, ivB13⟩ rfl
   refine ⟨_, rfl, ?_⟩
   cases t16
   ·replace hp := (itS hp).2 Bool.false_ne_true
    refine WJ.adv 14 rfl ?_
    obtain ⟨K25, hK25, hp⟩ : ∃ K, K = _ ∧ Option.bind _ K = some r := ⟨_, rfl, cutS hp⟩
    refine WJ.cut 1 (α := Bool × Hp) (fun y => [(1, .p 0 0), (3, .v (.bool false)), (4, .v (.bool y.1))]) (fun y => [[.int .i64 zn, .slice zr zt.length zs, .int .i64 zy, .int .i64 zz, .int .i64 z0, .int .i64 z1, .int .i64 zv, .int .i64 zw, .int .i64 zx, .int .i64 zq, .int .i64 z2, .int .i64 z3, .int .i64 zu, .slice zd za.length ze, .int .u64 zb, .int .i64 zc, .int .i64 zg, .int .u64 zf, .int .i64 zk, .int .i64 zm, .int .u64 zl, .int .i64 zo, .int .i64 zp, .slice zi zh.length zj, .int .i64 z4]]) (fun y => []) (fun y => y.2) (fun y => K25 ((y.1)) = some r) ?_ (fun j25 => ?_)
    ·rintro ⟨x4_25, B18⟩ hp
     subst hK25
     show WJ _ _ _ B18 [] _ _ ⟨[(1, .p 0 0), (3, .v (.bool false)), (4, .v (.bool x4_25))], [[.int .i64 zn, .slice zr zt.length zs, .int .i64 zy, .int .i64 zz, .int .i64 z0, .int .i64 z1, .int .i64 zv, .int .i64 zw, .int .i64 zx, .int .i64 zq, .int .i64 z2, .int .i64 z3, .int .i64 zu, .slice zd za.length ze, .int .u64 zb, .int .i64 zc, .int .i64 zg, .int .u64 zf, .int .i64 zk, .int .i64 zm, .int .u64 zl, .int .i64 zo, .int .i64 zp, .slice zi zh.length zj, .int .i64 z4]], true, 0⟩
     obtain rfl := endS (show some _ = some r from hp)
     exact WJ.rt 223 rfl rfl rfl (fun ids H' fr => ⟨fr.ext0, rfl⟩)
    ·obtain ⟨t30, e30, hp⟩ := bindS hp
     refine WJ.cl 203 (R := R_4 t30) (fun hm h k => R_4.mono hm h k) rfl (fun ids H' fr => f34_ok e30) ?_
     rintro v B14 ⟨abB14, ivB14⟩ rfl
     refine ⟨_, rfl, ?_⟩
     cases t30
     ·replace hp := (itS hp).2 Bool.false_ne_true
      exact WJ.goto 29 (j25 (false, B14) hp) rfl rfl (by exact ⟨rfl, rfl, rfl, trivial⟩) rfl rfl rfl
     ·replace hp := (itS hp).1 rfl
      obtain ⟨t34, e34, hp⟩ := bindS hp
      refine WJ.cl 203 (R := R_4 t34) (fun hm h k => R_4.mono hm h k) rfl (fun ids H' fr => f34_ok e34) ?_
      rintro v B15 ⟨abB15, ivB15⟩ rfl
      refine ⟨_, rfl, ?_⟩
      cases t34
      ·replace hp := (itS hp).2 Bool.false_ne_true
       exact WJ.goto 25 (j25 (false, B15) hp) rfl rfl (by exact ⟨rfl, rfl, rfl, trivial⟩) rfl rfl rfl
      ·replace hp := (itS hp).1 rfl
       obtain ⟨t39, e39, hp⟩ := bindS hp
       refine WJ.cl 204 (R := R_4 t39) (fun hm h k => R_4.mono hm h k) rfl (fun ids H' fr => f34_ok e39) ?_
       rintro v B16 ⟨abB16, ivB16⟩ rfl
       refine ⟨_, rfl, ?_⟩
       cases t39
       ·replace hp := (itS hp).2 Bool.false_ne_true
        exact WJ.goto 20 (j25 (false, B16) hp) rfl rfl (by exact ⟨rfl, rfl, rfl, trivial⟩) rfl rfl rfl
       ·replace hp := (itS hp).1 rfl
        obtain ⟨t44, e44, hp⟩ := bindS hp
        refine WJ.cl 204 (R := R_4 t44) (fun hm h k => R_4.mono hm h k) rfl (fun ids H' fr => f34_ok e44) ?_
        rintro v B17 ⟨abB17, ivB17⟩ rfl
        refine ⟨_, rfl, ?_⟩
        cases t44
        ·replace hp := (itS hp).2 Bool.false_ne_true
         exact WJ.goto 15 (j25 (false, B17) hp) rfl rfl (by exact ⟨rfl, rfl, rfl, trivial⟩) rfl rfl rfl
        ·replace hp := (itS hp).1 rfl
         refine WJ.ci 206 hp rfl rfl rfl rfl rfl rfl rfl rfl rfl (fun hc51 hp => ?_) (fun hc51 hp => ?_)
         ·obtain ⟨t56, e56, hp⟩ := bindS hp
          refine WJ.cv 204 (b := t56) (H0 := ⟨.nil, 0, 0⟩) rfl rfl rfl rfl rfl rfl (by rw [← endS e56]; exact rfl) rfl ?_
          exact WJ.goto 3 (j25 (t56, B17) hp) rfl rfl (by exact ⟨rfl, rfl, rfl, trivial⟩) rfl rfl rfl
         ·exact WJ.goto 8 (j25 (false, B17) hp) rfl rfl (by exact ⟨rfl, rfl, rfl, trivial⟩) rfl rfl rfl
   ·replace hp := (itS hp).1 rfl
    obtain ⟨t21, e21, hp⟩ := bindS hp
    refine WJ.cl 204 (R := R_4 t21) (fun hm h k => R_4.mono hm h k) rfl (fun ids H' fr => f34_ok e21) ?_
    rintro v B19 ⟨abB19, ivB19⟩ rfl
    refine ⟨_, rfl, ?_⟩
    cases t21
    ·replace hp := (itS hp).2 Bool.false_ne_true
     refine WJ.adv 9 rfl ?_
     obtain ⟨K26, hK26, hp⟩ : ∃ K, K = _ ∧ Option.bind _ K = some r := ⟨_, rfl, cutS hp⟩
     refine WJ.cut 1 (α := Bool × Hp) (fun y => [(1, .p 0 0), (3, .v (.bool false)), (4, .v (.bool y.1))]) (fun y => [[.int .i64 zn, .slice zr zt.length zs, .int .i64 zy, .int .i64 zz, .int .i64 z0, .int .i64 z1, .int .i64 zv, .int .i64 zw, .int .i64 zx, .int .i64 zq, .int .i64 z2, .int .i64 z3, .int .i64 zu, .slice zd za.length ze, .int .u64 zb, .int .i64 zc, .int .i64 zg, .int .u64 zf, .int .i64 zk, .int .i64 zm, .int .u64 zl, .int .i64 zo, .int .i64 zp, .slice zi zh.length zj, .int .i64 z4]]) (fun y => []) (fun y => y.2) (fun y => K26 ((y.1)) = some r) ?_ (fun j26 => ?_)
     ·rintro ⟨x4_26, B24⟩ hp
      subst hK26
      show WJ _ _ _ B24 [] _ _ ⟨[(1, .p 0 0), (3, .v (.bool false)), (4, .v (.bool x4_26))], [[.int .i64 zn, .slice zr zt.length zs, .int .i64 zy, .int .i64 zz, .int .i64 z0, .int .i64 z1, .int .i64 zv, .int .i64 zw, .int .i64 zx, .int .i64 zq, .int .i64 z2, .int .i64 z3, .int .i64 zu, .slice zd za.length ze, .int .u64 zb, .int .i64 zc, .int .i64 zg, .int .u64 zf, .int .i64 zk, .int .i64 zm, .int .u64 zl, .int .i64 zo, .int .i64 zp, .slice zi zh.length zj, .int .i64 z4]], true, 0⟩
      obtain rfl := endS (show some _ = some r from hp)
      exact WJ.rt 223 rfl rfl rfl (fun ids H' fr => ⟨fr.ext0, rfl⟩)
     ·obtain ⟨t30, e30, hp⟩ := bindS hp
      refine WJ.cl 203 (R := R_4 t30) (fun hm h k => R_4.mono hm h k) rfl (fun ids H' fr => f34_ok e30) ?_
      rintro v B20 ⟨abB20, ivB20⟩ rfl
      refine ⟨_, rfl, ?_⟩
      cases t30
      ·replace hp := (itS hp).2 Bool.false_ne_true
       exact WJ.goto 29 (j26 (false, B20) hp) rfl rfl (by exact ⟨rfl, rfl, rfl, trivial⟩) rfl rfl rfl
      ·replace hp := (itS hp).1 rfl
       obtain ⟨t34, e34, hp⟩ := bindS hp
       refine WJ.cl 203 (R := R_4 t34) (fun hm h k => R_4.mono hm h k) rfl (fun ids H' fr => f34_ok e34) ?_
       rintro v B21 ⟨abB21, ivB21⟩ rfl
       refine ⟨_, rfl, ?_⟩
       cases t34
       ·replace hp := (itS hp).2 Bool.false_ne_true
        exact WJ.goto 25 (j26 (false, B21) hp) rfl rfl (by exact ⟨rfl, rfl, rfl, trivial⟩) rfl rfl rfl
       ·replace hp := (itS hp).1 rfl
        obtain ⟨t39, e39, hp⟩ := bindS hp
        refine WJ.cl 204 (R := R_4 t39) (fun hm h k => R_4.mono hm h k) rfl (fun ids H' fr => f34_ok e39) ?_
        rintro v B22 ⟨abB22, ivB22⟩ rfl
        refine ⟨_, rfl, ?_⟩
        cases t39
        ·replace hp := (itS hp).2 Bool.false_ne_true
         exact WJ.goto 20 (j26 (false, B22) hp) rfl rfl (by exact ⟨rfl, rfl, rfl, trivial⟩) rfl rfl rfl
        ·replace hp := (itS hp).1 rfl
         obtain ⟨t44, e44, hp⟩ := bindS hp
         refine WJ.cl 204 (R := R_4 t44) (fun hm h k => R_4.mono hm h k) rfl (fun ids H' fr => f34_ok e44) ?_
         rintro v B23 ⟨abB23, ivB23⟩ rfl
         refine ⟨_, rfl, ?_⟩
         cases t44
         ·replace hp := (itS hp).2 Bool.false_ne_true
          exact WJ.goto 15 (j26 (false, B23) hp) rfl rfl (by exact ⟨rfl, rfl, rfl, trivial⟩) rfl rfl rfl
         ·replace hp := (itS hp).1 rfl
          refine WJ.ci 206 hp rfl rfl rfl rfl rfl rfl rfl rfl rfl (fun hc51 hp => ?_) (fun hc51 hp => ?_)
          ·obtain ⟨t56, e56, hp⟩ := bindS hp
           refine WJ.cv 204 (b := t56) (H0 := ⟨.nil, 0, 0⟩) rfl rfl rfl rfl rfl rfl (by rw [← endS e56]; exact rfl) rfl ?_
           exact WJ.goto 3 (j26 (t56, B23) hp) rfl rfl (by exact ⟨rfl, rfl, rfl, trivial⟩) rfl rfl rfl
          ·exact WJ.goto 8 (j26 (false, B23) hp) rfl rfl (by exact ⟨rfl, rfl, rfl, trivial⟩) rfl rfl rfl
    ·replace hp := (itS hp).1 rfl
     obtain ⟨t26, e26, hp⟩ := bindS hp
     refine WJ.cl 204 (R := R_4 t26) (fun hm h k => R_4.mono hm h k) rfl (fun ids H' fr => f34_ok e26) ?_
     rintro v B25 ⟨abB25, ivB25⟩ rfl
     refine ⟨_, rfl, ?_⟩
     refine WJ.adv 4 rfl ?_
     obtain ⟨K27, hK27, hp⟩ : ∃ K, K = _ ∧ Option.bind _ K = some r := ⟨_, rfl, cutS hp⟩
     refine WJ.cut 1 (α := Bool × Hp) (fun y => [(1, .p 0 0), (3, .v (.bool t26)), (4, .v (.bool y.1))]) (fun y => [[.int .i64 zn, .slice zr zt.length zs, .int .i64 zy, .int .i64 zz, .int .i64 z0, .int .i64 z1, .int .i64 zv, .int .i64 zw, .int .i64 zx, .int .i64 zq, .int .i64 z2, .int .i64 z3, .int .i64 zu, .slice zd za.length ze, .int .u64 zb, .int .i64 zc, .int .i64 zg, .int .u64 zf, .int .i64 zk, .int .i64 zm, .int .u64 zl, .int .i64 zo, .int .i64 zp, .slice zi zh.length zj, .int .i64 z4]]) (fun y => []) (fun y => y.2) (fun y => K27 ((y.1)) = some r) ?_ (fun j27 => ?_)
     ·rintro ⟨x4_27, B30⟩ hp
      subst hK27
      show WJ _ _ _ B30 [] _ _ ⟨[(1, .p 0 0), (3, .v (.bool t26)), (4, .v (.bool x4_27))], [[.int .i64 zn, .slice zr zt.length zs, .int .i64 zy, .int .i64 zz, .int .i64 z0, .int .i64 z1, .int .i64 zv, .int .i64 zw, .int .i64 zx, .int .i64 zq, .int .i64 z2, .int .i64 z3, .int .i64 zu, .slice zd za.length ze, .int .u64 zb, .int .i64 zc, .int .i64 zg, .int .u64 zf, .int .i64 zk, .int .i64 zm, .int .u64 zl, .int .i64 zo, .int .i64 zp, .slice zi zh.length zj, .int .i64 z4]], true, 0⟩
      cases t26
      ·replace hp := (itS hp).2 Bool.false_ne_true
       obtain rfl := endS (show some _ = some r from hp)
       exact WJ.rt 223 rfl rfl rfl (fun ids H' fr => ⟨fr.ext0, rfl⟩)
      ·replace hp := (itS hp).1 rfl
       cases x4_27
       ·replace hp := (itS hp).2 Bool.false_ne_true
        obtain rfl := endS (show some _ = some r from hp)
        exact WJ.rt 223 rfl rfl rfl (fun ids H' fr => ⟨fr.ext0, rfl⟩)
       ·replace hp := (itS hp).1 rfl
        obtain ⟨t65, e65, hp⟩ := bindS hp
        refine WJ.cl 209 (R := R_4 t65) (fun hm h k => R_4.mono hm h k) rfl (fun ids H' fr => f34_ok e65) ?_
        rintro v B31 ⟨abB31, ivB31⟩ rfl
        refine ⟨_, rfl, ?_⟩
        cases t65
        ·replace hp := (itS hp).2 Bool.false_ne_true
         obtain rfl := endS (show some _ = some r from hp)
         exact WJ.rt 213 rfl rfl rfl (fun ids H' fr => ⟨fr.ext0, rfl⟩)
        ·replace hp := (itS hp).1 rfl
         obtain ⟨t70, e70, hp⟩ := bindS hp
         refine WJ.cl 204 (R := R_4 t70) (fun hm h k => R_4.mono hm h k) rfl (fun ids H' fr => f34_ok e70) ?_
         rintro v B32 ⟨abB32, ivB32⟩ rfl
         refine ⟨_, rfl, ?_⟩
         cases t70
         ·replace hp := (itS hp).2 Bool.false_ne_true
          obtain rfl := endS (show some _ = some r from hp)
          exact WJ.rt 208 rfl rfl rfl (fun ids H' fr => ⟨fr.ext0, rfl⟩)
         ·replace hp := (itS hp).1 rfl
          obtain ⟨t75, e75, hp⟩ := bindS hp
          refine WJ.cl 204 (R := R_4 t75) (fun hm h k => R_4.mono hm h k) rfl (fun ids H' fr => f34_ok e75) ?_
          rintro v B33 ⟨abB33, ivB33⟩ rfl
          refine ⟨_, rfl, ?_⟩
          obtain rfl := endS (show some _ = some r from hp)
          exact WJ.rt 203 rfl rfl rfl (fun ids H' fr => ⟨fr.ext0, rfl⟩)
     ·obtain ⟨t30, e30, hp⟩ := bindS hp
      refine WJ.cl 203 (R := R_4 t30) (fun hm h k => R_4.mono hm h k) rfl (fun ids H' fr => f34_ok e30) ?_
      rintro v B26 ⟨abB26, ivB26⟩ rfl
      refine ⟨_, rfl, ?_⟩
      cases t30
      ·replace hp := (itS hp).2 Bool.false_ne_true
       exact WJ.goto 29 (j27 (false, B26) hp) rfl rfl (by exact ⟨rfl, rfl, rfl, trivial⟩) rfl rfl rfl
      ·replace hp := (itS hp).1 rfl
       obtain ⟨t34, e34, hp⟩ := bindS hp
       refine WJ.cl 203 (R := R_4 t34) (fun hm h k => R_4.mono hm h k) rfl (fun ids H' fr => f34_ok e34) ?_
       rintro v B27 ⟨abB27, ivB27⟩ rfl
       refine ⟨_, rfl, ?_⟩
       cases t34
       ·replace hp := (itS hp).2 Bool.false_ne_true
        exact WJ.goto 25 (j27 (false, B27) hp) rfl rfl (by exact ⟨rfl, rfl, rfl, trivial⟩) rfl rfl rfl
       ·replace hp := (itS hp).1 rfl
        obtain ⟨t39, e39, hp⟩ := bindS hp
        refine WJ.cl 204 (R := R_4 t39) (fun hm h k => R_4.mono hm h k) rfl (fun ids H' fr => f34_ok e39) ?_
        rintro v B28 ⟨abB28, ivB28⟩ rfl
        refine ⟨_, rfl, ?_⟩
        cases t39
        ·replace hp := (itS hp).2 Bool.false_ne_true
         exact WJ.goto 20 (j27 (false, B28) hp) rfl rfl (by exact ⟨rfl, rfl, rfl, trivial⟩) rfl rfl rfl
        ·replace hp := (itS hp).1 rfl
         obtain ⟨t44, e44, hp⟩ := bindS hp
         refine WJ.cl 204 (R := R_4 t44) (fun hm h k => R_4.mono hm h k) rfl (fun ids H' fr => f34_ok e44) ?_
         rintro v B29 ⟨abB29, ivB29⟩ rfl
         refine ⟨_, rfl, ?_⟩
         cases t44
         ·replace hp := (itS hp).2 Bool.false_ne_true
          exact WJ.goto 15 (j27 (false, B29) hp) rfl rfl (by exact ⟨rfl, rfl, rfl, trivial⟩) rfl rfl rfl
         ·replace hp := (itS hp).1 rfl
          refine WJ.ci 206 hp rfl rfl rfl rfl rfl rfl rfl rfl rfl (fun hc51 hp => ?_) (fun hc51 hp => ?_)
          ·obtain ⟨t56, e56, hp⟩ := bindS hp
           refine WJ.cv 204 (b := t56) (H0 := ⟨.nil, 0, 0⟩) rfl rfl rfl rfl rfl rfl (by rw [← endS e56]; exact rfl) rfl ?_
           exact WJ.goto 3 (j27 (t56, B29) hp) rfl rfl (by exact ⟨rfl, rfl, rfl, trivial⟩) rfl rfl rfl
          ·exact WJ.goto 8 (j27 (false, B29) hp) rfl rfl (by exact ⟨rfl, rfl, rfl, trivial⟩) rfl rfl rfl
end
end Go.Proofs.YthemdclmlcblbaaDoor
