import Derived.Test.YthemdclmlcblbaaDoorFA
set_option linter.unusedVariables false
set_option linter.unusedSimpArgs false
namespace Go.Proofs.YthemdclmlcblbaaDoor
open Go Go.Det Go.RowKit
noncomputable section
/-! 35 tipstaff/tipstaffref27.rota -/
def f35_l3 (x4 : Int) (zu : Int) (za : List (List Int)) : Nat → Int → Option ((Int) ⊕ (Unit))
 | 0, _ => none
 | n + 1, x5 =>
  if x5 < zu then
   (rd za x4).bind fun t44 =>
   (rd t44 x5).bind fun t47 =>
   (f34 t47 0 3).bind fun t49 =>
   if t49 then
    f35_l3 x4 zu za n (IntKind.i64.wrap (x5 + 1))
   else
    some (Sum.inl (2 : Int))
  else
   some (Sum.inr ())
def f35_l2 (k : Nat) (za : List (List Int)) (zu : Int) : Nat → Int → Option ((Int) ⊕ (Unit))
 | 0, _ => none
 | n + 1, x4 =>
  if x4 < (za.length : Int) then
   (f35_l3 x4 zu za k 0).bind fun s => match s with
    | .inl st => some (Sum.inl st)
    | .inr _ => 
     f35_l2 k za zu n (IntKind.i64.wrap (x4 + 1))
  else
   some (Sum.inr ())
def f35_l1 (za : List (List Int)) (zu : Int) : Nat → Int → Option ((Int) ⊕ (Unit))
 | 0, _ => none
 | n + 1, x3 =>
  if x3 < (za.length : Int) then
   (rd za x3).bind fun t22 =>
   if (t22.length : Int) = zu then
    f35_l1 za zu n (IntKind.i64.wrap (x3 + 1))
   else
    some (Sum.inl (3 : Int))
  else
   some (Sum.inr ())
def f35 (k : Nat) (x0 : Config) : Option Int :=
 if (x0.Rota.length : Int) = x0.Cars then
  (f35_l1 x0.Rota x0.Slots k 0).bind fun s => match s with
   | .inl st => some st
   | .inr _ => 
    (f35_l2 k x0.Rota x0.Slots k 0).bind fun s => match s with
     | .inl st => some st
     | .inr _ => 
      some 0
 else
  some 3
set_option maxHeartbeats 40000000 in
set_option maxRecDepth 20000 in
theorem f35_ok {k : Nat} {H : Hp} {zr : Option Addr} {zs : Nat} {zd : Option Addr} {ze : Nat} {zi : Option Addr} {zj : Nat} {x0 : Config} {r : Int} (z8 : SlF 0 H intC zr zs x0.Gaps) (z9 : SlF 0 H (slC intC) zd ze x0.Rota) (zaa : SlF 0 H intC zi zj x0.Keys) (hp : f35 k x0 = some r) :
  SCall Tryd.prog 35 [.agg ⟨[.int .i64 x0.Floors, .slice zr x0.Gaps.length zs, .int .i64 x0.Cars, .int .i64 x0.Speed, .int .i64 x0.Brake, .int .i64 x0.Tol, .int .i64 x0.Width, .int .i64 x0.Dwell, .int .i64 x0.Retries, .int .i64 x0.Empty, .int .i64 x0.Full, .int .i64 x0.Trips, .int .i64 x0.Slots, .slice zd x0.Rota.length ze, .int .u64 x0.Rules_0_Mask, .int .i64 x0.Rules_0_Home, .int .i64 x0.Rules_0_Calls, .int .u64 x0.Rules_1_Mask, .int .i64 x0.Rules_1_Home, .int .i64 x0.Rules_1_Calls, .int .u64 x0.Rules_2_Mask, .int .i64 x0.Rules_2_Home, .int .i64 x0.Rules_2_Calls, .slice zi x0.Keys.length zj, .int .i64 x0.Life]⟩] H (Ret fun v H' => Ext H H' ∧ R_35 r H.next H' v) := by
 obtain ⟨zn, zt, zy, zz, z0, z1, zv, zw, zx, zq, z2, z3, zu, za, zb, zc, zg, zf, zk, zm, zl, zo, zp, zh, z4⟩ := x0
 unfold f35 at hp
 replace hp := topS hp
 refine SCall.g Tryd.func35 rfl rfl rfl rfl rfl (l := [(0, .v (.agg ⟨[.int .i64 zn, .slice zr zt.length zs, .int .i64 zy, .int .i64 zz, .int .i64 z0, .int .i64 z1, .int .i64 zv, .int .i64 zw, .int .i64 zx, .int .i64 zq, .int .i64 z2, .int .i64 z3, .int .i64 zu, .slice zd za.length ze, .int .u64 zb, .int .i64 zc, .int .i64 zg, .int .u64 zf, .int .i64 zk, .int .i64 zm, .int .u64 zl, .int .i64 zo, .int .i64 zp, .slice zi zh.length zj, .int .i64 z4]⟩))]) (fun _ => rfl) (fun B abB => ?_)
 refine WJ.cn 213 hp rfl rfl rfl rfl rfl rfl rfl rfl rfl (fun hc11 hp => ?_) (fun hc11 hp => ?_)
 ·obtain rfl := endS (show some _ = some r from hp)
  exact WJ.rt 206 rfl rfl rfl (fun ids H' fr => ⟨fr.ext0, rfl⟩)
 ·refine WJ.adv 9 rfl ?_
  obtain ⟨K28, hK28, hp⟩ : ∃ K, K = _ ∧ Option.bind _ K = some r := ⟨_, rfl, cutS hp⟩
  refine WJ.cut 2 (α := Unit) (fun y => [(1, .p 0 0)]) (fun y => [[.int .i64 zn, .slice zr zt.length zs, .int .i64 zy, .int .i64 zz, .int .i64 z0, .int .i64 z1, .int .i64 zv, .int .i64 zw, .int .i64 zx, .int .i64 zq, .int .i64 z2, .int .i64 z3, .int .i64 zu, .slice zd za.length ze, .int .u64 zb, .int .i64 zc, .int .i64 zg, .int .u64 zf, .int .i64 zk, .int .i64 zm, .int .u64 zl, .int .i64 zo, .int .i64 zp, .slice zi zh.length zj, .int .i64 z4]]) (fun y => []) (fun y => B) (fun y => K28 (Sum.inr ()) = some r) ?_ (fun j28 => ?_)
  ·rintro u hp
   subst hK28
   show WJ _ _ _ B [] _ _ ⟨[(1, .p 0 0)], [[.int .i64 zn, .slice zr zt.length zs, .int .i64 zy, .int .i64 zz, .int .i64 z0, .int .i64 z1, .int .i64 zv, .int .i64 zw, .int .i64 zx, .int .i64 zq, .int .i64 z2, .int .i64 z3, .int .i64 zu, .slice zd za.length ze, .int .u64 zb, .int .i64 zc, .int .i64 zg, .int .u64 zf, .int .i64 zk, .int .i64 zm, .int .u64 zl, .int .i64 zo, .int .i64 zp, .slice zi zh.length zj, .int .i64 z4]], true, 0⟩
   refine WJ.adv 6 rfl ?_
   obtain ⟨K29, hK29, hp⟩ : ∃ K, K = _ ∧ Option.bind _ K = some r := ⟨_, rfl, cutS hp⟩
   refine WJ.cut 2 (α := Hp) (fun y => []) (fun y => [[.int .i64 zn, .slice zr zt.length zs, .int .i64 zy, .int .i64 zz, .int .i64 z0, .int .i64 z1, .int .i64 zv, .int .i64 zw, .int .i64 zx, .int .i64 zq, .int .i64 z2, .int .i64 z3, .int .i64 zu, .slice zd za.length ze, .int .u64 zb, .int .i64 zc, .int .i64 zg, .int .u64 zf, .int .i64 zk, .int .i64 zm, .int .u64 zl, .int .i64 zo, .int .i64 zp, .slice zi zh.length zj, .int .i64 z4]]) (fun y => []) (fun y => y) (fun y => K29 (Sum.inr ()) = some r) ?_ (fun j29 => ?_)
   ·rintro B5 hp
    subst hK29
    show WJ _ _ _ B5 [] _ _ ⟨[], [[.int .i64 zn, .slice zr zt.length zs, .int .i64 zy, .int .i64 zz, .int .i64 z0, .int .i64 z1, .int .i64 zv, .int .i64 zw, .int .i64 zx, .int .i64 zq, .int .i64 z2, .int .i64 z3, .int .i64 zu, .slice zd za.length ze, .int .u64 zb, .int .i64 zc, .int .i64 zg, .int .u64 zf, .int .i64 zk, .int .i64 zm, .int .u64 zl, .int .i64 zo, .int .i64 zp, .slice zi zh.length zj, .int .i64 z4]], true, 0⟩
    obtain rfl := endS (show some _ = some r from hp)
    exact WJ.rt 204 rfl rfl rfl (fun ids H' fr => ⟨fr.ext0, rfl⟩)
   ·refine WJ.lp 200 (α := Nat × Int × Hp) (fun y => [(1, .p 0 0), (4, .v (.int .i64 y.2.1))]) (fun y => [[.int .i64 zn, .slice zr zt.length zs, .int .i64 zy, .int .i64 zz, .int .i64 z0, .int .i64 z1, .int .i64 zv, .int .i64 zw, .int .i64 zx, .int .i64 zq, .int .i64 z2, .int .i64 z3, .int .i64 zu, .slice zd za.length ze, .int .u64 zb, .int .i64 zc, .int .i64 zg, .int .u64 zf, .int .i64 zk, .int .i64 zm, .int .u64 zl, .int .i64 zo, .int .i64 zp, .slice zi zh.length zj, .int .i64 z4]]) (fun y => []) (fun y => y.2.2) (fun y => y.1) (fun y => Option.bind (f35_l2 k za zu y.1 y.2.1) K29 = some r) (k, 0, B) rfl hp (by exact ⟨rfl, rfl, trivial⟩) rfl rfl rfl ?_
    rintro ⟨n, x4, B1⟩ hp ih29
    show WJ _ _ _ B1 [] _ _ ⟨[(1, .p 0 0), (4, .v (.int .i64 x4))], [[.int .i64 zn, .slice zr zt.length zs, .int .i64 zy, .int .i64 zz, .int .i64 z0, .int .i64 z1, .int .i64 zv, .int .i64 zw, .int .i64 zx, .int .i64 zq, .int .i64 z2, .int .i64 z3, .int .i64 zu, .slice zd za.length ze, .int .u64 zb, .int .i64 zc, .int .i64 zg, .int .u64 zf, .int .i64 zk, .int .i64 zm, .int .u64 zl, .int .i64 zo, .int .i64 zp, .slice zi zh.length zj, .int .i64 z4]], true, 0⟩
    replace hp : Option.bind (f35_l2 k za zu n x4) K29 = some r := hp
    cases n with
    | zero => rw [f35_l2] at hp; exact (noS hp).elim
    | succ n =>
     rw [f35_l2] at hp
     refine WJ.ci 207 hp rfl rfl rfl rfl rfl rfl rfl rfl rfl (fun hc32 hp => ?_) (fun hc32 hp => ?_)
     ·refine WJ.adv 10 rfl ?_
      obtain ⟨K30, hK30, hp⟩ : ∃ K, K = _ ∧ Option.bind _ K = some r := ⟨_, rfl, cutS hp⟩
      refine WJ.cut 3 (α := Hp) (fun y => [(1, .p 0 0), (4, .v (.int .i64 x4))]) (fun y => [[.int .i64 zn, .slice zr zt.length zs, .int .i64 zy, .int .i64 zz, .int .i64 z0, .int .i64 z1, .int .i64 zv, .int .i64 zw, .int .i64 zx, .int .i64 zq, .int .i64 z2, .int .i64 z3, .int .i64 zu, .slice zd za.length ze, .int .u64 zb, .int .i64 zc, .int .i64 zg, .int .u64 zf, .int .i64 zk, .int .i64 zm, .int .u64 zl, .int .i64 zo, .int .i64 zp, .slice zi zh.length zj, .int .i64 z4]]) (fun y => []) (fun y => y) (fun y => K30 (Sum.inr ()) = some r) ?_ (fun j30 => ?_)
      ·rintro B4 hp
       subst hK30
       show WJ _ _ _ B4 [] _ _ ⟨[(1, .p 0 0), (4, .v (.int .i64 x4))], [[.int .i64 zn, .slice zr zt.length zs, .int .i64 zy, .int .i64 zz, .int .i64 z0, .int .i64 z1, .int .i64 zv, .int .i64 zw, .int .i64 zx, .int .i64 zq, .int .i64 z2, .int .i64 z3, .int .i64 zu, .slice zd za.length ze, .int .u64 zb, .int .i64 zc, .int .i64 zg, .int .u64 zf, .int .i64 zk, .int .i64 zm, .int .u64 zl, .int .i64 zo, .int .i64 zp, .slice zi zh.length zj, .int .i64 z4]], true, 0⟩
       exact WJ.ag 205 rfl (by exact ⟨rfl, rfl, trivial⟩) rfl rfl rfl (ih29 (n, IntKind.i64.wrap (x4 + 1), B4) hp (Nat.lt_succ_self _))
      ·refine WJ.lp 200 (α := Nat × Int × Hp) (fun y => [(1, .p 0 0), (4, .v (.int .i64 x4)), (5, .v (.int .i64 y.2.1))]) (fun y => [[.int .i64 zn, .slice zr zt.length zs, .int .i64 zy, .int .i64 zz, .int .i64 z0, .int .i64 z1, .int .i64 zv, .int .i64 zw, .int .i64 zx, .int .i64 zq, .int .i64 z2, .int .i64 z3, .int .i64 zu, .slice zd za.length ze, .int .u64 zb, .int .i64 zc, .int .i64 zg, .int .u64 zf, .int .i64 zk, .int .i64 zm, .int .u64 zl, .int .i64 zo, .int .i64 zp, .slice zi zh.length zj, .int .i64 z4]]) (fun y => []) (fun y => y.2.2) (fun y => y.1) (fun y => Option.bind (f35_l3 x4 zu za y.1 y.2.1) K30 = some r) (k, 0, B1) rfl hp (by exact ⟨rfl, rfl, rfl, trivial⟩) rfl rfl rfl ?_
       rintro ⟨n30, x5, B2⟩ hp ih30
       show WJ _ _ _ B2 [] _ _ ⟨[(1, .p 0 0), (4, .v (.int .i64 x4)), (5, .v (.int .i64 x5))], [[.int .i64 zn, .slice zr zt.length zs, .int .i64 zy, .int .i64 zz, .int .i64 z0, .int .i64 z1, .int .i64 zv, .int .i64 zw, .int .i64 zx, .int .i64 zq, .int .i64 z2, .int .i64 z3, .int .i64 zu, .slice zd za.length ze, .int .u64 zb, .int .i64 zc, .int .i64 zg, .int .u64 zf, .int .i64 zk, .int .i64 zm, .int .u64 zl, .int .i64 zo, .int .i64 zp, .slice zi zh.length zj, .int .i64 z4]], true, 0⟩
       replace hp : Option.bind (f35_l3 x4 zu za n30 x5) K30 = some r := hp
       cases n30 with
       | zero => rw [f35_l3] at hp; exact (noS hp).elim
       | succ n30 =>
        rw [f35_l3] at hp
        refine WJ.ci 206 hp rfl rfl rfl rfl rfl rfl rfl rfl rfl (fun hc38 hp => ?_) (fun hc38 hp => ?_)
        ·obtain ⟨t44, e44, hp⟩ := bindS hp
         obtain ⟨b44, o44, cs44, i44, ⟨a_t44, c_t44, rfl, g_t44⟩, p44⟩ := z9.at e44 u23 sz22
         refine WJ.hd (v := .pointer (some ⟨b44, o44, none⟩)) 210 rfl rfl rfl rfl (fun ids H' fr => opD_indexAddr rfl (evV_eq _ _ _ _ _ rfl) (evV_eq _ _ _ _ _ rfl) (i44 _)) rfl ?_
         refine WJ.hd (v := .slice a_t44 t44.length c_t44) 200 rfl rfl rfl rfl (fun ids H' fr => opD_load rfl (evV_eq _ _ _ _ _ rfl) ((p44.mono (Nat.zero_le _) fr.ext0.abv).load (d := 0) ag22 rfl)) rfl ?_
         obtain ⟨t47, e47, hp⟩ := bindS hp
         obtain ⟨b47, o47, cs47, i47, rfl, p47⟩ := g_t44.at e47 u22 sz3
         refine WJ.hd (v := .pointer (some ⟨b47, o47, none⟩)) 201 rfl rfl rfl rfl (fun ids H' fr => opD_indexAddr rfl (evV_eq _ _ _ _ _ rfl) (evV_eq _ _ _ _ _ rfl) (i47 _)) rfl ?_
         refine WJ.hd (v := .int .i64 t47) 200 rfl rfl rfl rfl (fun ids H' fr => opD_load rfl (evV_eq _ _ _ _ _ rfl) ((p47.mono (Nat.zero_le _) fr.ext0.abv).load (d := 0) ag3 rfl)) rfl ?_
         obtain ⟨t49, e49, hp⟩ := bindS hp
         refine WJ.cl 200 (R := R_4 t49) (fun hm h k => R_4.mono hm h k) rfl (fun ids H' fr => f34_ok e49) ?_
         rintro v B3 ⟨abB3, ivB3⟩ rfl
         refine ⟨_, rfl, ?_⟩
         cases t49
         ·replace hp := (itS hp).2 Bool.false_ne_true
          subst hK30
          subst hK29
          obtain rfl := endS (show some _ = some r from hp)
          exact WJ.rt 207 rfl rfl rfl (fun ids H' fr => ⟨fr.ext0, rfl⟩)
         ·replace hp := (itS hp).1 rfl
          exact WJ.ag 210 rfl (by exact ⟨rfl, rfl, rfl, trivial⟩) rfl rfl rfl (ih30 (n30, IntKind.i64.wrap (x5 + 1), B3) hp (Nat.lt_succ_self _))
        ·exact WJ.goto 4 (j30 B2 hp) rfl rfl (by exact ⟨rfl, rfl, trivial⟩) rfl rfl rfl
     ·exact WJ.goto 3 (j29 B1 hp) rfl rfl (by exact trivial) rfl rfl rfl
  ·refine WJ.lp 200 (α := Nat × Int) (fun y => [(1, .p 0 0), (3, .v (.int .i64 y.2))]) (fun y => [[.int .i64 zn, .slice zr zt.length zs, .int .i64 zy, .int .i64 zz, .int .i64 z0, .int .i64 z1, .int .i64 zv, .int .i64 zw, .int .i64 zx, .int .i64 zq, .int .i64 z2, .int .i64 z3, .int .i64 zu, .slice zd za.length ze, .int .u64 zb, .int .i64 zc, .int .i64 zg, .int .u64 zf, .int .i64 zk, .int .i64 zm, .int .u64 zl, .int .i64 zo, .int .i64 zp, .slice zi zh.length zj, .int .i64 z4]]) (fun y => []) (fun y => B) (fun y => y.1) (fun y => Option.bind (f35_l1 za zu y.1 y.2) K28 = some r) (k, 0) rfl hp (by exact ⟨rfl, rfl, trivial⟩) rfl rfl rfl ?_
   rintro ⟨n, x3⟩ hp ih28
   show WJ _ _ _ B [] _ _ ⟨[(1, .p 0 0), (3, .v (.int .i64 x3))], [[.int .i64 zn, .slice zr zt.length zs, .int .i64 zy, .int .i64 zz, .int .i64 z0, .int .i64 z1, .int .i64 zv, .int .i64 zw, .int .i64 zx, .int .i64 zq, .int .i64 z2, .int .i64 z3, .int .i64 zu, .slice zd za.length ze, .int .u64 zb, .int .i64 zc, .int .i64 zg, .int .u64 zf, .int .i64 zk, .int .i64 zm, .int .u64 zl, .int .i64 zo, .int .i64 zp, .slice zi zh.length zj, .int .i64 z4]], true, 0⟩
   replace hp : Option.bind (f35_l1 za zu n x3) K28 = some r := hp
   cases n with
   | zero => rw [f35_l1] at hp; exact (noS hp).elim
   | succ n =>
    rw [f35_l1] at hp
    refine WJ.ci 207 hp rfl rfl rfl rfl rfl rfl rfl rfl rfl (fun hc16 hp => ?_) (fun hc16 hp => ?_)
    ·refine WJ.dr 206 rfl gmix (by kernel_rfl) (by kernel_rfl) rfl ?_
     obtain ⟨t22, e22, hp⟩ := bindS hp
     obtain ⟨b22, o22, cs22, i22, ⟨a_t22, c_t22, rfl, g_t22⟩, p22⟩ := z9.at e22 u23 sz22
     refine WD.hd (v := .pointer (some ⟨b22, o22, none⟩)) rfl rfl rfl rfl (fun _ _ _ _ _ => side_no) (fun ids H' fr => opD_indexAddr rfl (evV_eq _ _ _ _ _ rfl) (evV_eq _ _ _ _ _ rfl) (i22 _)) rfl ?_
     refine WD.hd (v := .slice a_t22 t22.length c_t22) rfl rfl rfl rfl (fun _ _ _ _ _ => side_no) (fun ids H' fr => opD_load rfl (evV_eq _ _ _ _ _ rfl) ((p22.mono (Nat.zero_le _) fr.ext0.abv).load (d := 0) ag22 rfl)) rfl ?_
     refine WD.cn hp rfl rfl rfl rfl rfl rfl rfl rfl rfl (fun hc27 hp => ?_) (fun hc27 hp => ?_)
     ·refine WD.done rfl ?_
      subst hK28
      obtain rfl := endS (show some _ = some r from hp)
      exact WJ.rt 205 rfl rfl rfl (fun ids H' fr => ⟨fr.ext0, rfl⟩)
     ·refine WD.done rfl ?_
      exact WJ.ag 208 rfl (by exact ⟨rfl, rfl, trivial⟩) rfl rfl rfl (ih28 (n, IntKind.i64.wrap (x3 + 1)) hp (Nat.lt_succ_self _))
    ·exact WJ.goto 3 (j28 () hp) rfl rfl (by exact ⟨rfl, trivial⟩) rfl rfl rfl
/-! 41 tipstaff/tipstaffref02.Has -/
def f41 (x0 : Int) (x1 : Int) : Option Bool :=
 if x1 ≥ 0 then
  if x1 < 64 then
   (some ((bits .and .u64 (gshr .u64 x0 (IntKind.u64.wrap x1)) 1) == 1)).bind fun t17 =>
   some t17
  else
   some false
 else
  some false
set_option maxHeartbeats 40000000 in
set_option maxRecDepth 20000 in
theorem f41_ok {H : Hp} {x0 : Int} {x1 : Int} {r : Bool} (hp : f41 x0 x1 = some r) :
  SCall Tryd.prog 41 [.int .u64 x0, .int .i64 x1] H (Ret fun v H' => Ext H H' ∧ R_4 r H.next H' v) := by
 unfold f41 at hp
 replace hp := topS hp
 refine SCall.g Tryd.func41 rfl rfl rfl rfl rfl (l := [(0, .v (.int .u64 x0)), (1, .v (.int .i64 x1))]) (fun _ => rfl) (fun B abB => ?_)
 refine WJ.ci 207 hp rfl rfl rfl rfl rfl rfl rfl rfl rfl (fun hc6 hp => ?_) (fun hc6 hp => ?_)
 ·refine WJ.ci 202 hp rfl rfl rfl rfl rfl rfl rfl rfl rfl (fun hc9 hp => ?_) (fun hc9 hp => ?_)
  ·refine WJ.hd (v := .int .u64 (gshr .u64 x0 (IntKind.u64.wrap x1))) 205 rfl rfl rfl rfl (fun ids H' fr => opD_bin rfl (evV_eq _ _ _ _ _ rfl) (evV_eq _ _ _ _ _ rfl) (bin_shr (nn_u64 _))) rfl ?_
   obtain ⟨t17, e17, hp⟩ := bindS hp
   refine WJ.cv 201 (b := t17) (H0 := ⟨.nil, 0, 0⟩) rfl rfl rfl rfl rfl rfl (by rw [← endS e17]; exact rfl) rfl ?_
   obtain rfl := endS (show some _ = some r from hp)
   exact WJ.rt 203 rfl rfl rfl (fun ids H' fr => ⟨fr.ext0, rfl⟩)
  ·obtain rfl := endS (show some _ = some r from hp)
   exact WJ.rt 211 rfl rfl rfl (fun ids H' fr => ⟨fr.ext0, rfl⟩)
 ·obtain rfl := endS (show some _ = some r from hp)
  exact WJ.rt 214 rfl rfl rfl (fun ids H' fr => ⟨fr.ext0, rfl⟩)
/-! 36 tipstaff/tipstaffref27.rules -/
def f36_l1 (zh : List Int) : Nat → Int → Option ((Int) ⊕ (Unit))
 | 0, _ => none
 | n + 1, zai =>
  if zai < (zh.length : Int) then
   (rd zh zai).bind fun t68 =>
   (f34 t68 1 99).bind fun t70 =>
   if t70 then
    (if zai > 0 then
     (rd zh zai).bind fun t78 =>
     (rd zh (IntKind.i64.wrap (zai - 1))).bind fun t84 =>
     if t78 ≤ t84 then
      some (Sum.inl (8 : Int))
     else
      some (Sum.inr ())
    else
     some (Sum.inr ())).bind fun s => match s with
     | .inl st => some (Sum.inl st)
     | .inr _ => 
      f36_l1 zh n (IntKind.i64.wrap (zai + 1))
   else
    some (Sum.inl (2 : Int))
  else
   some (Sum.inr ())
def f36 (k : Nat) (x0 : Config) : Option Int :=
 (if x0.Rules_0_Mask = 0 then
  some (Sum.inl (3 : Int))
 else
  if x0.Floors < 64 then
   if (gshr .u64 x0.Rules_0_Mask (IntKind.u64.wrap x0.Floors)) = 0 then
    (f34 x0.Rules_0_Home 0 (IntKind.i64.wrap (x0.Floors - 1))).bind fun t38 =>
    if t38 then
     (f41 x0.Rules_0_Mask x0.Rules_0_Home).bind fun t45 =>
     if t45 then
      (f34 x0.Rules_0_Calls 1 32).bind fun t51 =>
      if t51 then
       some (Sum.inr ())
      else
       some (Sum.inl (2 : Int))
     else
      some (Sum.inl (2 : Int))
    else
     some (Sum.inl (2 : Int))
   else
    some (Sum.inl (3 : Int))
  else
   (f34 x0.Rules_0_Home 0 (IntKind.i64.wrap (x0.Floors - 1))).bind fun t38u1 =>
   if t38u1 then
    (f41 x0.Rules_0_Mask x0.Rules_0_Home).bind fun t45u1 =>
    if t45u1 then
     (f34 x0.Rules_0_Calls 1 32).bind fun t51u1 =>
     if t51u1 then
      some (Sum.inr ())
     else
      some (Sum.inl (2 : Int))
    else
     some (Sum.inl (2 : Int))
   else
    some (Sum.inl (2 : Int))).bind fun s => match s with
  | .inl st => some st
  | .inr _ => 
   (if x0.Rules_1_Mask = 0 then
    some (Sum.inl (3 : Int))
   else
    if x0.Floors < 64 then
     if (gshr .u64 x0.Rules_1_Mask (IntKind.u64.wrap x0.Floors)) = 0 then
      (f34 x0.Rules_1_Home 0 (IntKind.i64.wrap (x0.Floors - 1))).bind fun t38u2 =>
      if t38u2 then
       (f41 x0.Rules_1_Mask x0.Rules_1_Home).bind fun t45u2 =>
       if t45u2 then
        (f34 x0.Rules_1_Calls 1 32).bind fun t51u2 =>
        if t51u2 then
         some (Sum.inr ())
        else
         some (Sum.inl (2 : Int))
       else
        some (Sum.inl (2 : Int))
      else
       some (Sum.inl (2 : Int))
     else
      some (Sum.inl (3 : Int))
    else
     (f34 x0.Rules_1_Home 0 (IntKind.i64.wrap (x0.Floors - 1))).bind fun t38u3 =>
     if t38u3 then
      (f41 x0.Rules_1_Mask x0.Rules_1_Home).bind fun t45u3 =>
      if t45u3 then
       (f34 x0.Rules_1_Calls 1 32).bind fun t51u3 =>
       if t51u3 then
        some (Sum.inr ())
       else
        some (Sum.inl (2 : Int))
      else
       some (Sum.inl (2 : Int))
     else
      some (Sum.inl (2 : Int))).bind fun s => match s with
    | .inl st => some st
    | .inr _ => 
     (if x0.Rules_2_Mask = 0 then
      some (Sum.inl (3 : Int))
     else
      if x0.Floors < 64 then
       if (gshr .u64 x0.Rules_2_Mask (IntKind.u64.wrap x0.Floors)) = 0 then
        (f34 x0.Rules_2_Home 0 (IntKind.i64.wrap (x0.Floors - 1))).bind fun t38u4 =>
        if t38u4 then
         (f41 x0.Rules_2_Mask x0.Rules_2_Home).bind fun t45u4 =>
         if t45u4 then
          (f34 x0.Rules_2_Calls 1 32).bind fun t51u4 =>
          if t51u4 then
           some (Sum.inr ())
          else
           some (Sum.inl (2 : Int))
         else
          some (Sum.inl (2 : Int))
        else
         some (Sum.inl (2 : Int))
       else
        some (Sum.inl (3 : Int))
      else
       (f34 x0.Rules_2_Home 0 (IntKind.i64.wrap (x0.Floors - 1))).bind fun t38u5 =>
       if t38u5 then
        (f41 x0.Rules_2_Mask x0.Rules_2_Home).bind fun t45u5 =>
        if t45u5 then
         (f34 x0.Rules_2_Calls 1 32).bind fun t51u5 =>
         if t51u5 then
          some (Sum.inr ())
         else
          some (Sum.inl (2 : Int))
        else
         some (Sum.inl (2 : Int))
       else
        some (Sum.inl (2 : Int))).bind fun s => match s with
      | .inl st => some st
      | .inr _ => 
       if (x0.Keys.length : Int) > 8 then
        some 5
       else
        (f36_l1 x0.Keys k 0).bind fun s => match s with
         | .inl st => some st
         | .inr _ => 
          some 0
set_option maxHeartbeats 40000000 in
set_option maxRecDepth 20000 in
theorem f36_ok {k : Nat} {H : Hp} {zr : Option Addr} {zs : Nat} {zd : Option Addr} {ze : Nat} {zi : Option Addr} {zj : Nat} {x0 : Config} {r : Int} (z8 : SlF 0 H intC zr zs x0.Gaps) (z9 : SlF 0 H (slC intC) zd ze x0.Rota) (zaa : SlF 0 H intC zi zj x0.Keys) (hp : f36 k x0 = some r) :
  SCall Tryd.prog 36 [.agg ⟨[.int .i64 x0.Floors, .slice zr x0.Gaps.length zs, .int .i64 x0.Cars, .int .i64 x0.Speed, .int .i64 x0.Brake, .int .i64 x0.Tol, .int .i64 x0.Width, .int .i64 x0.Dwell, .int .i64 x0.Retries, .int .i64 x0.Empty, .int .i64 x0.Full, .int .i64 x0.Trips, .int .i64 x0.Slots, .slice zd x0.Rota.length ze, .int .u64 x0.Rules_0_Mask, .int .i64 x0.Rules_0_Home, .int .i64 x0.Rules_0_Calls, .int .u64 x0.Rules_1_Mask, .int .i64 x0.Rules_1_Home, .int .i64 x0.Rules_1_Calls, .int .u64 x0.Rules_2_Mask, .int .i64 x0.Rules_2_Home, .int .i64 x0.Rules_2_Calls, .slice zi x0.Keys.length zj, .int .i64 x0.Life]⟩] H (Ret fun v H' => Ext H H' ∧ R_35 r H.next H' v) := by
 obtain ⟨zn, zt, zy, zz, z0, z1, zv, zw, zx, zq, z2, z3, zu, za, zb, zc, zg, zf, zk, zm, zl, zo, zp, zh, z4⟩ := x0
 unfold f36 at hp
 replace hp := topS hp
 refine SCall.g Tryd.func36 rfl rfl rfl rfl rfl (l := [(0, .v (.agg ⟨[.int .i64 zn, .slice zr zt.length zs, .int .i64 zy, .int .i64 zz, .int .i64 z0, .int .i64 z1, .int .i64 zv, .int .i64 zw, .int .i64 zx, .int .i64 zq, .int .i64 z2, .int .i64 z3, .int .i64 zu, .slice zd za.length ze, .int .u64 zb, .int .i64 zc, .int .i64 zg, .int .u64 zf, .int .i64 zk, .int .i64 zm, .int .u64 zl, .int .i64 zo, .int .i64 zp, .slice zi zh.length zj, .int .i64 z4]⟩))]) (fun _ => rfl) (fun B abB => ?_)
 have z6 := z8.mono (Nat.le_refl _) abB
 have z7 := z9.mono (Nat.le_refl _) abB
 have z5 := zaa.mono (Nat.le_refl _) abB
 refine WJ.adv 3 rfl ?_
 refine WJ.liftS (loc := []) rfl rfl (fun bv0 => ?_)
 refine WJ.un 208 rfl ?_
 refine WJ.re (I := [(1, .v (.pointer (some ⟨bv0, 0, none⟩))), (3, .v (.int .i64 0))]) (O := [⟨some ⟨bv0, 0, none⟩, 25, 1, [.int .i64 zn, .slice zr zt.length zs, .int .i64 zy, .int .i64 zz, .int .i64 z0, .int .i64 z1, .int .i64 zv, .int .i64 zw, .int .i64 zx, .int .i64 zq, .int .i64 z2, .int .i64 z3, .int .i64 zu, .slice zd za.length ze, .int .u64 zb, .int .i64 zc, .int .i64 zg, .int .u64 zf, .int .i64 zk, .int .i64 zm, .int .u64 zl, .int .i64 zo, .int .i64 zp, .slice zi zh.length zj, .int .i64 z4]⟩]) ?_ (by exact ⟨rfl, rfl, trivial⟩) rfl
 refine WJ.cv 204 (b := true) (H0 := ⟨.nil, 0, 0⟩) rfl rfl rfl rfl rfl rfl rfl rfl ?_
 refine WJ.hd (v := .pointer (some ⟨bv0, 14, none⟩)) 209 rfl rfl rfl rfl (fun ids H' fr => opD_indexAddr rfl (evV_eq _ _ _ _ _ rfl) (evV_eq _ _ _ _ _ rfl) (idxArr (i := 0) ua27 sz26 (by decide) (by decide))) rfl ?_
 refine WJ.hd (v := .agg ⟨[.int .u64 zb, .int .i64 zc, .int .i64 zg]⟩) 200 rfl rfl rfl rfl (fun ids H' fr => opD_load rfl (evV_eq _ _ _ _ _ rfl) (fr.ldOwn (j := 0) rfl rfl)) rfl ?_
 refine WJ.adv 1 rfl ?_
 refine WJ.liftS (loc := []) rfl rfl (fun bv1 => ?_)
 refine WJ.sb 200 (j := 1) rfl rfl rfl rfl rfl rfl rfl rfl rfl rfl ?_
 refine WJ.adv 3 rfl ?_
 obtain ⟨K32, hK32, hp⟩ : ∃ K, K = _ ∧ Option.bind _ K = some r := ⟨_, rfl, cutS hp⟩
 refine WJ.cut 4 (α := Hp) (fun y => [(1, .v (.pointer (some ⟨bv0, 0, none⟩))), (3, .v (.int .i64 0))]) (fun y => []) (fun y => [⟨some ⟨bv0, 0, none⟩, 25, 1, [.int .i64 zn, .slice zr zt.length zs, .int .i64 zy, .int .i64 zz, .int .i64 z0, .int .i64 z1, .int .i64 zv, .int .i64 zw, .int .i64 zx, .int .i64 zq, .int .i64 z2, .int .i64 z3, .int .i64 zu, .slice zd za.length ze, .int .u64 zb, .int .i64 zc, .int .i64 zg, .int .u64 zf, .int .i64 zk, .int .i64 zm, .int .u64 zl, .int .i64 zo, .int .i64 zp, .slice zi zh.length zj, .int .i64 z4]⟩, ⟨some ⟨bv1, 0, none⟩, 3, 1, [.int .u64 zb, .int .i64 zc, .int .i64 zg]⟩]) (fun y => y) (fun y => K32 ((Sum.inr ())) = some r ∧ SlF 0 y intC zr zs zt ∧ SlF 0 y (slC intC) zd ze za ∧ SlF 0 y intC zi zj zh) ?_ (fun j32 => ?_)
 ·rintro B7 ⟨hp, z6, z7, z5⟩
  subst hK32
  show WJ _ _ _ B7 [⟨some ⟨bv0, 0, none⟩, 25, 1, [.int .i64 zn, .slice zr zt.length zs, .int .i64 zy, .int .i64 zz, .int .i64 z0, .int .i64 z1, .int .i64 zv, .int .i64 zw, .int .i64 zx, .int .i64 zq, .int .i64 z2, .int .i64 z3, .int .i64 zu, .slice zd za.length ze, .int .u64 zb, .int .i64 zc, .int .i64 zg, .int .u64 zf, .int .i64 zk, .int .i64 zm, .int .u64 zl, .int .i64 zo, .int .i64 zp, .slice zi zh.length zj, .int .i64 z4]⟩, ⟨some ⟨bv1, 0, none⟩, 3, 1, [.int .u64 zb, .int .i64 zc, .int .i64 zg]⟩] _ _ ⟨[(1, .v (.pointer (some ⟨bv0, 0, none⟩))), (3, .v (.int .i64 0))], [], true, 0⟩
  refine WJ.ro 205 rfl ?_
  refine WJ.re (I := [(1, .v (.pointer (some ⟨bv0, 0, none⟩))), (3, .v (.int .i64 1))]) (O := [⟨some ⟨bv0, 0, none⟩, 25, 1, [.int .i64 zn, .slice zr zt.length zs, .int .i64 zy, .int .i64 zz, .int .i64 z0, .int .i64 z1, .int .i64 zv, .int .i64 zw, .int .i64 zx, .int .i64 zq, .int .i64 z2, .int .i64 z3, .int .i64 zu, .slice zd za.length ze, .int .u64 zb, .int .i64 zc, .int .i64 zg, .int .u64 zf, .int .i64 zk, .int .i64 zm, .int .u64 zl, .int .i64 zo, .int .i64 zp, .slice zi zh.length zj, .int .i64 z4]⟩, ⟨some ⟨bv1, 0, none⟩, 3, 1, [.int .u64 zb, .int .i64 zc, .int .i64 zg]⟩]) ?_ (by exact ⟨rfl, rfl, trivial⟩) rfl
  refine WJ.cv 204 (b := true) (H0 := ⟨.nil, 0, 0⟩) rfl rfl rfl rfl rfl rfl rfl rfl ?_
  refine WJ.hd (v := .pointer (some ⟨bv0, 17, none⟩)) 209 rfl rfl rfl rfl (fun ids H' fr => opD_indexAddr rfl (evV_eq _ _ _ _ _ rfl) (evV_eq _ _ _ _ _ rfl) (idxArr (i := 1) ua27 sz26 (by decide) (by decide))) rfl ?_
  refine WJ.hd (v := .agg ⟨[.int .u64 zf, .int .i64 zk, .int .i64 zm]⟩) 200 rfl rfl rfl rfl (fun ids H' fr => opD_load rfl (evV_eq _ _ _ _ _ rfl) (fr.ldOwn (j := 0) rfl rfl)) rfl ?_
  refine WJ.adv 1 rfl ?_
  refine WJ.liftS (loc := []) rfl rfl (fun bv2 => ?_)
  refine WJ.sb 200 (j := 2) rfl rfl rfl rfl rfl rfl rfl rfl rfl rfl ?_
  refine WJ.adv 3 rfl ?_
  obtain ⟨K33, hK33, hp⟩ : ∃ K, K = _ ∧ Option.bind _ K = some r := ⟨_, rfl, cutS hp⟩
  refine WJ.cut 4 (α := Hp) (fun y => [(1, .v (.pointer (some ⟨bv0, 0, none⟩))), (3, .v (.int .i64 1))]) (fun y => []) (fun y => [⟨some ⟨bv0, 0, none⟩, 25, 1, [.int .i64 zn, .slice zr zt.length zs, .int .i64 zy, .int .i64 zz, .int .i64 z0, .int .i64 z1, .int .i64 zv, .int .i64 zw, .int .i64 zx, .int .i64 zq, .int .i64 z2, .int .i64 z3, .int .i64 zu, .slice zd za.length ze, .int .u64 zb, .int .i64 zc, .int .i64 zg, .int .u64 zf, .int .i64 zk, .int .i64 zm, .int .u64 zl, .int .i64 zo, .int .i64 zp, .slice zi zh.length zj, .int .i64 z4]⟩, ⟨some ⟨bv1, 0, none⟩, 3, 1, [.int .u64 zb, .int .i64 zc, .int .i64 zg]⟩, ⟨some ⟨bv2, 0, none⟩, 3, 1, [.int .u64 zf, .int .i64 zk, .int .i64 zm]⟩]) (fun y => y) (fun y => K33 ((Sum.inr ())) = some r ∧ SlF 0 y intC zr zs zt ∧ SlF 0 y (slC intC) zd ze za ∧ SlF 0 y intC zi zj zh) ?_ (fun j33 => ?_)
  ·rintro B14 ⟨hp, z6, z7, z5⟩
   subst hK33
   show WJ _ _ _ B14 [⟨some ⟨bv0, 0, none⟩, 25, 1, [.int .i64 zn, .slice zr zt.length zs, .int .i64 zy, .int .i64 zz, .int .i64 z0, .int .i64 z1, .int .i64 zv, .int .i64 zw, .int .i64 zx, .int .i64 zq, .int .i64 z2, .int .i64 z3, .int .i64 zu, .slice zd za.length ze, .int .u64 zb, .int .i64 zc, .int .i64 zg, .int .u64 zf, .int .i64 zk, .int .i64 zm, .int .u64 zl, .int .i64 zo, .int .i64 zp, .slice zi zh.length zj, .int .i64 z4]⟩, ⟨some ⟨bv1, 0, none⟩, 3, 1, [.int .u64 zb, .int .i64 zc, .int .i64 zg]⟩, ⟨some ⟨bv2, 0, none⟩, 3, 1, [.int .u64 zf, .int .i64 zk, .int .i64 zm]⟩] _ _ ⟨[(1, .v (.pointer (some ⟨bv0, 0, none⟩))), (3, .v (.int .i64 1))], [], true, 0⟩
   refine WJ.ro 205 rfl ?_
   refine WJ.re (I := [(1, .v (.pointer (some ⟨bv0, 0, none⟩))), (3, .v (.int .i64 2))]) (O := [⟨some ⟨bv0, 0, none⟩, 25, 1, [.int .i64 zn, .slice zr zt.length zs, .int .i64 zy, .int .i64 zz, .int .i64 z0, .int .i64 z1, .int .i64 zv, .int .i64 zw, .int .i64 zx, .int .i64 zq, .int .i64 z2, .int .i64 z3, .int .i64 zu, .slice zd za.length ze, .int .u64 zb, .int .i64 zc, .int .i64 zg, .int .u64 zf, .int .i64 zk, .int .i64 zm, .int .u64 zl, .int .i64 zo, .int .i64 zp, .slice zi zh.length zj, .int .i64 z4]⟩, ⟨some ⟨bv1, 0, none⟩, 3, 1, [.int .u64 zb, .int .i64 zc, .int .i64 zg]⟩, ⟨some ⟨bv2, 0, none⟩, 3, 1, [.int .u64 zf, .int .i64 zk, .int .i64 zm]⟩]) ?_ (by exact ⟨rfl, rfl, trivial⟩) rfl
   refine WJ.cv 204 (b := true) (H0 := ⟨.nil, 0, 0⟩) rfl rfl rfl rfl rfl rfl rfl rfl ?_
   refine WJ.hd (v := .pointer (some ⟨bv0, 20, none⟩)) 209 rfl rfl rfl rfl (fun ids H' fr => opD_indexAddr rfl (evV_eq _ _ _ _ _ rfl) (evV_eq _ _ _ _ _ rfl) (idxArr (i := 2) ua27 sz26 (by decide) (by decide))) rfl ?_
   refine WJ.hd (v := .agg ⟨[.int .u64 zl, .int .i64 zo, .int .i64 zp]⟩) 200 rfl rfl rfl rfl (fun ids H' fr => opD_load rfl (evV_eq _ _ _ _ _ rfl) (fr.ldOwn (j := 0) rfl rfl)) rfl ?_
   refine WJ.adv 1 rfl ?_
   refine WJ.liftS (loc := []) rfl rfl (fun bv3 => ?_)
   refine WJ.sb 200 (j := 3) rfl rfl rfl rfl rfl rfl rfl rfl rfl rfl ?_
   refine WJ.adv 3 rfl ?_
   obtain ⟨K34, hK34, hp⟩ : ∃ K, K = _ ∧ Option.bind _ K = some r := ⟨_, rfl, cutS hp⟩
   refine WJ.cut 4 (α := Hp) (fun y => [(1, .v (.pointer (some ⟨bv0, 0, none⟩))), (3, .v (.int .i64 2))]) (fun y => []) (fun y => [⟨some ⟨bv0, 0, none⟩, 25, 1, [.int .i64 zn, .slice zr zt.length zs, .int .i64 zy, .int .i64 zz, .int .i64 z0, .int .i64 z1, .int .i64 zv, .int .i64 zw, .int .i64 zx, .int .i64 zq, .int .i64 z2, .int .i64 z3, .int .i64 zu, .slice zd za.length ze, .int .u64 zb, .int .i64 zc, .int .i64 zg, .int .u64 zf, .int .i64 zk, .int .i64 zm, .int .u64 zl, .int .i64 zo, .int .i64 zp, .slice zi zh.length zj, .int .i64 z4]⟩, ⟨some ⟨bv1, 0, none⟩, 3, 1, [.int .u64 zb, .int .i64 zc, .int .i64 zg]⟩, ⟨some ⟨bv2, 0, none⟩, 3, 1, [.int .u64 zf, .int .i64 zk, .int .i64 zm]⟩, ⟨some ⟨bv3, 0, none⟩, 3, 1, [.int .u64 zl, .int .i64 zo, .int .i64 zp]⟩]) (fun y => y) (fun y => K34 ((Sum.inr ())) = some r ∧ SlF 0 y intC zr zs zt ∧ SlF 0 y (slC intC) zd ze za ∧ SlF 0 y intC zi zj zh) ?_ (fun j34 => ?_)
   ·rintro B21 ⟨hp, z6, z7, z5⟩
    subst hK34
    show WJ _ _ _ B21 [⟨some ⟨bv0, 0, none⟩, 25, 1, [.int .i64 zn, .slice zr zt.length zs, .int .i64 zy, .int .i64 zz, .int .i64 z0, .int .i64 z1, .int .i64 zv, .int .i64 zw, .int .i64 zx, .int .i64 zq, .int .i64 z2, .int .i64 z3, .int .i64 zu, .slice zd za.length ze, .int .u64 zb, .int .i64 zc, .int .i64 zg, .int .u64 zf, .int .i64 zk, .int .i64 zm, .int .u64 zl, .int .i64 zo, .int .i64 zp, .slice zi zh.length zj, .int .i64 z4]⟩, ⟨some ⟨bv1, 0, none⟩, 3, 1, [.int .u64 zb, .int .i64 zc, .int .i64 zg]⟩, ⟨some ⟨bv2, 0, none⟩, 3, 1, [.int .u64 zf, .int .i64 zk, .int .i64 zm]⟩, ⟨some ⟨bv3, 0, none⟩, 3, 1, [.int .u64 zl, .int .i64 zo, .int .i64 zp]⟩] _ _ ⟨[(1, .v (.pointer (some ⟨bv0, 0, none⟩))), (3, .v (.int .i64 2))], [], true, 0⟩
    refine WJ.ro 205 rfl ?_
    refine WJ.re (I := [(1, .v (.pointer (some ⟨bv0, 0, none⟩))), (3, .v (.int .i64 3))]) (O := [⟨some ⟨bv0, 0, none⟩, 25, 1, [.int .i64 zn, .slice zr zt.length zs, .int .i64 zy, .int .i64 zz, .int .i64 z0, .int .i64 z1, .int .i64 zv, .int .i64 zw, .int .i64 zx, .int .i64 zq, .int .i64 z2, .int .i64 z3, .int .i64 zu, .slice zd za.length ze, .int .u64 zb, .int .i64 zc, .int .i64 zg, .int .u64 zf, .int .i64 zk, .int .i64 zm, .int .u64 zl, .int .i64 zo, .int .i64 zp, .slice zi zh.length zj, .int .i64 z4]⟩, ⟨some ⟨bv1, 0, none⟩, 3, 1, [.int .u64 zb, .int .i64 zc, .int .i64 zg]⟩, ⟨some ⟨bv2, 0, none⟩, 3, 1, [.int .u64 zf, .int .i64 zk, .int .i64 zm]⟩, ⟨some ⟨bv3, 0, none⟩, 3, 1, [.int .u64 zl, .int .i64 zo, .int .i64 zp]⟩]) ?_ (by exact ⟨rfl, rfl, trivial⟩) rfl
    refine WJ.cv 204 (b := false) (H0 := ⟨.nil, 0, 0⟩) rfl rfl rfl rfl rfl rfl rfl rfl ?_
    refine WJ.hd (v := .slice zi zh.length zj) 207 rfl rfl rfl rfl (fun ids H' fr => opD_load rfl (evV_eq _ _ _ _ _ rfl) (fr.ldOwn (j := 0) rfl rfl)) rfl ?_
    refine WJ.ci 201 hp rfl rfl rfl rfl rfl rfl rfl rfl rfl (fun hc57 hp => ?_) (fun hc57 hp => ?_)
    ·obtain rfl := endS (show some _ = some r from hp)
     exact WJ.rt 206 rfl rfl rfl (fun ids H' fr => ⟨fr.ext0, rfl⟩)
    ·refine WJ.adv 9 rfl ?_
     obtain ⟨K35, hK35, hp⟩ : ∃ K, K = _ ∧ Option.bind _ K = some r := ⟨_, rfl, cutS hp⟩
     refine WJ.cut 2 (α := Hp) (fun y => []) (fun y => []) (fun y => [⟨some ⟨bv0, 0, none⟩, 25, 1, [.int .i64 zn, .slice zr zt.length zs, .int .i64 zy, .int .i64 zz, .int .i64 z0, .int .i64 z1, .int .i64 zv, .int .i64 zw, .int .i64 zx, .int .i64 zq, .int .i64 z2, .int .i64 z3, .int .i64 zu, .slice zd za.length ze, .int .u64 zb, .int .i64 zc, .int .i64 zg, .int .u64 zf, .int .i64 zk, .int .i64 zm, .int .u64 zl, .int .i64 zo, .int .i64 zp, .slice zi zh.length zj, .int .i64 z4]⟩, ⟨some ⟨bv1, 0, none⟩, 3, 1, [.int .u64 zb, .int .i64 zc, .int .i64 zg]⟩, ⟨some ⟨bv2, 0, none⟩, 3, 1, [.int .u64 zf, .int .i64 zk, .int .i64 zm]⟩, ⟨some ⟨bv3, 0, none⟩, 3, 1, [.int .u64 zl, .int .i64 zo, .int .i64 zp]⟩]) (fun y => y) (fun y => K35 (Sum.inr ()) = some r ∧ SlF 0 y intC zr zs zt ∧ SlF 0 y (slC intC) zd ze za ∧ SlF 0 y intC zi zj zh) ?_ (fun j35 => ?_)
     ·rintro B24 ⟨hp, z6, z7, z5⟩
      subst hK35
      show WJ _ _ _ B24 [⟨some ⟨bv0, 0, none⟩, 25, 1, [.int .i64 zn, .slice zr zt.length zs, .int .i64 zy, .int .i64 zz, .int .i64 z0, .int .i64 z1, .int .i64 zv, .int .i64 zw, .int .i64 zx, .int .i64 zq, .int .i64 z2, .int .i64 z3, .int .i64 zu, .slice zd za.length ze, .int .u64 zb, .int .i64 zc, .int .i64 zg, .int .u64 zf, .int .i64 zk, .int .i64 zm, .int .u64 zl, .int .i64 zo, .int .i64 zp, .slice zi zh.length zj, .int .i64 z4]⟩, ⟨some ⟨bv1, 0, none⟩, 3, 1, [.int .u64 zb, .int .i64 zc, .int .i64 zg]⟩, ⟨some ⟨bv2, 0, none⟩, 3, 1, [.int .u64 zf, .int .i64 zk, .int .i64 zm]⟩, ⟨some ⟨bv3, 0, none⟩, 3, 1, [.int .u64 zl, .int .i64 zo, .int .i64 zp]⟩] _ _ ⟨[], [], true, 0⟩
      obtain rfl := endS (show some _ = some r from hp)
      exact WJ.rt 204 rfl rfl rfl (fun ids H' fr => ⟨fr.ext0, rfl⟩)
     ·refine WJ.lp 200 (α := Nat × Int × Hp) (fun y => [(1, .v (.pointer (some ⟨bv0, 0, none⟩))), (5, .v (.int .i64 y.2.1))]) (fun y => []) (fun y => [⟨some ⟨bv0, 0, none⟩, 25, 1, [.int .i64 zn, .slice zr zt.length zs, .int .i64 zy, .int .i64 zz, .int .i64 z0, .int .i64 z1, .int .i64 zv, .int .i64 zw, .int .i64 zx, .int .i64 zq, .int .i64 z2, .int .i64 z3, .int .i64 zu, .slice zd za.length ze, .int .u64 zb, .int .i64 zc, .int .i64 zg, .int .u64 zf, .int .i64 zk, .int .i64 zm, .int .u64 zl, .int .i64 zo, .int .i64 zp, .slice zi zh.length zj, .int .i64 z4]⟩, ⟨some ⟨bv1, 0, none⟩, 3, 1, [.int .u64 zb, .int .i64 zc, .int .i64 zg]⟩, ⟨some ⟨bv2, 0, none⟩, 3, 1, [.int .u64 zf, .int .i64 zk, .int .i64 zm]⟩, ⟨some ⟨bv3, 0, none⟩, 3, 1, [.int .u64 zl, .int .i64 zo, .int .i64 zp]⟩]) (fun y => y.2.2) (fun y => y.1) (fun y => Option.bind (f36_l1 zh y.1 y.2.1) K35 = some r ∧ SlF 0 y.2.2 intC zr zs zt ∧ SlF 0 y.2.2 (slC intC) zd ze za ∧ SlF 0 y.2.2 intC zi zj zh) (k, 0, B21) rfl ⟨hp, z6, z7, z5⟩ (by exact ⟨rfl, rfl, trivial⟩) rfl rfl rfl ?_
      rintro ⟨n, zai, B22⟩ ⟨hp, z6, z7, z5⟩ ih35
      show WJ _ _ _ B22 [⟨some ⟨bv0, 0, none⟩, 25, 1, [.int .i64 zn, .slice zr zt.length zs, .int .i64 zy, .int .i64 zz, .int .i64 z0, .int .i64 z1, .int .i64 zv, .int .i64 zw, .int .i64 zx, .int .i64 zq, .int .i64 z2, .int .i64 z3, .int .i64 zu, .slice zd za.length ze, .int .u64 zb, .int .i64 zc, .int .i64 zg, .int .u64 zf, .int .i64 zk, .int .i64 zm, .int .u64 zl, .int .i64 zo, .int .i64 zp, .slice zi zh.length zj, .int .i64 z4]⟩, ⟨some ⟨bv1, 0, none⟩, 3, 1, [.int .u64 zb, .int .i64 zc, .int .i64 zg]⟩, ⟨some ⟨bv2, 0, none⟩, 3, 1, [.int .u64 zf, .int .i64 zk, .int .i64 zm]⟩, ⟨some ⟨bv3, 0, none⟩, 3, 1, [.int .u64 zl, .int .i64 zo, .int .i64 zp]⟩] _ _ ⟨[(1, .v (.pointer (some ⟨bv0, 0, none⟩))), (5, .v (.int .i64 zai))], [], true, 0⟩
      replace hp : Option.bind (f36_l1 zh n zai) K35 = some r := hp
      cases n with
      | zero => rw [f36_l1] at hp; exact (noS hp).elim
      | succ n =>
       rw [f36_l1] at hp
       refine WJ.hd (v := .slice zi zh.length zj) 205 rfl rfl rfl rfl (fun ids H' fr => opD_load rfl (evV_eq _ _ _ _ _ rfl) (fr.ldOwn (j := 0) rfl rfl)) rfl ?_
       refine WJ.ci 201 hp rfl rfl rfl rfl rfl rfl rfl rfl rfl (fun hc62 hp => ?_) (fun hc62 hp => ?_)
       ·refine WJ.hd (v := .slice zi zh.length zj) 209 rfl rfl rfl rfl (fun ids H' fr => opD_load rfl (evV_eq _ _ _ _ _ rfl) (fr.ldOwn (j := 0) rfl rfl)) rfl ?_
        obtain ⟨t68, e68, hp⟩ := bindS hp
        obtain ⟨b68, o68, cs68, i68, rfl, p68⟩ := z5.at e68 u22 sz3
        refine WJ.hd (v := .pointer (some ⟨b68, o68, none⟩)) 201 rfl rfl rfl rfl (fun ids H' fr => opD_indexAddr rfl (evV_eq _ _ _ _ _ rfl) (evV_eq _ _ _ _ _ rfl) (i68 _)) rfl ?_
        refine WJ.hd (v := .int .i64 t68) 200 rfl rfl rfl rfl (fun ids H' fr => opD_load rfl (evV_eq _ _ _ _ _ rfl) ((p68.mono (Nat.zero_le _) (fr.abv.le (Nat.zero_le _))).load (d := 0) ag3 rfl)) rfl ?_
        obtain ⟨t70, e70, hp⟩ := bindS hp
        refine WJ.cl 200 (R := R_4 t70) (fun hm h k => R_4.mono hm h k) rfl (fun ids H' fr => f34_ok e70) ?_
        rintro v B23 ⟨abB23, ivB23⟩ rfl
        refine ⟨_, rfl, ?_⟩
        replace z6 := z6.mono (Nat.le_refl _) (abB23.le (Nat.zero_le _))
        replace z7 := z7.mono (Nat.le_refl _) (abB23.le (Nat.zero_le _))
        replace z5 := z5.mono (Nat.le_refl _) (abB23.le (Nat.zero_le _))
        replace p68 := p68.mono (Nat.le_refl _) (abB23.le (Nat.zero_le _))
        cases t70
        ·replace hp := (itS hp).2 Bool.false_ne_true
         subst hK35
         obtain rfl := endS (show some _ = some r from hp)
         exact WJ.rt 207 rfl rfl rfl (fun ids H' fr => ⟨fr.ext0, rfl⟩)
        ·replace hp := (itS hp).1 rfl
         refine WJ.adv 5 rfl ?_
         obtain ⟨K36, hK36, hp⟩ : ∃ K, K = _ ∧ Option.bind _ K = some r := ⟨_, rfl, cutS hp⟩
         refine WJ.cut 3 (α := Unit) (fun y => [(1, .v (.pointer (some ⟨bv0, 0, none⟩))), (5, .v (.int .i64 zai))]) (fun y => []) (fun y => [⟨some ⟨bv0, 0, none⟩, 25, 1, [.int .i64 zn, .slice zr zt.length zs, .int .i64 zy, .int .i64 zz, .int .i64 z0, .int .i64 z1, .int .i64 zv, .int .i64 zw, .int .i64 zx, .int .i64 zq, .int .i64 z2, .int .i64 z3, .int .i64 zu, .slice zd za.length ze, .int .u64 zb, .int .i64 zc, .int .i64 zg, .int .u64 zf, .int .i64 zk, .int .i64 zm, .int .u64 zl, .int .i64 zo, .int .i64 zp, .slice zi zh.length zj, .int .i64 z4]⟩, ⟨some ⟨bv1, 0, none⟩, 3, 1, [.int .u64 zb, .int .i64 zc, .int .i64 zg]⟩, ⟨some ⟨bv2, 0, none⟩, 3, 1, [.int .u64 zf, .int .i64 zk, .int .i64 zm]⟩, ⟨some ⟨bv3, 0, none⟩, 3, 1, [.int .u64 zl, .int .i64 zo, .int .i64 zp]⟩]) (fun y => B23) (fun y => K36 ((Sum.inr ())) = some r) ?_ (fun j36 => ?_)
         ·rintro u hp
          subst hK36
          show WJ _ _ _ B23 [⟨some ⟨bv0, 0, none⟩, 25, 1, [.int .i64 zn, .slice zr zt.length zs, .int .i64 zy, .int .i64 zz, .int .i64 z0, .int .i64 z1, .int .i64 zv, .int .i64 zw, .int .i64 zx, .int .i64 zq, .int .i64 z2, .int .i64 z3, .int .i64 zu, .slice zd za.length ze, .int .u64 zb, .int .i64 zc, .int .i64 zg, .int .u64 zf, .int .i64 zk, .int .i64 zm, .int .u64 zl, .int .i64 zo, .int .i64 zp, .slice zi zh.length zj, .int .i64 z4]⟩, ⟨some ⟨bv1, 0, none⟩, 3, 1, [.int .u64 zb, .int .i64 zc, .int .i64 zg]⟩, ⟨some ⟨bv2, 0, none⟩, 3, 1, [.int .u64 zf, .int .i64 zk, .int .i64 zm]⟩, ⟨some ⟨bv3, 0, none⟩, 3, 1, [.int .u64 zl, .int .i64 zo, .int .i64 zp]⟩] _ _ ⟨[(1, .v (.pointer (some ⟨bv0, 0, none⟩))), (5, .v (.int .i64 zai))], [], true, 0⟩
          exact WJ.ag 205 rfl (by exact ⟨rfl, rfl, trivial⟩) rfl rfl rfl (ih35 (n, IntKind.i64.wrap (zai + 1), B23) ⟨hp, z6, z7, z5⟩ (Nat.lt_succ_self _))
         ·refine WJ.dr 200 rfl gmix (by kernel_rfl) (by kernel_rfl) rfl ?_
          refine WD.ci hp rfl rfl rfl rfl rfl rfl rfl rfl rfl (fun hc73 hp => ?_) (fun hc73 hp => ?_)
          ·refine WD.hd (v := .slice zi zh.length zj) rfl rfl rfl rfl (fun _ _ _ _ _ => side_no) (fun ids H' fr => opD_load rfl (evV_eq _ _ _ _ _ rfl) (fr.ldOwn (j := 0) rfl rfl)) rfl ?_
           obtain ⟨t78, e78, hp⟩ := bindS hp
           obtain ⟨b78, o78, cs78, i78, rfl, p78⟩ := z5.at e78 u22 sz3
           refine WD.hd (v := .pointer (some ⟨b78, o78, none⟩)) rfl rfl rfl rfl (fun _ _ _ _ _ => side_no) (fun ids H' fr => opD_indexAddr rfl (evV_eq _ _ _ _ _ rfl) (evV_eq _ _ _ _ _ rfl) (i78 _)) rfl ?_
           refine WD.hd (v := .int .i64 t78) rfl rfl rfl rfl (fun _ _ _ _ _ => side_no) (fun ids H' fr => opD_load rfl (evV_eq _ _ _ _ _ rfl) ((p78.mono (Nat.zero_le _) (fr.abv.le (Nat.zero_le _))).load (d := 0) ag3 rfl)) rfl ?_
           refine WD.hd (v := .slice zi zh.length zj) rfl rfl rfl rfl (fun _ _ _ _ _ => side_no) (fun ids H' fr => opD_load rfl (evV_eq _ _ _ _ _ rfl) (fr.ldOwn (j := 0) rfl rfl)) rfl ?_
           obtain ⟨t84, e84, hp⟩ := bindS hp
           obtain ⟨b84, o84, cs84, i84, rfl, p84⟩ := z5.at e84 u22 sz3
           refine WD.hd (v := .pointer (some ⟨b84, o84, none⟩)) rfl rfl rfl rfl (fun _ _ _ _ _ => side_no) (fun ids H' fr => opD_indexAddr rfl (evV_eq _ _ _ _ _ rfl) (evV_eq _ _ _ _ _ rfl) (i84 _)) rfl ?_
           refine WD.hd (v := .int .i64 t84) rfl rfl rfl rfl (fun _ _ _ _ _ => side_no) (fun ids H' fr => opD_load rfl (evV_eq _ _ _ _ _ rfl) ((p84.mono (Nat.zero_le _) (fr.abv.le (Nat.zero_le _))).load (d := 0) ag3 rfl)) rfl ?_
           refine WD.ci hp rfl rfl rfl rfl rfl rfl rfl rfl rfl (fun hc86 hp => ?_) (fun hc86 hp => ?_)
           ·refine WD.done rfl ?_
            subst hK36
            subst hK35
            obtain rfl := endS (show some _ = some r from hp)
            exact WJ.rt 205 rfl rfl rfl (fun ids H' fr => ⟨fr.ext0, rfl⟩)
           ·refine WD.done rfl ?_
            exact WJ.goto 3 (j36 () hp) rfl rfl (by exact ⟨rfl, rfl, trivial⟩) rfl rfl rfl
          ·refine WD.done rfl ?_
           exact WJ.goto 3 (j36 () hp) rfl rfl (by exact ⟨rfl, rfl, trivial⟩) rfl rfl rfl
       ·exact WJ.goto 3 (j35 B22 ⟨hp, z6, z7, z5⟩) rfl rfl (by exact trivial) rfl rfl rfl
   ·refine WJ.hd (v := .int .u64 zl) 202 rfl rfl rfl rfl (fun ids H' fr => opD_load rfl (evV_eq _ _ _ _ _ rfl) (fr.ldOwn (j := 3) rfl rfl)) rfl ?_
    refine WJ.ci 200 hp rfl rfl rfl rfl rfl rfl rfl rfl rfl (fun hc17u2 hp => ?_) (fun hc17u2 hp => ?_)
    ·subst hK34
     obtain rfl := endS (show some _ = some r from hp)
     exact WJ.rt 221 rfl rfl rfl (fun ids H' fr => ⟨fr.ext0, rfl⟩)
    ·refine WJ.hd (v := .int .i64 zn) 202 rfl rfl rfl rfl (fun ids H' fr => opD_load rfl (evV_eq _ _ _ _ _ rfl) (fr.ldOwn (j := 0) rfl rfl)) rfl ?_
     refine WJ.ci 200 hp rfl rfl rfl rfl rfl rfl rfl rfl rfl (fun hc21u2 hp => ?_) (fun hc21u2 hp => ?_)
     ·refine WJ.hd (v := .int .u64 zl) 202 rfl rfl rfl rfl (fun ids H' fr => opD_load rfl (evV_eq _ _ _ _ _ rfl) (fr.ldOwn (j := 3) rfl rfl)) rfl ?_
      refine WJ.hd (v := .int .i64 zn) 201 rfl rfl rfl rfl (fun ids H' fr => opD_load rfl (evV_eq _ _ _ _ _ rfl) (fr.ldOwn (j := 0) rfl rfl)) rfl ?_
      refine WJ.hd (v := .int .u64 (gshr .u64 zl (IntKind.u64.wrap zn))) 201 rfl rfl rfl rfl (fun ids H' fr => opD_bin rfl (evV_eq _ _ _ _ _ rfl) (evV_eq _ _ _ _ _ rfl) (bin_shr (nn_u64 _))) rfl ?_
      refine WJ.cn 200 hp rfl rfl rfl rfl rfl rfl rfl rfl rfl (fun hc29u2 hp => ?_) (fun hc29u2 hp => ?_)
      ·subst hK34
       obtain rfl := endS (show some _ = some r from hp)
       exact WJ.rt 209 rfl rfl rfl (fun ids H' fr => ⟨fr.ext0, rfl⟩)
      ·refine WJ.hd (v := .int .i64 zo) 208 rfl rfl rfl rfl (fun ids H' fr => opD_load rfl (evV_eq _ _ _ _ _ rfl) (fr.ldOwn (j := 3) rfl rfl)) rfl ?_
       refine WJ.hd (v := .int .i64 zn) 201 rfl rfl rfl rfl (fun ids H' fr => opD_load rfl (evV_eq _ _ _ _ _ rfl) (fr.ldOwn (j := 0) rfl rfl)) rfl ?_
       obtain ⟨t38u4, e38u4, hp⟩ := bindS hp
       refine WJ.cl 201 (R := R_4 t38u4) (fun hm h k => R_4.mono hm h k) rfl (fun ids H' fr => f34_ok e38u4) ?_
       rintro v B15 ⟨abB15, ivB15⟩ rfl
       refine ⟨_, rfl, ?_⟩
       replace z6 := z6.mono (Nat.le_refl _) (abB15.le (Nat.zero_le _))
       replace z7 := z7.mono (Nat.le_refl _) (abB15.le (Nat.zero_le _))
       replace z5 := z5.mono (Nat.le_refl _) (abB15.le (Nat.zero_le _))
       cases t38u4
       ·replace hp := (itS hp).2 Bool.false_ne_true
        subst hK34
        obtain rfl := endS (show some _ = some r from hp)
        exact WJ.rt 222 rfl rfl rfl (fun ids H' fr => ⟨fr.ext0, rfl⟩)
       ·replace hp := (itS hp).1 rfl
        refine WJ.hd (v := .int .u64 zl) 203 rfl rfl rfl rfl (fun ids H' fr => opD_load rfl (evV_eq _ _ _ _ _ rfl) (fr.ldOwn (j := 3) rfl rfl)) rfl ?_
        refine WJ.hd (v := .int .i64 zo) 201 rfl rfl rfl rfl (fun ids H' fr => opD_load rfl (evV_eq _ _ _ _ _ rfl) (fr.ldOwn (j := 3) rfl rfl)) rfl ?_
        obtain ⟨t45u4, e45u4, hp⟩ := bindS hp
        refine WJ.cl 200 (R := R_4 t45u4) (fun hm h k => R_4.mono hm h k) rfl (fun ids H' fr => f41_ok e45u4) ?_
        rintro v B16 ⟨abB16, ivB16⟩ rfl
        refine ⟨_, rfl, ?_⟩
        replace z6 := z6.mono (Nat.le_refl _) (abB16.le (Nat.zero_le _))
        replace z7 := z7.mono (Nat.le_refl _) (abB16.le (Nat.zero_le _))
        replace z5 := z5.mono (Nat.le_refl _) (abB16.le (Nat.zero_le _))
        cases t45u4
        ·replace hp := (itS hp).2 Bool.false_ne_true
         subst hK34
         obtain rfl := endS (show some _ = some r from hp)
         exact WJ.rt 215 rfl rfl rfl (fun ids H' fr => ⟨fr.ext0, rfl⟩)
        ·replace hp := (itS hp).1 rfl
         refine WJ.hd (v := .int .i64 zp) 204 rfl rfl rfl rfl (fun ids H' fr => opD_load rfl (evV_eq _ _ _ _ _ rfl) (fr.ldOwn (j := 3) rfl rfl)) rfl ?_
         obtain ⟨t51u4, e51u4, hp⟩ := bindS hp
         refine WJ.cl 200 (R := R_4 t51u4) (fun hm h k => R_4.mono hm h k) rfl (fun ids H' fr => f34_ok e51u4) ?_
         rintro v B17 ⟨abB17, ivB17⟩ rfl
         refine ⟨_, rfl, ?_⟩
         replace z6 := z6.mono (Nat.le_refl _) (abB17.le (Nat.zero_le _))
         replace z7 := z7.mono (Nat.le_refl _) (abB17.le (Nat.zero_le _))
         replace z5 := z5.mono (Nat.le_refl _) (abB17.le (Nat.zero_le _))
         cases t51u4
         ·replace hp := (itS hp).2 Bool.false_ne_true
          subst hK34
          obtain rfl := endS (show some _ = some r from hp)
          exact WJ.rt 209 rfl rfl rfl (fun ids H' fr => ⟨fr.ext0, rfl⟩)
         ·replace hp := (itS hp).1 rfl
          exact WJ.goto 8 (j34 B17 ⟨hp, z6, z7, z5⟩) rfl rfl (by exact ⟨rfl, rfl, trivial⟩) rfl rfl rfl
     ·refine WJ.hd (v := .int .i64 zo) 216 rfl rfl rfl rfl (fun ids H' fr => opD_load rfl (evV_eq _ _ _ _ _ rfl) (fr.ldOwn (j := 3) rfl rfl)) rfl ?_
      refine WJ.hd (v := .int .i64 zn) 201 rfl rfl rfl rfl (fun ids H' fr => opD_load rfl (evV_eq _ _ _ _ _ rfl) (fr.ldOwn (j := 0) rfl rfl)) rfl ?_
      obtain ⟨t38u5, e38u5, hp⟩ := bindS hp
      refine WJ.cl 201 (R := R_4 t38u5) (fun hm h k => R_4.mono hm h k) rfl (fun ids H' fr => f34_ok e38u5) ?_
      rintro v B18 ⟨abB18, ivB18⟩ rfl
      refine ⟨_, rfl, ?_⟩
      replace z6 := z6.mono (Nat.le_refl _) (abB18.le (Nat.zero_le _))
      replace z7 := z7.mono (Nat.le_refl _) (abB18.le (Nat.zero_le _))
      replace z5 := z5.mono (Nat.le_refl _) (abB18.le (Nat.zero_le _))
      cases t38u5
      ·replace hp := (itS hp).2 Bool.false_ne_true
       subst hK34
       obtain rfl := endS (show some _ = some r from hp)
       exact WJ.rt 222 rfl rfl rfl (fun ids H' fr => ⟨fr.ext0, rfl⟩)
      ·replace hp := (itS hp).1 rfl
       refine WJ.hd (v := .int .u64 zl) 203 rfl rfl rfl rfl (fun ids H' fr => opD_load rfl (evV_eq _ _ _ _ _ rfl) (fr.ldOwn (j := 3) rfl rfl)) rfl ?_
       refine WJ.hd (v := .int .i64 zo) 201 rfl rfl rfl rfl (fun ids H' fr => opD_load rfl (evV_eq _ _ _ _ _ rfl) (fr.ldOwn (j := 3) rfl rfl)) rfl ?_
       obtain ⟨t45u5, e45u5, hp⟩ := bindS hp
       refine WJ.cl 200 (R := R_4 t45u5) (fun hm h k => R_4.mono hm h k) rfl (fun ids H' fr => f41_ok e45u5) ?_
       rintro v B19 ⟨abB19, ivB19⟩ rfl
       refine ⟨_, rfl, ?_⟩
       replace z6 := z6.mono (Nat.le_refl _) (abB19.le (Nat.zero_le _))
       replace z7 := z7.mono (Nat.le_refl _) (abB19.le (Nat.zero_le _))
       replace z5 := z5.mono (Nat.le_refl _) (abB19.le (Nat.zero_le _))
       cases t45u5
       ·replace hp := (itS hp).2 Bool.false_ne_true
        subst hK34
        obtain rfl := endS (show some _ = some r from hp)
        exact WJ.rt 215 rfl rfl rfl (fun ids H' fr => ⟨fr.ext0, rfl⟩)
       ·replace hp := (itS hp).1 rfl
        refine WJ.hd (v := .int .i64 zp) 204 rfl rfl rfl rfl (fun ids H' fr => opD_load rfl (evV_eq _ _ _ _ _ rfl) (fr.ldOwn (j := 3) rfl rfl)) rfl ?_
        obtain ⟨t51u5, e51u5, hp⟩ := bindS hp
        refine WJ.cl 200 (R := R_4 t51u5) (fun hm h k => R_4.mono hm h k) rfl (fun ids H' fr => f34_ok e51u5) ?_
        rintro v B20 ⟨abB20, ivB20⟩ rfl
        refine ⟨_, rfl, ?_⟩
        replace z6 := z6.mono (Nat.le_refl _) (abB20.le (Nat.zero_le _))
        replace z7 := z7.mono (Nat.le_refl _) (abB20.le (Nat.zero_le _))
        replace z5 := z5.mono (Nat.le_refl _) (abB20.le (Nat.zero_le _))
        cases t51u5
        ·replace hp := (itS hp).2 Bool.false_ne_true
         subst hK34
         obtain rfl := endS (show some _ = some r from hp)
         exact WJ.rt 209 rfl rfl rfl (fun ids H' fr => ⟨fr.ext0, rfl⟩)
        ·replace hp := (itS hp).1 rfl
         exact WJ.goto 8 (j34 B20 ⟨hp, z6, z7, z5⟩) rfl rfl (by exact ⟨rfl, rfl, trivial⟩) rfl rfl rfl
  ·refine WJ.hd (v := .int .u64 zf) 202 rfl rfl rfl rfl (fun ids H' fr => opD_load rfl (evV_eq _ _ _ _ _ rfl) (fr.ldOwn (j := 2) rfl rfl)) rfl ?_
   refine WJ.ci 200 hp rfl rfl rfl rfl rfl rfl rfl rfl rfl (fun hc17u1 hp => ?_) (fun hc17u1 hp => ?_)
   ·subst hK33
    obtain rfl := endS (show some _ = some r from hp)
    exact WJ.rt 221 rfl rfl rfl (fun ids H' fr => ⟨fr.ext0, rfl⟩)
   ·refine WJ.hd (v := .int .i64 zn) 202 rfl rfl rfl rfl (fun ids H' fr => opD_load rfl (evV_eq _ _ _ _ _ rfl) (fr.ldOwn (j := 0) rfl rfl)) rfl ?_
    refine WJ.ci 200 hp rfl rfl rfl rfl rfl rfl rfl rfl rfl (fun hc21u1 hp => ?_) (fun hc21u1 hp => ?_)
    ·refine WJ.hd (v := .int .u64 zf) 202 rfl rfl rfl rfl (fun ids H' fr => opD_load rfl (evV_eq _ _ _ _ _ rfl) (fr.ldOwn (j := 2) rfl rfl)) rfl ?_
     refine WJ.hd (v := .int .i64 zn) 201 rfl rfl rfl rfl (fun ids H' fr => opD_load rfl (evV_eq _ _ _ _ _ rfl) (fr.ldOwn (j := 0) rfl rfl)) rfl ?_
     refine WJ.hd (v := .int .u64 (gshr .u64 zf (IntKind.u64.wrap zn))) 201 rfl rfl rfl rfl (fun ids H' fr => opD_bin rfl (evV_eq _ _ _ _ _ rfl) (evV_eq _ _ _ _ _ rfl) (bin_shr (nn_u64 _))) rfl ?_
     refine WJ.cn 200 hp rfl rfl rfl rfl rfl rfl rfl rfl rfl (fun hc29u1 hp => ?_) (fun hc29u1 hp => ?_)
     ·subst hK33
      obtain rfl := endS (show some _ = some r from hp)
      exact WJ.rt 209 rfl rfl rfl (fun ids H' fr => ⟨fr.ext0, rfl⟩)
     ·refine WJ.hd (v := .int .i64 zk) 208 rfl rfl rfl rfl (fun ids H' fr => opD_load rfl (evV_eq _ _ _ _ _ rfl) (fr.ldOwn (j := 2) rfl rfl)) rfl ?_
      refine WJ.hd (v := .int .i64 zn) 201 rfl rfl rfl rfl (fun ids H' fr => opD_load rfl (evV_eq _ _ _ _ _ rfl) (fr.ldOwn (j := 0) rfl rfl)) rfl ?_
      obtain ⟨t38u2, e38u2, hp⟩ := bindS hp
      refine WJ.cl 201 (R := R_4 t38u2) (fun hm h k => R_4.mono hm h k) rfl (fun ids H' fr => f34_ok e38u2) ?_
      rintro v B8 ⟨abB8, ivB8⟩ rfl
      refine ⟨_, rfl, ?_⟩
      replace z6 := z6.mono (Nat.le_refl _) (abB8.le (Nat.zero_le _))
      replace z7 := z7.mono (Nat.le_refl _) (abB8.le (Nat.zero_le _))
      replace z5 := z5.mono (Nat.le_refl _) (abB8.le (Nat.zero_le _))
      cases t38u2
      ·replace hp := (itS hp).2 Bool.false_ne_true
       subst hK33
       obtain rfl := endS (show some _ = some r from hp)
       exact WJ.rt 222 rfl rfl rfl (fun ids H' fr => ⟨fr.ext0, rfl⟩)
      ·replace hp := (itS hp).1 rfl
       refine WJ.hd (v := .int .u64 zf) 203 rfl rfl rfl rfl (fun ids H' fr => opD_load rfl (evV_eq _ _ _ _ _ rfl) (fr.ldOwn (j := 2) rfl rfl)) rfl ?_
       refine WJ.hd (v := .int .i64 zk) 201 rfl rfl rfl rfl (fun ids H' fr => opD_load rfl (evV_eq _ _ _ _ _ rfl) (fr.ldOwn (j := 2) rfl rfl)) rfl ?_
       obtain ⟨t45u2, e45u2, hp⟩ := bindS hp
       refine WJ.cl 200 (R := R_4 t45u2) (fun hm h k => R_4.mono hm h k) rfl (fun ids H' fr => f41_ok e45u2) ?_
       rintro v B9 ⟨abB9, ivB9⟩ rfl
       refine ⟨_, rfl, ?_⟩
       replace z6 := z6.mono (Nat.le_refl _) (abB9.le (Nat.zero_le _))
       replace z7 := z7.mono (Nat.le_refl _) (abB9.le (Nat.zero_le _))
       replace z5 := z5.mono (Nat.le_refl _) (abB9.le (Nat.zero_le _))
       cases t45u2
       ·replace hp := (itS hp).2 Bool.false_ne_true
        subst hK33
        obtain rfl := endS (show some _ = some r from hp)
        exact WJ.rt 215 rfl rfl rfl (fun ids H' fr => ⟨fr.ext0, rfl⟩)
       ·replace hp := (itS hp).1 rfl
        refine WJ.hd (v := .int .i64 zm) 204 rfl rfl rfl rfl (fun ids H' fr => opD_load rfl (evV_eq _ _ _ _ _ rfl) (fr.ldOwn (j := 2) rfl rfl)) rfl ?_
        obtain ⟨t51u2, e51u2, hp⟩ := bindS hp
        refine WJ.cl 200 (R := R_4 t51u2) (fun hm h k => R_4.mono hm h k) rfl (fun ids H' fr => f34_ok e51u2) ?_
        rintro v B10 ⟨abB10, ivB10⟩ rfl
        refine ⟨_, rfl, ?_⟩
        replace z6 := z6.mono (Nat.le_refl _) (abB10.le (Nat.zero_le _))
        replace z7 := z7.mono (Nat.le_refl _) (abB10.le (Nat.zero_le _))
        replace z5 := z5.mono (Nat.le_refl _) (abB10.le (Nat.zero_le _))
        cases t51u2
        ·replace hp := (itS hp).2 Bool.false_ne_true
         subst hK33
         obtain rfl := endS (show some _ = some r from hp)
         exact WJ.rt 209 rfl rfl rfl (fun ids H' fr => ⟨fr.ext0, rfl⟩)
        ·replace hp := (itS hp).1 rfl
         exact WJ.goto 8 (j33 B10 ⟨hp, z6, z7, z5⟩) rfl rfl (by exact ⟨rfl, rfl, trivial⟩) rfl rfl rfl
    ·refine WJ.hd (v := .int .i64 zk) 216 rfl rfl rfl rfl (fun ids H' fr => opD_load rfl (evV_eq _ _ _ _ _ rfl) (fr.ldOwn (j := 2) rfl rfl)) rfl ?_
     refine WJ.hd (v := .int .i64 zn) 201 rfl rfl rfl rfl (fun ids H' fr => opD_load rfl (evV_eq _ _ _ _ _ rfl) (fr.ldOwn (j := 0) rfl rfl)) rfl ?_
     obtain ⟨t38u3, e38u3, hp⟩ := bindS hp
     refine WJ.cl 201 (R := R_4 t38u3) (fun hm h k => R_4.mono hm h k) rfl (fun ids H' fr => f34_ok e38u3) ?_
     rintro v B11 ⟨abB11, ivB11⟩ rfl
     refine ⟨_, rfl, ?_⟩
     replace z6 := z6.mono (Nat.le_refl _) (abB11.le (Nat.zero_le _))
     replace z7 := z7.mono (Nat.le_refl _) (abB11.le (Nat.zero_le _))
     replace z5 := z5.mono (Nat.le_refl _) (abB11.le (Nat.zero_le _))
     cases t38u3
     ·replace hp := (itS hp).2 Bool.false_ne_true
      subst hK33
      obtain rfl := endS (show some _ = some r from hp)
      exact WJ.rt 222 rfl rfl rfl (fun ids H' fr => ⟨fr.ext0, rfl⟩)
     ·replace hp := (itS hp).1 rfl
      refine WJ.hd (v := .int .u64 zf) 203 rfl rfl rfl rfl (fun ids H' fr => opD_load rfl (evV_eq _ _ _ _ _ rfl) (fr.ldOwn (j := 2) rfl rfl)) rfl ?_
      refine WJ.hd (v := .int .i64 zk) 201 rfl rfl rfl rfl (fun ids H' fr => opD_load rfl (evV_eq _ _ _ _ _ rfl) (fr.ldOwn (j := 2) rfl rfl)) rfl ?_
      obtain ⟨t45u3, e45u3, hp⟩ := bindS hp
      refine WJ.cl 200 (R := R_4 t45u3) (fun hm h k => R_4.mono hm h k) rfl (fun ids H' fr => f41_ok e45u3) ?_
      rintro v B12 ⟨abB12, ivB12⟩ rfl
      refine ⟨_, rfl, ?_⟩
      replace z6 := z6.mono (Nat.le_refl _) (abB12.le (Nat.zero_le _))
      replace z7 := z7.mono (Nat.le_refl _) (abB12.le (Nat.zero_le _))
      replace z5 := z5.mono (Nat.le_refl _) (abB12.le (Nat.zero_le _))
      cases t45u3
      ·replace hp := (itS hp).2 Bool.false_ne_true
       subst hK33
       obtain rfl := endS (show some _ = some r from hp)
       exact WJ.rt 215 rfl rfl rfl (fun ids H' fr => ⟨fr.ext0, rfl⟩)
      ·replace hp := (itS hp).1 rfl
       refine WJ.hd (v := .int .i64 zm) 204 rfl rfl rfl rfl (fun ids H' fr => opD_load rfl (evV_eq _ _ _ _ _ rfl) (fr.ldOwn (j := 2) rfl rfl)) rfl ?_
       obtain ⟨t51u3, e51u3, hp⟩ := bindS hp
       refine WJ.cl 200 (R := R_4 t51u3) (fun hm h k => R_4.mono hm h k) rfl (fun ids H' fr => f34_ok e51u3) ?_
       rintro v B13 ⟨abB13, ivB13⟩ rfl
       refine ⟨_, rfl, ?_⟩
       replace z6 := z6.mono (Nat.le_refl _) (abB13.le (Nat.zero_le _))
       replace z7 := z7.mono (Nat.le_refl _) (abB13.le (Nat.zero_le _))
       replace z5 := z5.mono (Nat.le_refl _) (abB13.le (Nat.zero_le _))
       cases t51u3
       ·replace hp := (itS hp).2 Bool.false_ne_true
        subst hK33
        obtain rfl := endS (show some _ = some r from hp)
        exact WJ.rt 209 rfl rfl rfl (fun ids H' fr => ⟨fr.ext0, rfl⟩)
       ·replace hp := (itS hp).1 rfl
        exact WJ.goto 8 (j33 B13 ⟨hp, z6, z7, z5⟩) rfl rfl (by exact ⟨rfl, rfl, trivial⟩) rfl rfl rfl
 ·refine WJ.hd (v := .int .u64 zb) 202 rfl rfl rfl rfl (fun ids H' fr => opD_load rfl (evV_eq _ _ _ _ _ rfl) (fr.ldOwn (j := 1) rfl rfl)) rfl ?_
  refine WJ.ci 200 hp rfl rfl rfl rfl rfl rfl rfl rfl rfl (fun hc17 hp => ?_) (fun hc17 hp => ?_)
  ·subst hK32
   obtain rfl := endS (show some _ = some r from hp)
   exact WJ.rt 221 rfl rfl rfl (fun ids H' fr => ⟨fr.ext0, rfl⟩)
  ·refine WJ.hd (v := .int .i64 zn) 202 rfl rfl rfl rfl (fun ids H' fr => opD_load rfl (evV_eq _ _ _ _ _ rfl) (fr.ldOwn (j := 0) rfl rfl)) rfl ?_
   refine WJ.ci 200 hp rfl rfl rfl rfl rfl rfl rfl rfl rfl (fun hc21 hp => ?_) (fun hc21 hp => ?_)
   ·refine WJ.hd (v := .int .u64 zb) 202 rfl rfl rfl rfl (fun ids H' fr => opD_load rfl (evV_eq _ _ _ _ _ rfl) (fr.ldOwn (j := 1) rfl rfl)) rfl ?_
    refine WJ.hd (v := .int .i64 zn) 201 rfl rfl rfl rfl (fun ids H' fr => opD_load rfl (evV_eq _ _ _ _ _ rfl) (fr.ldOwn (j := 0) rfl rfl)) rfl ?_
    refine WJ.hd (v := .int .u64 (gshr .u64 zb (IntKind.u64.wrap zn))) 201 rfl rfl rfl rfl (fun ids H' fr => opD_bin rfl (evV_eq _ _ _ _ _ rfl) (evV_eq _ _ _ _ _ rfl) (bin_shr (nn_u64 _))) rfl ?_
    refine WJ.cn 200 hp rfl rfl rfl rfl rfl rfl rfl rfl rfl (fun hc29 hp => ?_) (fun hc29 hp => ?_)
    ·subst hK32
     obtain rfl := endS (show some _ = some r from hp)
     exact WJ.rt 209 rfl rfl rfl (fun ids H' fr => ⟨fr.ext0, rfl⟩)
    ·refine WJ.hd (v := .int .i64 zc) 208 rfl rfl rfl rfl (fun ids H' fr => opD_load rfl (evV_eq _ _ _ _ _ rfl) (fr.ldOwn (j := 1) rfl rfl)) rfl ?_
     refine WJ.hd (v := .int .i64 zn) 201 rfl rfl rfl rfl (fun ids H' fr => opD_load rfl (evV_eq _ _ _ _ _ rfl) (fr.ldOwn (j := 0) rfl rfl)) rfl ?_
     obtain ⟨t38, e38, hp⟩ := bindS hp
     refine WJ.cl 201 (R := R_4 t38) (fun hm h k => R_4.mono hm h k) rfl (fun ids H' fr => f34_ok e38) ?_
     rintro v B1 ⟨abB1, ivB1⟩ rfl
     refine ⟨_, rfl, ?_⟩
     replace z6 := z6.mono (Nat.le_refl _) (abB1.le (Nat.zero_le _))
     replace z7 := z7.mono (Nat.le_refl _) (abB1.le (Nat.zero_le _))
     replace z5 := z5.mono (Nat.le_refl _) (abB1.le (Nat.zero_le _))
     cases t38
     ·replace hp := (itS hp).2 Bool.false_ne_true
      subst hK32
      obtain rfl := endS (show some _ = some r from hp)
      exact WJ.rt 222 rfl rfl rfl (fun ids H' fr => ⟨fr.ext0, rfl⟩)
     ·replace hp := (itS hp).1 rfl
      refine WJ.hd (v := .int .u64 zb) 203 rfl rfl rfl rfl (fun ids H' fr => opD_load rfl (evV_eq _ _ _ _ _ rfl) (fr.ldOwn (j := 1) rfl rfl)) rfl ?_
      refine WJ.hd (v := .int .i64 zc) 201 rfl rfl rfl rfl (fun ids H' fr => opD_load rfl (evV_eq _ _ _ _ _ rfl) (fr.ldOwn (j := 1) rfl rfl)) rfl ?_
      obtain ⟨t45, e45, hp⟩ := bindS hp
      refine WJ.cl 200 (R := R_4 t45) (fun hm h k => R_4.mono hm h k) rfl (fun ids H' fr => f41_ok e45) ?_
      rintro v B2 ⟨abB2, ivB2⟩ rfl
      refine ⟨_, rfl, ?_⟩
      replace z6 := z6.mono (Nat.le_refl _) (abB2.le (Nat.zero_le _))
      replace z7 := z7.mono (Nat.le_refl _) (abB2.le (Nat.zero_le _))
      replace z5 := z5.mono (Nat.le_refl _) (abB2.le (Nat.zero_le _))
      cases t45
      ·replace hp := (itS hp).2 Bool.false_ne_true
       subst hK32
       obtain rfl := endS (show some _ = some r from hp)
       exact WJ.rt 215 rfl rfl rfl (fun ids H' fr => ⟨fr.ext0, rfl⟩)
      ·replace hp := (itS hp).1 rfl
       refine WJ.hd (v := .int .i64 zg) 204 rfl rfl rfl rfl (fun ids H' fr => opD_load rfl (evV_eq _ _ _ _ _ rfl) (fr.ldOwn (j := 1) rfl rfl)) rfl ?_
       obtain ⟨t51, e51, hp⟩ := bindS hp
       refine WJ.cl 200 (R := R_4 t51) (fun hm h k => R_4.mono hm h k) rfl (fun ids H' fr => f34_ok e51) ?_
       rintro v B3 ⟨abB3, ivB3⟩ rfl
       refine ⟨_, rfl, ?_⟩
       replace z6 := z6.mono (Nat.le_refl _) (abB3.le (Nat.zero_le _))
       replace z7 := z7.mono (Nat.le_refl _) (abB3.le (Nat.zero_le _))
       replace z5 := z5.mono (Nat.le_refl _) (abB3.le (Nat.zero_le _))
       cases t51
       ·replace hp := (itS hp).2 Bool.false_ne_true
        subst hK32
        obtain rfl := endS (show some _ = some r from hp)
        exact WJ.rt 209 rfl rfl rfl (fun ids H' fr => ⟨fr.ext0, rfl⟩)
       ·replace hp := (itS hp).1 rfl
        exact WJ.goto 8 (j32 B3 ⟨hp, z6, z7, z5⟩) rfl rfl (by exact ⟨rfl, rfl, trivial⟩) rfl rfl rfl
   ·refine WJ.hd (v := .int .i64 zc) 216 rfl rfl rfl rfl (fun ids H' fr => opD_load rfl (evV_eq _ _ _ _ _ rfl) (fr.ldOwn (j := 1) rfl rfl)) rfl ?_
    refine WJ.hd (v := .int .i64 zn) 201 rfl rfl rfl rfl (fun ids H' fr => opD_load rfl (evV_eq _ _ _ _ _ rfl) (fr.ldOwn (j := 0) rfl rfl)) rfl ?_
    obtain ⟨t38u1, e38u1, hp⟩ := bindS hp
    refine WJ.cl 201 (R := R_4 t38u1) (fun hm h k => R_4.mono hm h k) rfl (fun ids H' fr => f34_ok e38u1) ?_
    rintro v B4 ⟨abB4, ivB4⟩ rfl
    refine ⟨_, rfl, ?_⟩
    replace z6 := z6.mono (Nat.le_refl _) (abB4.le (Nat.zero_le _))
    replace z7 := z7.mono (Nat.le_refl _) (abB4.le (Nat.zero_le _))
    replace z5 := z5.mono (Nat.le_refl _) (abB4.le (Nat.zero_le _))
    cases t38u1
    ·replace hp := (itS hp).2 Bool.false_ne_true
     subst hK32
     obtain rfl := endS (show some _ = some r from hp)
     exact WJ.rt 222 rfl rfl rfl (fun ids H' fr => ⟨fr.ext0, rfl⟩)
    ·replace hp := (itS hp).1 rfl
     refine WJ.hd (v := .int .u64 zb) 203 rfl rfl rfl rfl (fun ids H' fr => opD_load rfl (evV_eq _ _ _ _ _ rfl) (fr.ldOwn (j := 1) rfl rfl)) rfl ?_
     refine WJ.hd (v := .int .i64 zc) 201 rfl rfl rfl rfl (fun ids H' fr => opD_load rfl (evV_eq _ _ _ _ _ rfl) (fr.ldOwn (j := 1) rfl rfl)) rfl ?_
     obtain ⟨t45u1, e45u1, hp⟩ := bindS hp
     refine WJ.cl 200 (R := R_4 t45u1) (fun hm h k => R_4.mono hm h k) rfl (fun ids H' fr => f41_ok e45u1) ?_
     rintro v B5 ⟨abB5, ivB5⟩ rfl
     refine ⟨_, rfl, ?_⟩
     replace z6 := z6.mono (Nat.le_refl _) (abB5.le (Nat.zero_le _))
     replace z7 := z7.mono (Nat.le_refl _) (abB5.le (Nat.zero_le _))
     replace z5 := z5.mono (Nat.le_refl _) (abB5.le (Nat.zero_le _))
     cases t45u1
     ·replace hp := (itS hp).2 Bool.false_ne_true
      subst hK32
      obtain rfl := endS (show some _ = some r from hp)
      exact WJ.rt 215 rfl rfl rfl (fun ids H' fr => ⟨fr.ext0, rfl⟩)
     ·replace hp := (itS hp).1 rfl
      refine WJ.hd (v := .int .i64 zg) 204 rfl rfl rfl rfl (fun ids H' fr => opD_load rfl (evV_eq _ _ _ _ _ rfl) (fr.ldOwn (j := 1) rfl rfl)) rfl ?_
      obtain ⟨t51u1, e51u1, hp⟩ := bindS hp
      refine WJ.cl 200 (R := R_4 t51u1) (fun hm h k => R_4.mono hm h k) rfl (fun ids H' fr => f34_ok e51u1) ?_
      rintro v B6 ⟨abB6, ivB6⟩ rfl
      refine ⟨_, rfl, ?_⟩
      replace z6 := z6.mono (Nat.le_refl _) (abB6.le (Nat.zero_le _))
      replace z7 := z7.mono (Nat.le_refl _) (abB6.le (Nat.zero_le _))
      replace z5 := z5.mono (Nat.le_refl _) (abB6.le (Nat.zero_le _))
      cases t51u1
      ·replace hp := (itS hp).2 Bool.false_ne_true
       subst hK32
       obtain rfl := endS (show some _ = some r from hp)
       exact WJ.rt 209 rfl rfl rfl (fun ids H' fr => ⟨fr.ext0, rfl⟩)
      ·replace hp := (itS hp).1 rfl
       exact WJ.goto 8 (j32 B6 ⟨hp, z6, z7, z5⟩) rfl rfl (by exact ⟨rfl, rfl, trivial⟩) rfl rfl rfl
end
end Go.Proofs.YthemdclmlcblbaaDoor
set_option linter.unusedVariables false
set_option linter.unusedSimpArgs false
namespace Go.Proofs.YthemdclmlcblbaaDoor
open Go Go.Det Go.RowKit
noncomputable section
/-! 9 tipstaff/config.Check -/
def f9 (k : Nat) (x0 : Config) : Option Int :=
 (f31 x0.Floors 2 64).bind fun t19u1 =>
 if t19u1 then
  (f31 x0.Cars 1 8).bind fun t19u2 =>
  if t19u2 then
   (f31 x0.Speed 1 20).bind fun t19u3 =>
   if t19u3 then
    (f31 x0.Brake 0 5).bind fun t19u4 =>
    if t19u4 then
     (f31 x0.Tol 0 20).bind fun t19u5 =>
     if t19u5 then
      (f31 x0.Width 1 20).bind fun t19u6 =>
      if t19u6 then
       (f31 x0.Dwell 1 50).bind fun t19u7 =>
       if t19u7 then
        (f31 x0.Retries 0 5).bind fun t19u8 =>
        if t19u8 then
         (f31 x0.Empty 0 10000).bind fun t19u9 =>
         if t19u9 then
          (f31 x0.Full (IntKind.i64.wrap (x0.Empty + 1)) 10000).bind fun t19u10 =>
          if t19u10 then
           (f31 x0.Trips 1 16).bind fun t19u11 =>
           if t19u11 then
            (f31 x0.Slots 1 24).bind fun t19u12 =>
            if t19u12 then
             (f31 x0.Life 1 100000).bind fun t19u13 =>
             if t19u13 then
              (f32 k x0).bind fun t23u1 =>
              some t23u1
             else
              some 2
            else
             some 2
           else
            some 2
          else
           some 2
         else
          some 2
        else
         some 2
       else
        some 2
      else
       some 2
     else
      some 2
    else
     some 2
   else
    some 2
  else
   some 2
 else
  some 2
set_option maxHeartbeats 40000000 in
set_option maxRecDepth 20000 in
theorem f9_ok {k : Nat} {H : Hp} {zr : Option Addr} {zs : Nat} {zd : Option Addr} {ze : Nat} {zi : Option Addr} {zj : Nat} {x0 : Config} {r : Int} (z8 : SlF 0 H intC zr zs x0.Gaps) (z9 : SlF 0 H (slC intC) zd ze x0.Rota) (zaa : SlF 0 H intC zi zj x0.Keys) (hp : f9 k x0 = some r) :
  SCall Tryd.prog 9 [.agg ⟨[.int .i64 x0.Floors, .slice zr x0.Gaps.length zs, .int .i64 x0.Cars, .int .i64 x0.Speed, .int .i64 x0.Brake, .int .i64 x0.Tol, .int .i64 x0.Width, .int .i64 x0.Dwell, .int .i64 x0.Retries, .int .i64 x0.Empty, .int .i64 x0.Full, .int .i64 x0.Trips, .int .i64 x0.Slots, .slice zd x0.Rota.length ze, .int .u64 x0.Rules_0_Mask, .int .i64 x0.Rules_0_Home, .int .i64 x0.Rules_0_Calls, .int .u64 x0.Rules_1_Mask, .int .i64 x0.Rules_1_Home, .int .i64 x0.Rules_1_Calls, .int .u64 x0.Rules_2_Mask, .int .i64 x0.Rules_2_Home, .int .i64 x0.Rules_2_Calls, .slice zi x0.Keys.length zj, .int .i64 x0.Life]⟩] H (Ret fun v H' => Ext H H' ∧ R_35 r H.next H' v) := by
 obtain ⟨zn, zt, zy, zz, z0, z1, zv, zw, zx, zq, z2, z3, zu, za, zb, zc, zg, zf, zk, zm, zl, zo, zp, zh, z4⟩ := x0
 unfold f9 at hp
 replace hp := topS hp
 refine SCall.g Tryd.func9 rfl rfl rfl rfl rfl (l := [(0, .v (.agg ⟨[.int .i64 zn, .slice zr zt.length zs, .int .i64 zy, .int .i64 zz, .int .i64 z0, .int .i64 z1, .int .i64 zv, .int .i64 zw, .int .i64 zx, .int .i64 zq, .int .i64 z2, .int .i64 z3, .int .i64 zu, .slice zd za.length ze, .int .u64 zb, .int .i64 zc, .int .i64 zg, .int .u64 zf, .int .i64 zk, .int .i64 zm, .int .u64 zl, .int .i64 zo, .int .i64 zp, .slice zi zh.length zj, .int .i64 z4]⟩))]) (fun _ => rfl) (fun B abB => ?_)
 have z6 := z8.mono (Nat.le_refl _) abB
 have z7 := z9.mono (Nat.le_refl _) abB
 have z5 := zaa.mono (Nat.le_refl _) abB
 refine WJ.adv 3 rfl ?_
 refine WJ.liftS (loc := []) rfl rfl (fun bv0 => ?_)
 refine WJ.inl 205 rfl rfl Tryd.func30 rfl rfl rfl rfl rfl (lc := [(0, .v (.pointer (some ⟨bv0, 0, none⟩)))]) (fun _ => rfl) ?_
 refine WJ.drCG (c := 59) (m := 1) 205 rfl gmix (by kernel_rfl) (by kernel_rfl) rfl rfl (fun D1 eD1 abD1 obD1 => ?_)
 have zcj := z6
 have zck := z7
 have zcl := z5
 refine WD.hd (v := .int .i64 zq) rfl rfl rfl rfl (fun ids H' s0 h0 f => side_load rfl rfl rfl (obD1 0 _ _ rfl rfl) h0 f) (fun ids H' fr => opD_load rfl (evV_eq _ _ _ _ _ rfl) (fr.ldOwn (j := 0) rfl rfl)) rfl ?_
 refine WD.doneE [(3, .p 0 0), (61, .v (.agg ⟨[.string (bs ([102, 108, 111, 111, 114, 115] : List UInt8)), .pointer (some ⟨bv0, 0, none⟩), .int .i64 2, .int .i64 64, .string (bs ([99, 97, 114, 115] : List UInt8)), .pointer (some ⟨bv0, 2, none⟩), .int .i64 1, .int .i64 8, .string (bs ([115, 112, 101, 101, 100] : List UInt8)), .pointer (some ⟨bv0, 3, none⟩), .int .i64 1, .int .i64 20, .string (bs ([98, 114, 97, 107, 101] : List UInt8)), .pointer (some ⟨bv0, 4, none⟩), .int .i64 0, .int .i64 5, .string (bs ([116, 111, 108] : List UInt8)), .pointer (some ⟨bv0, 5, none⟩), .int .i64 0, .int .i64 20, .string (bs ([119, 105, 100, 116, 104] : List UInt8)), .pointer (some ⟨bv0, 6, none⟩), .int .i64 1, .int .i64 20, .string (bs ([100, 119, 101, 108, 108] : List UInt8)), .pointer (some ⟨bv0, 7, none⟩), .int .i64 1, .int .i64 50, .string (bs ([114, 101, 116, 114, 105, 101, 115] : List UInt8)), .pointer (some ⟨bv0, 8, none⟩), .int .i64 0, .int .i64 5, .string (bs ([101, 109, 112, 116, 121] : List UInt8)), .pointer (some ⟨bv0, 9, none⟩), .int .i64 0, .int .i64 10000, .string (bs ([102, 117, 108, 108] : List UInt8)), .pointer (some ⟨bv0, 10, none⟩), .int .i64 (IntKind.i64.wrap (zq + 1)), .int .i64 10000, .string (bs ([116, 114, 105, 112, 115] : List UInt8)), .pointer (some ⟨bv0, 11, none⟩), .int .i64 1, .int .i64 16, .string (bs ([115, 108, 111, 116, 115] : List UInt8)), .pointer (some ⟨bv0, 12, none⟩), .int .i64 1, .int .i64 24, .string (bs ([108, 105, 102, 101] : List UInt8)), .pointer (some ⟨bv0, 24, none⟩), .int .i64 1, .int .i64 100000]⟩)), (60, .v (.agg ⟨[.string (bs ([108, 105, 102, 101] : List UInt8)), .pointer (some ⟨bv0, 24, none⟩), .int .i64 1, .int .i64 100000]⟩)), (59, .v (.pointer (some ⟨bv0, 24, none⟩))), (58, .v (.pointer (some ⟨bv0, 0, none⟩))), (57, .v (.pointer (some ⟨bv0, 0, none⟩))), (56, .v (.agg ⟨[.string (bs ([115, 108, 111, 116, 115] : List UInt8)), .pointer (some ⟨bv0, 12, none⟩), .int .i64 1, .int .i64 24]⟩)), (55, .v (.pointer (some ⟨bv0, 12, none⟩))), (54, .v (.pointer (some ⟨bv0, 0, none⟩))), (53, .v (.pointer (some ⟨bv0, 0, none⟩))), (52, .v (.agg ⟨[.string (bs ([116, 114, 105, 112, 115] : List UInt8)), .pointer (some ⟨bv0, 11, none⟩), .int .i64 1, .int .i64 16]⟩)), (51, .v (.pointer (some ⟨bv0, 11, none⟩))), (50, .v (.pointer (some ⟨bv0, 0, none⟩))), (49, .v (.pointer (some ⟨bv0, 0, none⟩))), (48, .v (.agg ⟨[.string (bs ([102, 117, 108, 108] : List UInt8)), .pointer (some ⟨bv0, 10, none⟩), .int .i64 (IntKind.i64.wrap (zq + 1)), .int .i64 10000]⟩)), (47, .v (.int .i64 (IntKind.i64.wrap (zq + 1)))), (46, .v (.int .i64 zq)), (45, .v (.pointer (some ⟨bv0, 9, none⟩))), (44, .v (.pointer (some ⟨bv0, 0, none⟩))), (43, .v (.pointer (some ⟨bv0, 0, none⟩))), (42, .v (.pointer (some ⟨bv0, 10, none⟩))), (41, .v (.pointer (some ⟨bv0, 0, none⟩))), (40, .v (.pointer (some ⟨bv0, 0, none⟩))), (39, .v (.agg ⟨[.string (bs ([101, 109, 112, 116, 121] : List UInt8)), .pointer (some ⟨bv0, 9, none⟩), .int .i64 0, .int .i64 10000]⟩)), (38, .v (.pointer (some ⟨bv0, 9, none⟩))), (37, .v (.pointer (some ⟨bv0, 0, none⟩))), (36, .v (.pointer (some ⟨bv0, 0, none⟩))), (35, .v (.agg ⟨[.string (bs ([114, 101, 116, 114, 105, 101, 115] : List UInt8)), .pointer (some ⟨bv0, 8, none⟩), .int .i64 0, .int .i64 5]⟩)), (34, .v (.pointer (some ⟨bv0, 8, none⟩))), (33, .v (.pointer (some ⟨bv0, 0, none⟩))), (32, .v (.pointer (some ⟨bv0, 0, none⟩))), (31, .v (.agg ⟨[.string (bs ([100, 119, 101, 108, 108] : List UInt8)), .pointer (some ⟨bv0, 7, none⟩), .int .i64 1, .int .i64 50]⟩)), (30, .v (.pointer (some ⟨bv0, 7, none⟩))), (29, .v (.pointer (some ⟨bv0, 0, none⟩))), (28, .v (.pointer (some ⟨bv0, 0, none⟩))), (27, .v (.agg ⟨[.string (bs ([119, 105, 100, 116, 104] : List UInt8)), .pointer (some ⟨bv0, 6, none⟩), .int .i64 1, .int .i64 20]⟩)), (26, .v (.pointer (some ⟨bv0, 6, none⟩))), (25, .v (.pointer (some ⟨bv0, 0, none⟩))), (24, .v (.pointer (some ⟨bv0, 0, none⟩))), (23, .v (.agg ⟨[.string (bs ([116, 111, 108] : List UInt8)), .pointer (some ⟨bv0, 5, none⟩), .int .i64 0, .int .i64 20]⟩)), (22, .v (.pointer (some ⟨bv0, 5, none⟩))), (21, .v (.pointer (some ⟨bv0, 0, none⟩))), (20, .v (.pointer (some ⟨bv0, 0, none⟩))), (19, .v (.agg ⟨[.string (bs ([98, 114, 97, 107, 101] : List UInt8)), .pointer (some ⟨bv0, 4, none⟩), .int .i64 0, .int .i64 5]⟩)), (18, .v (.pointer (some ⟨bv0, 4, none⟩))), (17, .v (.pointer (some ⟨bv0, 0, none⟩))), (16, .v (.pointer (some ⟨bv0, 0, none⟩))), (15, .v (.agg ⟨[.string (bs ([115, 112, 101, 101, 100] : List UInt8)), .pointer (some ⟨bv0, 3, none⟩), .int .i64 1, .int .i64 20]⟩)), (14, .v (.pointer (some ⟨bv0, 3, none⟩))), (13, .v (.pointer (some ⟨bv0, 0, none⟩))), (12, .v (.pointer (some ⟨bv0, 0, none⟩))), (11, .v (.agg ⟨[.string (bs ([99, 97, 114, 115] : List UInt8)), .pointer (some ⟨bv0, 2, none⟩), .int .i64 1, .int .i64 8]⟩)), (10, .v (.pointer (some ⟨bv0, 2, none⟩))), (9, .v (.pointer (some ⟨bv0, 0, none⟩))), (8, .v (.pointer (some ⟨bv0, 0, none⟩))), (7, .v (.agg ⟨[.string (bs ([102, 108, 111, 111, 114, 115] : List UInt8)), .pointer (some ⟨bv0, 0, none⟩), .int .i64 2, .int .i64 64]⟩)), (6, .v (.pointer (some ⟨bv0, 0, none⟩))), (5, .v (.pointer (some ⟨bv0, 0, none⟩))), (4, .v (.pointer (some ⟨bv0, 0, none⟩))), (2, .v (.slice none 0 0)), (0, .v (.pointer (some ⟨bv0, 0, none⟩)))] [[.string (bs ([] : List UInt8)), .pointer none, .int .i64 0, .int .i64 0, .string (bs ([] : List UInt8)), .pointer none, .int .i64 0, .int .i64 0, .string (bs ([] : List UInt8)), .pointer none, .int .i64 0, .int .i64 0, .string (bs ([] : List UInt8)), .pointer none, .int .i64 0, .int .i64 0, .string (bs ([] : List UInt8)), .pointer none, .int .i64 0, .int .i64 0, .string (bs ([] : List UInt8)), .pointer none, .int .i64 0, .int .i64 0, .string (bs ([] : List UInt8)), .pointer none, .int .i64 0, .int .i64 0, .string (bs ([] : List UInt8)), .pointer none, .int .i64 0, .int .i64 0, .string (bs ([] : List UInt8)), .pointer none, .int .i64 0, .int .i64 0, .string (bs ([] : List UInt8)), .pointer none, .int .i64 0, .int .i64 0, .string (bs ([] : List UInt8)), .pointer none, .int .i64 0, .int .i64 0, .string (bs ([] : List UInt8)), .pointer none, .int .i64 0, .int .i64 0, .string (bs ([] : List UInt8)), .pointer none, .int .i64 0, .int .i64 0]] (by kernel_rfl) ?_
 refine WJ.liftS (loc := []) rfl rfl (fun bv1 => ?_)
 refine WJ.ph2 ?_
 refine WD.sb (cs' := [.string (bs ([102, 108, 111, 111, 114, 115] : List UInt8)), .pointer (some ⟨bv0, 0, none⟩), .int .i64 2, .int .i64 64, .string (bs ([99, 97, 114, 115] : List UInt8)), .pointer (some ⟨bv0, 2, none⟩), .int .i64 1, .int .i64 8, .string (bs ([115, 112, 101, 101, 100] : List UInt8)), .pointer (some ⟨bv0, 3, none⟩), .int .i64 1, .int .i64 20, .string (bs ([98, 114, 97, 107, 101] : List UInt8)), .pointer (some ⟨bv0, 4, none⟩), .int .i64 0, .int .i64 5, .string (bs ([116, 111, 108] : List UInt8)), .pointer (some ⟨bv0, 5, none⟩), .int .i64 0, .int .i64 20, .string (bs ([119, 105, 100, 116, 104] : List UInt8)), .pointer (some ⟨bv0, 6, none⟩), .int .i64 1, .int .i64 20, .string (bs ([100, 119, 101, 108, 108] : List UInt8)), .pointer (some ⟨bv0, 7, none⟩), .int .i64 1, .int .i64 50, .string (bs ([114, 101, 116, 114, 105, 101, 115] : List UInt8)), .pointer (some ⟨bv0, 8, none⟩), .int .i64 0, .int .i64 5, .string (bs ([101, 109, 112, 116, 121] : List UInt8)), .pointer (some ⟨bv0, 9, none⟩), .int .i64 0, .int .i64 10000, .string (bs ([102, 117, 108, 108] : List UInt8)), .pointer (some ⟨bv0, 10, none⟩), .int .i64 (IntKind.i64.wrap (zq + 1)), .int .i64 10000, .string (bs ([116, 114, 105, 112, 115] : List UInt8)), .pointer (some ⟨bv0, 11, none⟩), .int .i64 1, .int .i64 16, .string (bs ([115, 108, 111, 116, 115] : List UInt8)), .pointer (some ⟨bv0, 12, none⟩), .int .i64 1, .int .i64 24, .string (bs ([108, 105, 102, 101] : List UInt8)), .pointer (some ⟨bv0, 24, none⟩), .int .i64 1, .int .i64 100000]) (j := 1) rfl rfl rfl rfl rfl rfl rfl rfl (by kernel_rfl) rfl ?_
 refine WD.done rfl ?_
 refine WJ.hd (v := .slice (some ⟨bv1, 0, none⟩) 13 13) 202 rfl rfl rfl rfl (fun ids H' fr => opD_slice (lo' := none) (hi' := none) (mx' := none) rfl (evV_eq _ _ _ _ _ rfl) rfl rfl rfl (by kernel_rfl)) rfl ?_
 refine WJ.inlR 202 rfl rfl rfl rfl ?_
 refine WJ.un 204 rfl ?_
 refine WJ.re (I := [(1, .v (.pointer (some ⟨bv0, 0, none⟩))), (5, .v (.slice (some ⟨bv1, 0, none⟩) 13 13)), (6, .v (.int .i64 13)), (7, .v (.int .i64 0))]) (O := [⟨some ⟨bv0, 0, none⟩, 25, 1, [.int .i64 zn, .slice zr zt.length zs, .int .i64 zy, .int .i64 zz, .int .i64 z0, .int .i64 z1, .int .i64 zv, .int .i64 zw, .int .i64 zx, .int .i64 zq, .int .i64 z2, .int .i64 z3, .int .i64 zu, .slice zd za.length ze, .int .u64 zb, .int .i64 zc, .int .i64 zg, .int .u64 zf, .int .i64 zk, .int .i64 zm, .int .u64 zl, .int .i64 zo, .int .i64 zp, .slice zi zh.length zj, .int .i64 z4]⟩, ⟨some ⟨bv1, 0, none⟩, 52, 1, [.string (bs ([102, 108, 111, 111, 114, 115] : List UInt8)), .pointer (some ⟨bv0, 0, none⟩), .int .i64 2, .int .i64 64, .string (bs ([99, 97, 114, 115] : List UInt8)), .pointer (some ⟨bv0, 2, none⟩), .int .i64 1, .int .i64 8, .string (bs ([115, 112, 101, 101, 100] : List UInt8)), .pointer (some ⟨bv0, 3, none⟩), .int .i64 1, .int .i64 20, .string (bs ([98, 114, 97, 107, 101] : List UInt8)), .pointer (some ⟨bv0, 4, none⟩), .int .i64 0, .int .i64 5, .string (bs ([116, 111, 108] : List UInt8)), .pointer (some ⟨bv0, 5, none⟩), .int .i64 0, .int .i64 20, .string (bs ([119, 105, 100, 116, 104] : List UInt8)), .pointer (some ⟨bv0, 6, none⟩), .int .i64 1, .int .i64 20, .string (bs ([100, 119, 101, 108, 108] : List UInt8)), .pointer (some ⟨bv0, 7, none⟩), .int .i64 1, .int .i64 50, .string (bs ([114, 101, 116, 114, 105, 101, 115] : List UInt8)), .pointer (some ⟨bv0, 8, none⟩), .int .i64 0, .int .i64 5, .string (bs ([101, 109, 112, 116, 121] : List UInt8)), .pointer (some ⟨bv0, 9, none⟩), .int .i64 0, .int .i64 10000, .string (bs ([102, 117, 108, 108] : List UInt8)), .pointer (some ⟨bv0, 10, none⟩), .int .i64 (IntKind.i64.wrap (zq + 1)), .int .i64 10000, .string (bs ([116, 114, 105, 112, 115] : List UInt8)), .pointer (some ⟨bv0, 11, none⟩), .int .i64 1, .int .i64 16, .string (bs ([115, 108, 111, 116, 115] : List UInt8)), .pointer (some ⟨bv0, 12, none⟩), .int .i64 1, .int .i64 24, .string (bs ([108, 105, 102, 101] : List UInt8)), .pointer (some ⟨bv0, 24, none⟩), .int .i64 1, .int .i64 100000]⟩]) ?_ (by exact ⟨rfl, rfl, rfl, rfl, trivial⟩) rfl
 refine WJ.cv 202 (b := true) (H0 := ⟨.nil, 0, 0⟩) rfl rfl rfl rfl rfl rfl rfl rfl ?_
 refine WJ.hd (v := .pointer (some ⟨bv1, 0, none⟩)) 208 rfl rfl rfl rfl (fun ids H' fr => opD_indexAddr rfl (evV_eq _ _ _ _ _ rfl) (evV_eq _ _ _ _ _ rfl) (idxLit (i := 0) u55 sz60 rfl rfl)) rfl ?_
 refine WJ.hd (v := .agg ⟨[.string (bs ([102, 108, 111, 111, 114, 115] : List UInt8)), .pointer (some ⟨bv0, 0, none⟩), .int .i64 2, .int .i64 64]⟩) 200 rfl rfl rfl rfl (fun ids H' fr => opD_load rfl (evV_eq _ _ _ _ _ rfl) (fr.ldOwn (j := 1) rfl rfl)) rfl ?_
 refine WJ.adv 1 rfl ?_
 refine WJ.liftS (loc := []) rfl rfl (fun bv2 => ?_)
 refine WJ.sb 200 (j := 2) rfl rfl rfl rfl rfl rfl rfl rfl rfl rfl ?_
 refine WJ.dr 202 rfl gmix (by kernel_rfl) (by kernel_rfl) rfl ?_
 refine WD.hd (v := .pointer (some ⟨bv0, 0, none⟩)) rfl rfl rfl rfl (fun _ _ _ _ _ => side_no) (fun ids H' fr => opD_load rfl (evV_eq _ _ _ _ _ rfl) (fr.ldOwn (j := 2) rfl rfl)) rfl ?_
 refine WD.hd (v := .int .i64 zn) rfl rfl rfl rfl (fun _ _ _ _ _ => side_no) (fun ids H' fr => opD_load rfl (evV_eq _ _ _ _ _ rfl) (fr.ldOwn (j := 0) rfl rfl)) rfl ?_
 refine WD.hd (v := .int .i64 2) rfl rfl rfl rfl (fun _ _ _ _ _ => side_no) (fun ids H' fr => opD_load rfl (evV_eq _ _ _ _ _ rfl) (fr.ldOwn (j := 2) rfl rfl)) rfl ?_
 refine WD.hd (v := .int .i64 64) rfl rfl rfl rfl (fun _ _ _ _ _ => side_no) (fun ids H' fr => opD_load rfl (evV_eq _ _ _ _ _ rfl) (fr.ldOwn (j := 2) rfl rfl)) rfl ?_
 obtain ⟨t19u1, e19u1, hp⟩ := bindS hp
 refine WD.cl (R := R_4 t19u1) (fun hm h k => R_4.mono hm h k) rfl (fun ids H' fr => f31_ok e19u1) ?_
 rintro v B2 ⟨abB2, ivB2⟩ rfl
 refine ⟨_, rfl, ?_⟩
 replace z6 := z6.mono (Nat.le_refl _) (abB2.le (Nat.zero_le _))
 replace z7 := z7.mono (Nat.le_refl _) (abB2.le (Nat.zero_le _))
 replace z5 := z5.mono (Nat.le_refl _) (abB2.le (Nat.zero_le _))
 cases t19u1
 ·replace hp := (itS hp).2 Bool.false_ne_true
  refine WD.done rfl ?_
  obtain rfl := endS (show some _ = some r from hp)
  exact WJ.rt 205 rfl rfl rfl (fun ids H' fr => ⟨fr.ext0, rfl⟩)
 ·replace hp := (itS hp).1 rfl
  refine WD.done rfl ?_
  refine WJ.ro 207 rfl ?_
  refine WJ.re (I := [(1, .v (.pointer (some ⟨bv0, 0, none⟩))), (5, .v (.slice (some ⟨bv1, 0, none⟩) 13 13)), (6, .v (.int .i64 13)), (7, .v (.int .i64 1))]) (O := [⟨some ⟨bv0, 0, none⟩, 25, 1, [.int .i64 zn, .slice zr zt.length zs, .int .i64 zy, .int .i64 zz, .int .i64 z0, .int .i64 z1, .int .i64 zv, .int .i64 zw, .int .i64 zx, .int .i64 zq, .int .i64 z2, .int .i64 z3, .int .i64 zu, .slice zd za.length ze, .int .u64 zb, .int .i64 zc, .int .i64 zg, .int .u64 zf, .int .i64 zk, .int .i64 zm, .int .u64 zl, .int .i64 zo, .int .i64 zp, .slice zi zh.length zj, .int .i64 z4]⟩, ⟨some ⟨bv1, 0, none⟩, 52, 1, [.string (bs ([102, 108, 111, 111, 114, 115] : List UInt8)), .pointer (some ⟨bv0, 0, none⟩), .int .i64 2, .int .i64 64, .string (bs ([99, 97, 114, 115] : List UInt8)), .pointer (some ⟨bv0, 2, none⟩), .int .i64 1, .int .i64 8, .string (bs ([115, 112, 101, 101, 100] : List UInt8)), .pointer (some ⟨bv0, 3, none⟩), .int .i64 1, .int .i64 20, .string (bs ([98, 114, 97, 107, 101] : List UInt8)), .pointer (some ⟨bv0, 4, none⟩), .int .i64 0, .int .i64 5, .string (bs ([116, 111, 108] : List UInt8)), .pointer (some ⟨bv0, 5, none⟩), .int .i64 0, .int .i64 20, .string (bs ([119, 105, 100, 116, 104] : List UInt8)), .pointer (some ⟨bv0, 6, none⟩), .int .i64 1, .int .i64 20, .string (bs ([100, 119, 101, 108, 108] : List UInt8)), .pointer (some ⟨bv0, 7, none⟩), .int .i64 1, .int .i64 50, .string (bs ([114, 101, 116, 114, 105, 101, 115] : List UInt8)), .pointer (some ⟨bv0, 8, none⟩), .int .i64 0, .int .i64 5, .string (bs ([101, 109, 112, 116, 121] : List UInt8)), .pointer (some ⟨bv0, 9, none⟩), .int .i64 0, .int .i64 10000, .string (bs ([102, 117, 108, 108] : List UInt8)), .pointer (some ⟨bv0, 10, none⟩), .int .i64 (IntKind.i64.wrap (zq + 1)), .int .i64 10000, .string (bs ([116, 114, 105, 112, 115] : List UInt8)), .pointer (some ⟨bv0, 11, none⟩), .int .i64 1, .int .i64 16, .string (bs ([115, 108, 111, 116, 115] : List UInt8)), .pointer (some ⟨bv0, 12, none⟩), .int .i64 1, .int .i64 24, .string (bs ([108, 105, 102, 101] : List UInt8)), .pointer (some ⟨bv0, 24, none⟩), .int .i64 1, .int .i64 100000]⟩, ⟨some ⟨bv2, 0, none⟩, 4, 1, [.string (bs ([102, 108, 111, 111, 114, 115] : List UInt8)), .pointer (some ⟨bv0, 0, none⟩), .int .i64 2, .int .i64 64]⟩]) ?_ (by exact ⟨rfl, rfl, rfl, rfl, trivial⟩) rfl
  refine WJ.cv 202 (b := true) (H0 := ⟨.nil, 0, 0⟩) rfl rfl rfl rfl rfl rfl rfl rfl ?_
  refine WJ.hd (v := .pointer (some ⟨bv1, 4, none⟩)) 208 rfl rfl rfl rfl (fun ids H' fr => opD_indexAddr rfl (evV_eq _ _ _ _ _ rfl) (evV_eq _ _ _ _ _ rfl) (idxLit (i := 1) u55 sz60 rfl rfl)) rfl ?_
  refine WJ.hd (v := .agg ⟨[.string (bs ([99, 97, 114, 115] : List UInt8)), .pointer (some ⟨bv0, 2, none⟩), .int .i64 1, .int .i64 8]⟩) 200 rfl rfl rfl rfl (fun ids H' fr => opD_load rfl (evV_eq _ _ _ _ _ rfl) (fr.ldOwn (j := 1) rfl rfl)) rfl ?_
  refine WJ.adv 1 rfl ?_
  refine WJ.liftS (loc := []) rfl rfl (fun bv3 => ?_)
  refine WJ.sb 200 (j := 3) rfl rfl rfl rfl rfl rfl rfl rfl rfl rfl ?_
  refine WJ.dr 202 rfl gmix (by kernel_rfl) (by kernel_rfl) rfl ?_
  refine WD.hd (v := .pointer (some ⟨bv0, 2, none⟩)) rfl rfl rfl rfl (fun _ _ _ _ _ => side_no) (fun ids H' fr => opD_load rfl (evV_eq _ _ _ _ _ rfl) (fr.ldOwn (j := 3) rfl rfl)) rfl ?_
  refine WD.hd (v := .int .i64 zy) rfl rfl rfl rfl (fun _ _ _ _ _ => side_no) (fun ids H' fr => opD_load rfl (evV_eq _ _ _ _ _ rfl) (fr.ldOwn (j := 0) rfl rfl)) rfl ?_
  refine WD.hd (v := .int .i64 1) rfl rfl rfl rfl (fun _ _ _ _ _ => side_no) (fun ids H' fr => opD_load rfl (evV_eq _ _ _ _ _ rfl) (fr.ldOwn (j := 3) rfl rfl)) rfl ?_
  refine WD.hd (v := .int .i64 8) rfl rfl rfl rfl (fun _ _ _ _ _ => side_no) (fun ids H' fr => opD_load rfl (evV_eq _ _ _ _ _ rfl) (fr.ldOwn (j := 3) rfl rfl)) rfl ?_
  obtain ⟨t19u2, e19u2, hp⟩ := bindS hp
  refine WD.cl (R := R_4 t19u2) (fun hm h k => R_4.mono hm h k) rfl (fun ids H' fr => f31_ok e19u2) ?_
  rintro v B3 ⟨abB3, ivB3⟩ rfl
  refine ⟨_, rfl, ?_⟩
  replace z6 := z6.mono (Nat.le_refl _) (abB3.le (Nat.zero_le _))
  replace z7 := z7.mono (Nat.le_refl _) (abB3.le (Nat.zero_le _))
  replace z5 := z5.mono (Nat.le_refl _) (abB3.le (Nat.zero_le _))
  cases t19u2
  ·replace hp := (itS hp).2 Bool.false_ne_true
   refine WD.done rfl ?_
   obtain rfl := endS (show some _ = some r from hp)
   exact WJ.rt 205 rfl rfl rfl (fun ids H' fr => ⟨fr.ext0, rfl⟩)
  ·replace hp := (itS hp).1 rfl
   refine WD.done rfl ?_
   refine WJ.ro 207 rfl ?_
   refine WJ.re (I := [(1, .v (.pointer (some ⟨bv0, 0, none⟩))), (5, .v (.slice (some ⟨bv1, 0, none⟩) 13 13)), (6, .v (.int .i64 13)), (7, .v (.int .i64 2))]) (O := [⟨some ⟨bv0, 0, none⟩, 25, 1, [.int .i64 zn, .slice zr zt.length zs, .int .i64 zy, .int .i64 zz, .int .i64 z0, .int .i64 z1, .int .i64 zv, .int .i64 zw, .int .i64 zx, .int .i64 zq, .int .i64 z2, .int .i64 z3, .int .i64 zu, .slice zd za.length ze, .int .u64 zb, .int .i64 zc, .int .i64 zg, .int .u64 zf, .int .i64 zk, .int .i64 zm, .int .u64 zl, .int .i64 zo, .int .i64 zp, .slice zi zh.length zj, .int .i64 z4]⟩, ⟨some ⟨bv1, 0, none⟩, 52, 1, [.string (bs ([102, 108, 111, 111, 114, 115] : List UInt8)), .pointer (some ⟨bv0, 0, none⟩), .int .i64 2, .int .i64 64, .string (bs ([99, 97, 114, 115] : List UInt8)), .pointer (some ⟨bv0, 2, none⟩), .int .i64 1, .int .i64 8, .string (bs ([115, 112, 101, 101, 100] : List UInt8)), .pointer (some ⟨bv0, 3, none⟩), .int .i64 1, .int .i64 20, .string (bs ([98, 114, 97, 107, 101] : List UInt8)), .pointer (some ⟨bv0, 4, none⟩), .int .i64 0, .int .i64 5, .string (bs ([116, 111, 108] : List UInt8)), .pointer (some ⟨bv0, 5, none⟩), .int .i64 0, .int .i64 20, .string (bs ([119, 105, 100, 116, 104] : List UInt8)), .pointer (some ⟨bv0, 6, none⟩), .int .i64 1, .int .i64 20, .string (bs ([100, 119, 101, 108, 108] : List UInt8)), .pointer (some ⟨bv0, 7, none⟩), .int .i64 1, .int .i64 50, .string (bs ([114, 101, 116, 114, 105, 101, 115] : List UInt8)), .pointer (some ⟨bv0, 8, none⟩), .int .i64 0, .int .i64 5, .string (bs ([101, 109, 112, 116, 121] : List UInt8)), .pointer (some ⟨bv0, 9, none⟩), .int .i64 0, .int .i64 10000, .string (bs ([102, 117, 108, 108] : List UInt8)), .pointer (some ⟨bv0, 10, none⟩), .int .i64 (IntKind.i64.wrap (zq + 1)), .int .i64 10000, .string (bs ([116, 114, 105, 112, 115] : List UInt8)), .pointer (some ⟨bv0, 11, none⟩), .int .i64 1, .int .i64 16, .string (bs ([115, 108, 111, 116, 115] : List UInt8)), .pointer (some ⟨bv0, 12, none⟩), .int .i64 1, .int .i64 24, .string (bs ([108, 105, 102, 101] : List UInt8)), .pointer (some ⟨bv0, 24, none⟩), .int .i64 1, .int .i64 100000]⟩, ⟨some ⟨bv2, 0, none⟩, 4, 1, [.string (bs ([102, 108, 111, 111, 114, 115] : List UInt8)), .pointer (some ⟨bv0, 0, none⟩), .int .i64 2, .int .i64 64]⟩, ⟨some ⟨bv3, 0, none⟩, 4, 1, [.string (bs ([99, 97, 114, 115] : List UInt8)), .pointer (some ⟨bv0, 2, none⟩), .int .i64 1, .int .i64 8]⟩]) ?_ (by exact ⟨rfl, rfl, rfl, rfl, trivial⟩) rfl
   refine WJ.cv 202 (b := true) (H0 := ⟨.nil, 0, 0⟩) rfl rfl rfl rfl rfl rfl rfl rfl ?_
   refine WJ.hd (v := .pointer (some ⟨bv1, 8, none⟩)) 208 rfl rfl rfl rfl (fun ids H' fr => opD_indexAddr rfl (evV_eq _ _ _ _ _ rfl) (evV_eq _ _ _ _ _ rfl) (idxLit (i := 2) u55 sz60 rfl rfl)) rfl ?_
   refine WJ.hd (v := .agg ⟨[.string (bs ([115, 112, 101, 101, 100] : List UInt8)), .pointer (some ⟨bv0, 3, none⟩), .int .i64 1, .int .i64 20]⟩) 200 rfl rfl rfl rfl (fun ids H' fr => opD_load rfl (evV_eq _ _ _ _ _ rfl) (fr.ldOwn (j := 1) rfl rfl)) rfl ?_
   refine WJ.adv 1 rfl ?_
   refine WJ.liftS (loc := []) rfl rfl (fun bv4 => ?_)
   refine WJ.sb 200 (j := 4) rfl rfl rfl rfl rfl rfl rfl rfl rfl rfl ?_
   refine WJ.dr 202 rfl gmix (by kernel_rfl) (by kernel_rfl) rfl ?_
   refine WD.hd (v := .pointer (some ⟨bv0, 3, none⟩)) rfl rfl rfl rfl (fun _ _ _ _ _ => side_no) (fun ids H' fr => opD_load rfl (evV_eq _ _ _ _ _ rfl) (fr.ldOwn (j := 4) rfl rfl)) rfl ?_
   refine WD.hd (v := .int .i64 zz) rfl rfl rfl rfl (fun _ _ _ _ _ => side_no) (fun ids H' fr => opD_load rfl (evV_eq _ _ _ _ _ rfl) (fr.ldOwn (j := 0) rfl rfl)) rfl ?_
   refine WD.hd (v := .int .i64 1) rfl rfl rfl rfl (fun _ _ _ _ _ => side_no) (fun ids H' fr => opD_load rfl (evV_eq _ _ _ _ _ rfl) (fr.ldOwn (j := 4) rfl rfl)) rfl ?_
   refine WD.hd (v := .int .i64 20) rfl rfl rfl rfl (fun _ _ _ _ _ => side_no) (fun ids H' fr => opD_load rfl (evV_eq _ _ _ _ _ rfl) (fr.ldOwn (j := 4) rfl rfl)) rfl ?_
   obtain ⟨t19u3, e19u3, hp⟩ := bindS hp
   refine WD.cl (R := R_4 t19u3) (fun hm h k => R_4.mono hm h k) rfl (fun ids H' fr => f31_ok e19u3) ?_
   rintro v B4 ⟨abB4, ivB4⟩ rfl
   refine ⟨_, rfl, ?_⟩
   replace z6 := z6.mono (Nat.le_refl _) (abB4.le (Nat.zero_le _))
   replace z7 := z7.mono (Nat.le_refl _) (abB4.le (Nat.zero_le _))
   replace z5 := z5.mono (Nat.le_refl _) (abB4.le (Nat.zero_le _))
   cases t19u3
   ·replace hp := (itS hp).2 Bool.false_ne_true
    refine WD.done rfl ?_
    obtain rfl := endS (show some _ = some r from hp)
    exact WJ.rt 205 rfl rfl rfl (fun ids H' fr => ⟨fr.ext0, rfl⟩)
   ·replace hp := (itS hp).1 rfl
    refine WD.done rfl ?_
    refine WJ.ro 207 rfl ?_
    refine WJ.re (I := [(1, .v (.pointer (some ⟨bv0, 0, none⟩))), (5, .v (.slice (some ⟨bv1, 0, none⟩) 13 13)), (6, .v (.int .i64 13)), (7, .v (.int .i64 3))]) (O := [⟨some ⟨bv0, 0, none⟩, 25, 1, [.int .i64 zn, .slice zr zt.length zs, .int .i64 zy, .int .i64 zz, .int .i64 z0, .int .i64 z1, .int .i64 zv, .int .i64 zw, .int .i64 zx, .int .i64 zq, .int .i64 z2, .int .i64 z3, .int .i64 zu, .slice zd za.length ze, .int .u64 zb, .int .i64 zc, .int .i64 zg, .int .u64 zf, .int .i64 zk, .int .i64 zm, .int .u64 zl, .int .i64 zo, .int .i64 zp, .slice zi zh.length zj, .int .i64 z4]⟩, ⟨some ⟨bv1, 0, none⟩, 52, 1, [.string (bs ([102, 108, 111, 111, 114, 115] : List UInt8)), .pointer (some ⟨bv0, 0, none⟩), .int .i64 2, .int .i64 64, .string (bs ([99, 97, 114, 115] : List UInt8)), .pointer (some ⟨bv0, 2, none⟩), .int .i64 1, .int .i64 8, .string (bs ([115, 112, 101, 101, 100] : List UInt8)), .pointer (some ⟨bv0, 3, none⟩), .int .i64 1, .int .i64 20, .string (bs ([98, 114, 97, 107, 101] : List UInt8)), .pointer (some ⟨bv0, 4, none⟩), .int .i64 0, .int .i64 5, .string (bs ([116, 111, 108] : List UInt8)), .pointer (some ⟨bv0, 5, none⟩), .int .i64 0, .int .i64 20, .string (bs ([119, 105, 100, 116, 104] : List UInt8)), .pointer (some ⟨bv0, 6, none⟩), .int .i64 1, .int .i64 20, .string (bs ([100, 119, 101, 108, 108] : List UInt8)), .pointer (some ⟨bv0, 7, none⟩), .int .i64 1, .int .i64 50, .string (bs ([114, 101, 116, 114, 105, 101, 115] : List UInt8)), .pointer (some ⟨bv0, 8, none⟩), .int .i64 0, .int .i64 5, .string (bs ([101, 109, 112, 116, 121] : List UInt8)), .pointer (some ⟨bv0, 9, none⟩), .int .i64 0, .int .i64 10000, .string (bs ([102, 117, 108, 108] : List UInt8)), .pointer (some ⟨bv0, 10, none⟩), .int .i64 (IntKind.i64.wrap (zq + 1)), .int .i64 10000, .string (bs ([116, 114, 105, 112, 115] : List UInt8)), .pointer (some ⟨bv0, 11, none⟩), .int .i64 1, .int .i64 16, .string (bs ([115, 108, 111, 116, 115] : List UInt8)), .pointer (some ⟨bv0, 12, none⟩), .int .i64 1, .int .i64 24, .string (bs ([108, 105, 102, 101] : List UInt8)), .pointer (some ⟨bv0, 24, none⟩), .int .i64 1, .int .i64 100000]⟩, ⟨some ⟨bv2, 0, none⟩, 4, 1, [.string (bs ([102, 108, 111, 111, 114, 115] : List UInt8)), .pointer (some ⟨bv0, 0, none⟩), .int .i64 2, .int .i64 64]⟩, ⟨some ⟨bv3, 0, none⟩, 4, 1, [.string (bs ([99, 97, 114, 115] : List UInt8)), .pointer (some ⟨bv0, 2, none⟩), .int .i64 1, .int .i64 8]⟩, ⟨some ⟨bv4, 0, none⟩, 4, 1, [.string (bs ([115, 112, 101, 101, 100] : List UInt8)), .pointer (some ⟨bv0, 3, none⟩), .int .i64 1, .int .i64 20]⟩]) ?_ (by exact ⟨rfl, rfl, rfl, rfl, trivial⟩) rfl
    refine WJ.cv 202 (b := true) (H0 := ⟨.nil, 0, 0⟩) rfl rfl rfl rfl rfl rfl rfl rfl ?_
    refine WJ.hd (v := .pointer (some ⟨bv1, 12, none⟩)) 208 rfl rfl rfl rfl (fun ids H' fr => opD_indexAddr rfl (evV_eq _ _ _ _ _ rfl) (evV_eq _ _ _ _ _ rfl) (idxLit (i := 3) u55 sz60 rfl rfl)) rfl ?_
    refine WJ.hd (v := .agg ⟨[.string (bs ([98, 114, 97, 107, 101] : List UInt8)), .pointer (some ⟨bv0, 4, none⟩), .int .i64 0, .int .i64 5]⟩) 200 rfl rfl rfl rfl (fun ids H' fr => opD_load rfl (evV_eq _ _ _ _ _ rfl) (fr.ldOwn (j := 1) rfl rfl)) rfl ?_
    refine WJ.adv 1 rfl ?_
    refine WJ.liftS (loc := []) rfl rfl (fun bv5 => ?_)
    refine WJ.sb 200 (j := 5) rfl rfl rfl rfl rfl rfl rfl rfl rfl rfl ?_
    refine WJ.dr 202 rfl gmix (by kernel_rfl) (by kernel_rfl) rfl ?_
    refine WD.hd (v := .pointer (some ⟨bv0, 4, none⟩)) rfl rfl rfl rfl (fun _ _ _ _ _ => side_no) (fun ids H' fr => opD_load rfl (evV_eq _ _ _ _ _ rfl) (fr.ldOwn (j := 5) rfl rfl)) rfl ?_
    refine WD.hd (v := .int .i64 z0) rfl rfl rfl rfl (fun _ _ _ _ _ => side_no) (fun ids H' fr => opD_load rfl (evV_eq _ _ _ _ _ rfl) (fr.ldOwn (j := 0) rfl rfl)) rfl ?_
    refine WD.hd (v := .int .i64 0) rfl rfl rfl rfl (fun _ _ _ _ _ => side_no) (fun ids H' fr => opD_load rfl (evV_eq _ _ _ _ _ rfl) (fr.ldOwn (j := 5) rfl rfl)) rfl ?_
    refine WD.hd (v := .int .i64 5) rfl rfl rfl rfl (fun _ _ _ _ _ => side_no) (fun ids H' fr => opD_load rfl (evV_eq _ _ _ _ _ rfl) (fr.ldOwn (j := 5) rfl rfl)) rfl ?_
    obtain ⟨t19u4, e19u4, hp⟩ := bindS hp
    refine WD.cl (R := R_4 t19u4) (fun hm h k => R_4.mono hm h k) rfl (fun ids H' fr => f31_ok e19u4) ?_
    rintro v B5 ⟨abB5, ivB5⟩ rfl
    refine ⟨_, rfl, ?_⟩
    replace z6 := z6.mono (Nat.le_refl _) (abB5.le (Nat.zero_le _))
    replace z7 := z7.mono (Nat.le_refl _) (abB5.le (Nat.zero_le _))
    replace z5 := z5.mono (Nat.le_refl _) (abB5.le (Nat.zero_le _))
    cases t19u4
    ·replace hp := (itS hp).2 Bool.false_ne_true
     refine WD.done rfl ?_
     obtain rfl := endS (show some _ = some r from hp)
     exact WJ.rt 205 rfl rfl rfl (fun ids H' fr => ⟨fr.ext0, rfl⟩)
    ·replace hp := (itS hp).1 rfl
     refine WD.done rfl ?_
     refine WJ.ro 207 rfl ?_
     refine WJ.re (I := [(1, .v (.pointer (some ⟨bv0, 0, none⟩))), (5, .v (.slice (some ⟨bv1, 0, none⟩) 13 13)), (6, .v (.int .i64 13)), (7, .v (.int .i64 4))]) (O := [⟨some ⟨bv0, 0, none⟩, 25, 1, [.int .i64 zn, .slice zr zt.length zs, .int .i64 zy, .int .i64 zz, .int .i64 z0, .int .i64 z1, .int .i64 zv, .int .i64 zw, .int .i64 zx, .int .i64 zq, .int .i64 z2, .int .i64 z3, .int .i64 zu, .slice zd za.length ze, .int .u64 zb, .int .i64 zc, .int .i64 zg, .int .u64 zf, .int .i64 zk, .int .i64 zm, .int .u64 zl, .int .i64 zo, .int .i64 zp, .slice zi zh.length zj, .int .i64 z4]⟩, ⟨some ⟨bv1, 0, none⟩, 52, 1, [.string (bs ([102, 108, 111, 111, 114, 115] : List UInt8)), .pointer (some ⟨bv0, 0, none⟩), .int .i64 2, .int .i64 64, .string (bs ([99, 97, 114, 115] : List UInt8)), .pointer (some ⟨bv0, 2, none⟩), .int .i64 1, .int .i64 8, .string (bs ([115, 112, 101, 101, 100] : List UInt8)), .pointer (some ⟨bv0, 3, none⟩), .int .i64 1, .int .i64 20, .string (bs ([98, 114, 97, 107, 101] : List UInt8)), .pointer (some ⟨bv0, 4, none⟩), .int .i64 0, .int .i64 5, .string (bs ([116, 111, 108] : List UInt8)), .pointer (some ⟨bv0, 5, none⟩), .int .i64 0, .int .i64 20, .string (bs ([119, 105, 100, 116, 104] : List UInt8)), .pointer (some ⟨bv0, 6, none⟩), .int .i64 1, .int .i64 20, .string (bs ([100, 119, 101, 108, 108] : List UInt8)), .pointer (some ⟨bv0, 7, none⟩), .int .i64 1, .int .i64 50, .string (bs ([114, 101, 116, 114, 105, 101, 115] : List UInt8)), .pointer (some ⟨bv0, 8, none⟩), .int .i64 0, .int .i64 5, .string (bs ([101, 109, 112, 116, 121] : List UInt8)), .pointer (some ⟨bv0, 9, none⟩), .int .i64 0, .int .i64 10000, .string (bs ([102, 117, 108, 108] : List UInt8)), .pointer (some ⟨bv0, 10, none⟩), .int .i64 (IntKind.i64.wrap (zq + 1)), .int .i64 10000, .string (bs ([116, 114, 105, 112, 115] : List UInt8)), .pointer (some ⟨bv0, 11, none⟩), .int .i64 1, .int .i64 16, .string (bs ([115, 108, 111, 116, 115] : List UInt8)), .pointer (some ⟨bv0, 12, none⟩), .int .i64 1, .int .i64 24, .string (bs ([108, 105, 102, 101] : List UInt8)), .pointer (some ⟨bv0, 24, none⟩), .int .i64 1, .int .i64 100000]⟩, ⟨some ⟨bv2, 0, none⟩, 4, 1, [.string (bs ([102, 108, 111, 111, 114, 115] : List UInt8)), .pointer (some ⟨bv0, 0, none⟩), .int .i64 2, .int .i64 64]⟩, ⟨some ⟨bv3, 0, none⟩, 4, 1, [.string (bs ([99, 97, 114, 115] : List UInt8)), .pointer (some ⟨bv0, 2, none⟩), .int .i64 1, .int .i64 8]⟩, ⟨some ⟨bv4, 0, none⟩, 4, 1, [.string (bs ([115, 112, 101, 101, 100] : List UInt8)), .pointer (some ⟨bv0, 3, none⟩), .int .i64 1, .int .i64 20]⟩, ⟨some ⟨bv5, 0, none⟩, 4, 1, [.string (bs ([98, 114, 97, 107, 101] : List UInt8)), .pointer (some ⟨bv0, 4, none⟩), .int .i64 0, .int .i64 5]⟩]) ?_ (by exact ⟨rfl, rfl, rfl, rfl, trivial⟩) rfl
     refine WJ.cv 202 (b := true) (H0 := ⟨.nil, 0, 0⟩) rfl rfl rfl rfl rfl rfl rfl rfl ?_
     refine WJ.hd (v := .pointer (some ⟨bv1, 16, none⟩)) 208 rfl rfl rfl rfl (fun ids H' fr => opD_indexAddr rfl (evV_eq _ _ _ _ _ rfl) (evV_eq _ _ _ _ _ rfl) (idxLit (i := 4) u55 sz60 rfl rfl)) rfl ?_
     refine WJ.hd (v := .agg ⟨[.string (bs ([116, 111, 108] : List UInt8)), .pointer (some ⟨bv0, 5, none⟩), .int .i64 0, .int .i64 20]⟩) 200 rfl rfl rfl rfl (fun ids H' fr => opD_load rfl (evV_eq _ _ _ _ _ rfl) (fr.ldOwn (j := 1) rfl rfl)) rfl ?_
     refine WJ.adv 1 rfl ?_
     refine WJ.liftS (loc := []) rfl rfl (fun bv6 => ?_)
     refine WJ.sb 200 (j := 6) rfl rfl rfl rfl rfl rfl rfl rfl rfl rfl ?_
     refine WJ.dr 202 rfl gmix (by kernel_rfl) (by kernel_rfl) rfl ?_
     refine WD.hd (v := .pointer (some ⟨bv0, 5, none⟩)) rfl rfl rfl rfl (fun _ _ _ _ _ => side_no) (fun ids H' fr => opD_load rfl (evV_eq _ _ _ _ _ rfl) (fr.ldOwn (j := 6) rfl rfl)) rfl ?_
     refine WD.hd (v := .int .i64 z1) rfl rfl rfl rfl (fun _ _ _ _ _ => side_no) (fun ids H' fr => opD_load rfl (evV_eq _ _ _ _ _ rfl) (fr.ldOwn (j := 0) rfl rfl)) rfl ?_
     refine WD.hd (v := .int .i64 0) rfl rfl rfl rfl (fun _ _ _ _ _ => side_no) (fun ids H' fr => opD_load rfl (evV_eq _ _ _ _ _ rfl) (fr.ldOwn (j := 6) rfl rfl)) rfl ?_
     refine WD.hd (v := .int .i64 20) rfl rfl rfl rfl (fun _ _ _ _ _ => side_no) (fun ids H' fr => opD_load rfl (evV_eq _ _ _ _ _ rfl) (fr.ldOwn (j := 6) rfl rfl)) rfl ?_
     obtain ⟨t19u5, e19u5, hp⟩ := bindS hp
     refine WD.cl (R := R_4 t19u5) (fun hm h k => R_4.mono hm h k) rfl (fun ids H' fr => f31_ok e19u5) ?_
     rintro v B6 ⟨abB6, ivB6⟩ rfl
     refine ⟨_, rfl, ?_⟩
     replace z6 := z6.mono (Nat.le_refl _) (abB6.le (Nat.zero_le _))
     replace z7 := z7.mono (Nat.le_refl _) (abB6.le (Nat.zero_le _))
     replace z5 := z5.mono (Nat.le_refl _) (abB6.le (Nat.zero_le _))
     cases t19u5
     ·replace hp := (itS hp).2 Bool.false_ne_true
      refine WD.done rfl ?_
      obtain rfl := endS (show some _ = some r from hp)
      exact WJ.rt 205 rfl rfl rfl (fun ids H' fr => ⟨fr.ext0, rfl⟩)
     ·replace hp := (itS hp).1 rfl
      refine WD.done rfl ?_
      refine WJ.ro 207 rfl ?_
      refine WJ.re (I := [(1, .v (.pointer (some ⟨bv0, 0, none⟩))), (5, .v (.slice (some ⟨bv1, 0, none⟩) 13 13)), (6, .v (.int .i64 13)), (7, .v (.int .i64 5))]) (O := [⟨some ⟨bv0, 0, none⟩, 25, 1, [.int .i64 zn, .slice zr zt.length zs, .int .i64 zy, .int .i64 zz, .int .i64 z0, .int .i64 z1, .int .i64 zv, .int .i64 zw, .int .i64 zx, .int .i64 zq, .int .i64 z2, .int .i64 z3, .int .i64 zu, .slice zd za.length ze, .int .u64 zb, .int .i64 zc, .int .i64 zg, .int .u64 zf, .int .i64 zk, .int .i64 zm, .int .u64 zl, .int .i64 zo, .int .i64 zp, .slice zi zh.length zj, .int .i64 z4]⟩, ⟨some ⟨bv1, 0, none⟩, 52, 1, [.string (bs ([102, 108, 111, 111, 114, 115] : List UInt8)), .pointer (some ⟨bv0, 0, none⟩), .int .i64 2, .int .i64 64, .string (bs ([99, 97, 114, 115] : List UInt8)), .pointer (some ⟨bv0, 2, none⟩), .int .i64 1, .int .i64 8, .string (bs ([115, 112, 101, 101, 100] : List UInt8)), .pointer (some ⟨bv0, 3, none⟩), .int .i64 1, .int .i64 20, .string (bs ([98, 114, 97, 107, 101] : List UInt8)), .pointer (some ⟨bv0, 4, none⟩), .int .i64 0, .int .i64 5, .string (bs ([116, 111, 108] : List UInt8)), .pointer (some ⟨bv0, 5, none⟩), .int .i64 0, .int .i64 20, .string (bs ([119, 105, 100, 116, 104] : List UInt8)), .pointer (some ⟨bv0, 6, none⟩), .int .i64 1, .int .i64 20, .string (bs ([100, 119, 101, 108, 108] : List UInt8)), .pointer (some ⟨bv0, 7, none⟩), .int .i64 1, .int .i64 50, .string (bs ([114, 101, 116, 114, 105, 101, 115] : List UInt8)), .pointer (some ⟨bv0, 8, none⟩), .int .i64 0, .int .i64 5, .string (bs ([101, 109, 112, 116, 121] : List UInt8)), .pointer (some ⟨bv0, 9, none⟩), .int .i64 0, .int .i64 10000, .string (bs ([102, 117, 108, 108] : List UInt8)), .pointer (some ⟨bv0, 10, none⟩), .int .i64 (IntKind.i64.wrap (zq + 1)), .int .i64 10000, .string (bs ([116, 114, 105, 112, 115] : List UInt8)), .pointer (some ⟨bv0, 11, none⟩), .int .i64 1, .int .i64 16, .string (bs ([115, 108, 111, 116, 115] : List UInt8)), .pointer (some ⟨bv0, 12, none⟩), .int .i64 1, .int .i64 24, .string (bs ([108, 105, 102, 101] : List UInt8)), .pointer (some ⟨bv0, 24, none⟩), .int .i64 1, .int .i64 100000]⟩, ⟨some ⟨bv2, 0, none⟩, 4, 1, [.string (bs ([102, 108, 111, 111, 114, 115] : List UInt8)), .pointer (some ⟨bv0, 0, none⟩), .int .i64 2, .int .i64 64]⟩, ⟨some ⟨bv3, 0, none⟩, 4, 1, [.string (bs ([99, 97, 114, 115] : List UInt8)), .pointer (some ⟨bv0, 2, none⟩), .int .i64 1, .int .i64 8]⟩, ⟨some ⟨bv4, 0, none⟩, 4, 1, [.string (bs ([115, 112, 101, 101, 100] : List UInt8)), .pointer (some ⟨bv0, 3, none⟩), .int .i64 1, .int .i64 20]⟩, ⟨some ⟨bv5, 0, none⟩, 4, 1, [.string (bs ([98, 114, 97, 107, 101] : List UInt8)), .pointer (some ⟨bv0, 4, none⟩), .int .i64 0, .int .i64 5]⟩, ⟨some ⟨bv6, 0, none⟩, 4, 1, [.string (bs ([116, 111, 108] : List UInt8)), .pointer (some ⟨bv0, 5, none⟩), .int .i64 0, .int .i64 20]⟩]) ?_ (by exact ⟨rfl, rfl, rfl, rfl, trivial⟩) rfl
      refine WJ.cv 202 (b := true) (H0 := ⟨.nil, 0, 0⟩) rfl rfl rfl rfl rfl rfl rfl rfl ?_
      refine WJ.hd (v := .pointer (some ⟨bv1, 20, none⟩)) 208 rfl rfl rfl rfl (fun ids H' fr => opD_indexAddr rfl (evV_eq _ _ _ _ _ rfl) (evV_eq _ _ _ _ _ rfl) (idxLit (i := 5) u55 sz60 rfl rfl)) rfl ?_
      refine WJ.hd (v := .agg ⟨[.string (bs ([119, 105, 100, 116, 104] : List UInt8)), .pointer (some ⟨bv0, 6, none⟩), .int .i64 1, .int .i64 20]⟩) 200 rfl rfl rfl rfl (fun ids H' fr => opD_load rfl (evV_eq _ _ _ _ _ rfl) (fr.ldOwn (j := 1) rfl rfl)) rfl ?_
      refine WJ.adv 1 rfl ?_
      refine WJ.liftS (loc := []) rfl rfl (fun bv7 => ?_)
      refine WJ.sb 200 (j := 7) rfl rfl rfl rfl rfl rfl rfl rfl rfl rfl ?_
      refine WJ.dr 202 rfl gmix (by kernel_rfl) (by kernel_rfl) rfl ?_
      refine WD.hd (v := .pointer (some ⟨bv0, 6, none⟩)) rfl rfl rfl rfl (fun _ _ _ _ _ => side_no) (fun ids H' fr => opD_load rfl (evV_eq _ _ _ _ _ rfl) (fr.ldOwn (j := 7) rfl rfl)) rfl ?_
      refine WD.hd (v := .int .i64 zv) rfl rfl rfl rfl (fun _ _ _ _ _ => side_no) (fun ids H' fr => opD_load rfl (evV_eq _ _ _ _ _ rfl) (fr.ldOwn (j := 0) rfl rfl)) rfl ?_
      refine WD.hd (v := .int .i64 1) rfl rfl rfl rfl (fun _ _ _ _ _ => side_no) (fun ids H' fr => opD_load rfl (evV_eq _ _ _ _ _ rfl) (fr.ldOwn (j := 7) rfl rfl)) rfl ?_
      refine WD.hd (v := .int .i64 20) rfl rfl rfl rfl (fun _ _ _ _ _ => side_no) (fun ids H' fr => opD_load rfl (evV_eq _ _ _ _ _ rfl) (fr.ldOwn (j := 7) rfl rfl)) rfl ?_
      obtain ⟨t19u6, e19u6, hp⟩ := bindS hp
      refine WD.cl (R := R_4 t19u6) (fun hm h k => R_4.mono hm h k) rfl (fun ids H' fr => f31_ok e19u6) ?_
      rintro v B7 ⟨abB7, ivB7⟩ rfl
      refine ⟨_, rfl, ?_⟩
      replace z6 := z6.mono (Nat.le_refl _) (abB7.le (Nat.zero_le _))
      replace z7 := z7.mono (Nat.le_refl _) (abB7.le (Nat.zero_le _))
      replace z5 := z5.mono (Nat.le_refl _) (abB7.le (Nat.zero_le _))
      cases t19u6
      ·replace hp := (itS hp).2 Bool.false_ne_true
       refine WD.done rfl ?_
       obtain rfl := endS (show some _ = some r from hp)
       exact WJ.rt 205 rfl rfl rfl (fun ids H' fr => ⟨fr.ext0, rfl⟩)
      ·replace hp := (itS hp).1 rfl
       refine WD.done rfl ?_
       refine WJ.ro 207 rfl ?_
       refine WJ.re (I := [(1, .v (.pointer (some ⟨bv0, 0, none⟩))), (5, .v (.slice (some ⟨bv1, 0, none⟩) 13 13)), (6, .v (.int .i64 13)), (7, .v (.int .i64 6))]) (O := [⟨some ⟨bv0, 0, none⟩, 25, 1, [.int .i64 zn, .slice zr zt.length zs, .int .i64 zy, .int .i64 zz, .int .i64 z0, .int .i64 z1, .int .i64 zv, .int .i64 zw, .int .i64 zx, .int .i64 zq, .int .i64 z2, .int .i64 z3, .int .i64 zu, .slice zd za.length ze, .int .u64 zb, .int .i64 zc, .int .i64 zg, .int .u64 zf, .int .i64 zk, .int .i64 zm, .int .u64 zl, .int .i64 zo, .int .i64 zp, .slice zi zh.length zj, .int .i64 z4]⟩, ⟨some ⟨bv1, 0, none⟩, 52, 1, [.string (bs ([102, 108, 111, 111, 114, 115] : List UInt8)), .pointer (some ⟨bv0, 0, none⟩), .int .i64 2, .int .i64 64, .string (bs ([99, 97, 114, 115] : List UInt8)), .pointer (some ⟨bv0, 2, none⟩), .int .i64 1, .int .i64 8, .string (bs ([115, 112, 101, 101, 100] : List UInt8)), .pointer (some ⟨bv0, 3, none⟩), .int .i64 1, .int .i64 20, .string (bs ([98, 114, 97, 107, 101] : List UInt8)), .pointer (some ⟨bv0, 4, none⟩), .int .i64 0, .int .i64 5, .string (bs ([116, 111, 108] : List UInt8)), .pointer (some ⟨bv0, 5, none⟩), .int .i64 0, .int .i64 20, .string (bs ([119, 105, 100, 116, 104] : List UInt8)), .pointer (some ⟨bv0, 6, none⟩), .int .i64 1, .int .i64 20, .string (bs ([100, 119, 101, 108, 108] : List UInt8)), .pointer (some ⟨bv0, 7, none⟩), .int .i64 1, .int .i64 50, .string (bs ([114, 101, 116, 114, 105, 101, 115] : List UInt8)), .pointer (some ⟨bv0, 8, none⟩), .int .i64 0, .int .i64 5, .string (bs ([101, 109, 112, 116, 121] : List UInt8)), .pointer (some ⟨bv0, 9, none⟩), .int .i64 0, .int .i64 10000, .string (bs ([102, 117, 108, 108] : List UInt8)), .pointer (some ⟨bv0, 10, none⟩), .int .i64 (IntKind.i64.wrap (zq + 1)), .int .i64 10000, .string (bs ([116, 114, 105, 112, 115] : List UInt8)), .pointer (some ⟨bv0, 11, none⟩), .int .i64 1, .int .i64 16, .string (bs ([115, 108, 111, 116, 115] : List UInt8)), .pointer (some ⟨bv0, 12, none⟩), .int .i64 1, .int .i64 24, .string (bs ([108, 105, 102, 101] : List UInt8)), .pointer (some ⟨bv0, 24, none⟩), .int .i64 1, .int .i64 100000]⟩, ⟨some ⟨bv2, 0, none⟩, 4, 1, [.string (bs ([102, 108, 111, 111, 114, 115] : List UInt8)), .pointer (some ⟨bv0, 0, none⟩), .int .i64 2, .int .i64 64]⟩, ⟨some ⟨bv3, 0, none⟩, 4, 1, [.string (bs ([99, 97, 114, 115] : List UInt8)), .pointer (some ⟨bv0, 2, none⟩), .int .i64 1, .int .i64 8]⟩, ⟨some ⟨bv4, 0, none⟩, 4, 1, [.string (bs ([115, 112, 101, 101, 100] : List UInt8)), .pointer (some ⟨bv0, 3, none⟩), .int .i64 1, .int .i64 20]⟩, ⟨some ⟨bv5, 0, none⟩, 4, 1, [.string (bs ([98, 114, 97, 107, 101] : List UInt8)), .pointer (some ⟨bv0, 4, none⟩), .int .i64 0, .int .i64 5]⟩, ⟨some ⟨bv6, 0, none⟩, 4, 1, [.string (bs ([116, 111, 108] : List UInt8)), .pointer (some ⟨bv0, 5, none⟩), .int .i64 0, .int .i64 20]⟩, ⟨some ⟨bv7, 0, none⟩, 4, 1, [.string (bs ([119, 105, 100, 116, 104] : List UInt8)), .pointer (some ⟨bv0, 6, none⟩), .int .i64 1, .int .i64 20]⟩]) ?_ (by exact ⟨rfl, rfl, rfl, rfl, trivial⟩) rfl
       refine WJ.cv 202 (b := true) (H0 := ⟨.nil, 0, 0⟩) rfl rfl rfl rfl rfl rfl rfl rfl ?_
       refine WJ.hd (v := .pointer (some ⟨bv1, 24, none⟩)) 208 rfl rfl rfl rfl (fun ids H' fr => opD_indexAddr rfl (evV_eq _ _ _ _ _ rfl) (evV_eq _ _ _ _ _ rfl) (idxLit (i := 6) u55 sz60 rfl rfl)) rfl ?_
       refine WJ.hd (v := .agg ⟨[.string (bs ([100, 119, 101, 108, 108] : List UInt8)), .pointer (some ⟨bv0, 7, none⟩), .int .i64 1, .int .i64 50]⟩) 200 rfl rfl rfl rfl (fun ids H' fr => opD_load rfl (evV_eq _ _ _ _ _ rfl) (fr.ldOwn (j := 1) rfl rfl)) rfl ?_
       refine WJ.adv 1 rfl ?_
       refine WJ.liftS (loc := []) rfl rfl (fun bv8 => ?_)
       refine WJ.sb 200 (j := 8) rfl rfl rfl rfl rfl rfl rfl rfl rfl rfl ?_
       refine WJ.dr 202 rfl gmix (by kernel_rfl) (by kernel_rfl) rfl ?_
       refine WD.hd (v := .pointer (some ⟨bv0, 7, none⟩)) rfl rfl rfl rfl (fun _ _ _ _ _ => side_no) (fun ids H' fr => opD_load rfl (evV_eq _ _ _ _ _ rfl) (fr.ldOwn (j := 8) rfl rfl)) rfl ?_
       refine WD.hd (v := .int .i64 zw) rfl rfl rfl rfl (fun _ _ _ _ _ => side_no) (fun ids H' fr => opD_load rfl (evV_eq _ _ _ _ _ rfl) (fr.ldOwn (j := 0) rfl rfl)) rfl ?_
       refine WD.hd (v := .int .i64 1) rfl rfl rfl rfl (fun _ _ _ _ _ => side_no) (fun ids H' fr => opD_load rfl (evV_eq _ _ _ _ _ rfl) (fr.ldOwn (j := 8) rfl rfl)) rfl ?_
       refine WD.hd (v := .int .i64 50) rfl rfl rfl rfl (fun _ _ _ _ _ => side_no) (fun ids H' fr => opD_load rfl (evV_eq _ _ _ _ _ rfl) (fr.ldOwn (j := 8) rfl rfl)) rfl ?_
       obtain ⟨t19u7, e19u7, hp⟩ := bindS hp
       refine WD.cl (R := R_4 t19u7) (fun hm h k => R_4.mono hm h k) rfl (fun ids H' fr => f31_ok e19u7) ?_
       rintro v B8 ⟨abB8, ivB8⟩ rfl
       refine ⟨_, rfl, ?_⟩
       replace z6 := z6.mono (Nat.le_refl _) (abB8.le (Nat.zero_le _))
       replace z7 := z7.mono (Nat.le_refl _) (abB8.le (Nat.zero_le _))
       replace z5 := z5.mono (Nat.le_refl _) (abB8.le (Nat.zero_le _))
       cases t19u7
       ·replace hp := (itS hp).2 Bool.false_ne_true
        refine WD.done rfl ?_
        obtain rfl := endS (show some _ = some r from hp)
        exact WJ.rt 205 rfl rfl rfl (fun ids H' fr => ⟨fr.ext0, rfl⟩)
       ·replace hp := (itS hp).1 rfl
        refine WD.done rfl ?_
        refine WJ.ro 207 rfl ?_
        refine WJ.re (I := [(1, .v (.pointer (some ⟨bv0, 0, none⟩))), (5, .v (.slice (some ⟨bv1, 0, none⟩) 13 13)), (6, .v (.int .i64 13)), (7, .v (.int .i64 7))]) (O := [⟨some ⟨bv0, 0, none⟩, 25, 1, [.int .i64 zn, .slice zr zt.length zs, .int .i64 zy, .int .i64 zz, .int .i64 z0, .int .i64 z1, .int .i64 zv, .int .i64 zw, .int .i64 zx, .int .i64 zq, .int .i64 z2, .int .i64 z3, .int .i64 zu, .slice zd za.length ze, .int .u64 zb, .int .i64 zc, .int .i64 zg, .int .u64 zf, .int .i64 zk, .int .i64 zm, .int .u64 zl, .int .i64 zo, .int .i64 zp, .slice zi zh.length zj, .int .i64 z4]⟩, ⟨some ⟨bv1, 0, none⟩, 52, 1, [.string (bs ([102, 108, 111, 111, 114, 115] : List UInt8)), .pointer (some ⟨bv0, 0, none⟩), .int .i64 2, .int .i64 64, .string (bs ([99, 97, 114, 115] : List UInt8)), .pointer (some ⟨bv0, 2, none⟩), .int .i64 1, .int .i64 8, .string (bs ([115, 112, 101, 101, 100] : List UInt8)), .pointer (some ⟨bv0, 3, none⟩), .int .i64 1, .int .i64 20, .string (bs ([98, 114, 97, 107, 101] : List UInt8)), .pointer (some ⟨bv0, 4, none⟩), .int .i64 0, .int .i64 5, .string (bs ([116, 111, 108] : List UInt8)), .pointer (some ⟨bv0, 5, none⟩), .int .i64 0, .int .i64 20, .string (bs ([119, 105, 100, 116, 104] : List UInt8)), .pointer (some ⟨bv0, 6, none⟩), .int .i64 1, .int .i64 20, .string (bs ([100, 119, 101, 108, 108] : List UInt8)), .pointer (some ⟨bv0, 7, none⟩), .int .i64 1, .int .i64 50, .string (bs ([114, 101, 116, 114, 105, 101, 115] : List UInt8)), .pointer (some ⟨bv0, 8, none⟩), .int .i64 0, .int .i64 5, .string (bs ([101, 109, 112, 116, 121] : List UInt8)), .pointer (some ⟨bv0, 9, none⟩), .int .i64 0, .int .i64 10000, .string (bs ([102, 117, 108, 108] : List UInt8)), .pointer (some ⟨bv0, 10, none⟩), .int .i64 (IntKind.i64.wrap (zq + 1)), .int .i64 10000, .string (bs ([116, 114, 105, 112, 115] : List UInt8)), .pointer (some ⟨bv0, 11, none⟩), .int .i64 1, .int .i64 16, .string (bs ([115, 108, 111, 116, 115] : List UInt8)), .pointer (some ⟨bv0, 12, none⟩), .int .i64 1, .int .i64 24, .string (bs ([108, 105, 102, 101] : List UInt8)), .pointer (some ⟨bv0, 24, none⟩), .int .i64 1, .int .i64 100000]⟩, ⟨some ⟨bv2, 0, none⟩, 4, 1, [.string (bs ([102, 108, 111, 111, 114, 115] : List UInt8)), .pointer (some ⟨bv0, 0, none⟩), .int .i64 2, .int .i64 64]⟩, ⟨some ⟨bv3, 0, none⟩, 4, 1, [.string (bs ([99, 97, 114, 115] : List UInt8)), .pointer (some ⟨bv0, 2, none⟩), .int .i64 1, .int .i64 8]⟩, ⟨some ⟨bv4, 0, none⟩, 4, 1, [.string (bs ([115, 112, 101, 101, 100] : List UInt8)), .pointer (some ⟨bv0, 3, none⟩), .int .i64 1, .int .i64 20]⟩, ⟨some ⟨bv5, 0, none⟩, 4, 1, [.string (bs ([98, 114, 97, 107, 101] : List UInt8)), .pointer (some ⟨bv0, 4, none⟩), .int .i64 0, .int .i64 5]⟩, ⟨some ⟨bv6, 0, none⟩, 4, 1, [.string (bs ([116, 111, 108] : List UInt8)), .pointer (some ⟨bv0, 5, none⟩), .int .i64 0, .int .i64 20]⟩, ⟨some ⟨bv7, 0, none⟩, 4, 1, [.string (bs ([119, 105, 100, 116, 104] : List UInt8)), .pointer (some ⟨bv0, 6, none⟩), .int .i64 1, .int .i64 20]⟩, ⟨some ⟨bv8, 0, none⟩, 4, 1, [.string (bs ([100, 119, 101, 108, 108] : List UInt8)), .pointer (some ⟨bv0, 7, none⟩), .int .i64 1, .int .i64 50]⟩]) ?_ (by exact ⟨rfl, rfl, rfl, rfl, trivial⟩) rfl
        refine WJ.cv 202 (b := true) (H0 := ⟨.nil, 0, 0⟩) rfl rfl rfl rfl rfl rfl rfl rfl ?_
        refine WJ.hd (v := .pointer (some ⟨bv1, 28, none⟩)) 208 rfl rfl rfl rfl (fun ids H' fr => opD_indexAddr rfl (evV_eq _ _ _ _ _ rfl) (evV_eq _ _ _ _ _ rfl) (idxLit (i := 7) u55 sz60 rfl rfl)) rfl ?_
        refine WJ.hd (v := .agg ⟨[.string (bs ([114, 101, 116, 114, 105, 101, 115] : List UInt8)), .pointer (some ⟨bv0, 8, none⟩), .int .i64 0, .int .i64 5]⟩) 200 rfl rfl rfl rfl (fun ids H' fr => opD_load rfl (evV_eq _ _ _ _ _ rfl) (fr.ldOwn (j := 1) rfl rfl)) rfl ?_
        refine WJ.adv 1 rfl ?_
        refine WJ.liftS (loc := []) rfl rfl (fun bv9 => ?_)
        refine WJ.sb 200 (j := 9) rfl rfl rfl rfl rfl rfl rfl rfl rfl rfl ?_
        refine WJ.dr 202 rfl gmix (by kernel_rfl) (by kernel_rfl) rfl ?_
        refine WD.hd (v := .pointer (some ⟨bv0, 8, none⟩)) rfl rfl rfl rfl (fun _ _ _ _ _ => side_no) (fun ids H' fr => opD_load rfl (evV_eq _ _ _ _ _ rfl) (fr.ldOwn (j := 9) rfl rfl)) rfl ?_
        refine WD.hd (v := .int .i64 zx) rfl rfl rfl rfl (fun _ _ _ _ _ => side_no) (fun ids H' fr => opD_load rfl (evV_eq _ _ _ _ _ rfl) (fr.ldOwn (j := 0) rfl rfl)) rfl ?_
        refine WD.hd (v := .int .i64 0) rfl rfl rfl rfl (fun _ _ _ _ _ => side_no) (fun ids H' fr => opD_load rfl (evV_eq _ _ _ _ _ rfl) (fr.ldOwn (j := 9) rfl rfl)) rfl ?_
        refine WD.hd (v := .int .i64 5) rfl rfl rfl rfl (fun _ _ _ _ _ => side_no) (fun ids H' fr => opD_load rfl (evV_eq _ _ _ _ _ rfl) (fr.ldOwn (j := 9) rfl rfl)) rfl ?_
        obtain ⟨t19u8, e19u8, hp⟩ := bindS hp
        refine WD.cl (R := R_4 t19u8) (fun hm h k => R_4.mono hm h k) rfl (fun ids H' fr => f31_ok e19u8) ?_
        rintro v B9 ⟨abB9, ivB9⟩ rfl
        refine ⟨_, rfl, ?_⟩
        replace z6 := z6.mono (Nat.le_refl _) (abB9.le (Nat.zero_le _))
        replace z7 := z7.mono (Nat.le_refl _) (abB9.le (Nat.zero_le _))
        replace z5 := z5.mono (Nat.le_refl _) (abB9.le (Nat.zero_le _))
        cases t19u8
        ·replace hp := (itS hp).2 Bool.false_ne_true
         refine WD.done rfl ?_
         obtain rfl := endS (show some _ = some r from hp)
         exact WJ.rt 205 rfl rfl rfl (fun ids H' fr => ⟨fr.ext0, rfl⟩)
        ·replace hp := (itS hp).1 rfl
         refine WD.done rfl ?_
         refine WJ.ro 207 rfl ?_
         refine WJ.re (I := [(1, .v (.pointer (some ⟨bv0, 0, none⟩))), (5, .v (.slice (some ⟨bv1, 0, none⟩) 13 13)), (6, .v (.int .i64 13)), (7, .v (.int .i64 8))]) (O := [⟨some ⟨bv0, 0, none⟩, 25, 1, [.int .i64 zn, .slice zr zt.length zs, .int .i64 zy, .int .i64 zz, .int .i64 z0, .int .i64 z1, .int .i64 zv, .int .i64 zw, .int .i64 zx, .int .i64 zq, .int .i64 z2, .int .i64 z3, .int .i64 zu, .slice zd za.length ze, .int .u64 zb, .int .i64 zc, .int .i64 zg, .int .u64 zf, .int .i64 zk, .int .i64 zm, .int .u64 zl, .int .i64 zo, .int .i64 zp, .slice zi zh.length zj, .int .i64 z4]⟩, ⟨some ⟨bv1, 0, none⟩, 52, 1, [.string (bs ([102, 108, 111, 111, 114, 115] : List UInt8)), .pointer (some ⟨bv0, 0, none⟩), .int .i64 2, .int .i64 64, .string (bs ([99, 97, 114, 115] : List UInt8)), .pointer (some ⟨bv0, 2, none⟩), .int .i64 1, .int .i64 8, .string (bs ([115, 112, 101, 101, 100] : List UInt8)), .pointer (some ⟨bv0, 3, none⟩), .int .i64 1, .int .i64 20, .string (bs ([98, 114, 97, 107, 101] : List UInt8)), .pointer (some ⟨bv0, 4, none⟩), .int .i64 0, .int .i64 5, .string (bs ([116, 111, 108] : List UInt8)), .pointer (some ⟨bv0, 5, none⟩), .int .i64 0, .int .i64 20, .string (bs ([119, 105, 100, 116, 104] : List UInt8)), .pointer (some ⟨bv0, 6, none⟩), .int .i64 1, .int .i64 20, .string (bs ([100, 119, 101, 108, 108] : List UInt8)), .pointer (some ⟨bv0, 7, none⟩), .int .i64 1, .int .i64 50, .string (bs ([114, 101, 116, 114, 105, 101, 115] : List UInt8)), .pointer (some ⟨bv0, 8, none⟩), .int .i64 0, .int .i64 5, .string (bs ([101, 109, 112, 116, 121] : List UInt8)), .pointer (some ⟨bv0, 9, none⟩), .int .i64 0, .int .i64 10000, .string (bs ([102, 117, 108, 108] : List UInt8)), .pointer (some ⟨bv0, 10, none⟩), .int .i64 (IntKind.i64.wrap (zq + 1)), .int .i64 10000, .string (bs ([116, 114, 105, 112, 115] : List UInt8)), .pointer (some ⟨bv0, 11, none⟩), .int .i64 1, .int .i64 16, .string (bs ([115, 108, 111, 116, 115] : List UInt8)), .pointer (some ⟨bv0, 12, none⟩), .int .i64 1, .int .i64 24, .string (bs ([108, 105, 102, 101] : List UInt8)), .pointer (some ⟨bv0, 24, none⟩), .int .i64 1, .int .i64 100000]⟩, ⟨some ⟨bv2, 0, none⟩, 4, 1, [.string (bs ([102, 108, 111, 111, 114, 115] : List UInt8)), .pointer (some ⟨bv0, 0, none⟩), .int .i64 2, .int .i64 64]⟩, ⟨some ⟨bv3, 0, none⟩, 4, 1, [.string (bs ([99, 97, 114, 115] : List UInt8)), .pointer (some ⟨bv0, 2, none⟩), .int .i64 1, .int .i64 8]⟩, ⟨some ⟨bv4, 0, none⟩, 4, 1, [.string (bs ([115, 112, 101, 101, 100] : List UInt8)), .pointer (some ⟨bv0, 3, none⟩), .int .i64 1, .int .i64 20]⟩, ⟨some ⟨bv5, 0, none⟩, 4, 1, [.string (bs ([98, 114, 97, 107, 101] : List UInt8)), .pointer (some ⟨bv0, 4, none⟩), .int .i64 0, .int .i64 5]⟩, ⟨some ⟨bv6, 0, none⟩, 4, 1, [.string (bs ([116, 111, 108] : List UInt8)), .pointer (some ⟨bv0, 5, none⟩), .int .i64 0, .int .i64 20]⟩, ⟨some ⟨bv7, 0, none⟩, 4, 1, [.string (bs ([119, 105, 100, 116, 104] : List UInt8)), .pointer (some ⟨bv0, 6, none⟩), .int .i64 1, .int .i64 20]⟩, ⟨some ⟨bv8, 0, none⟩, 4, 1, [.string (bs ([100, 119, 101, 108, 108] : List UInt8)), .pointer (some ⟨bv0, 7, none⟩), .int .i64 1, .int .i64 50]⟩, ⟨some ⟨bv9, 0, none⟩, 4, 1, [.string (bs ([114, 101, 116, 114, 105, 101, 115] : List UInt8)), .pointer (some ⟨bv0, 8, none⟩), .int .i64 0, .int .i64 5]⟩]) ?_ (by exact ⟨rfl, rfl, rfl, rfl, trivial⟩) rfl
         refine WJ.cv 202 (b := true) (H0 := ⟨.nil, 0, 0⟩) rfl rfl rfl rfl rfl rfl rfl rfl ?_
         refine WJ.hd (v := .pointer (some ⟨bv1, 32, none⟩)) 208 rfl rfl rfl rfl (fun ids H' fr => opD_indexAddr rfl (evV_eq _ _ _ _ _ rfl) (evV_eq _ _ _ _ _ rfl) (idxLit (i := 8) u55 sz60 rfl rfl)) rfl ?_
         refine WJ.hd (v := .agg ⟨[.string (bs ([101, 109, 112, 116, 121] : List UInt8)), .pointer (some ⟨bv0, 9, none⟩), .int .i64 0, .int .i64 10000]⟩) 200 rfl rfl rfl rfl (fun ids H' fr => opD_load rfl (evV_eq _ _ _ _ _ rfl) (fr.ldOwn (j := 1) rfl rfl)) rfl ?_
         refine WJ.adv 1 rfl ?_
         refine WJ.liftS (loc := []) rfl rfl (fun bv10 => ?_)
         refine WJ.sb 200 (j := 10) rfl rfl rfl rfl rfl rfl rfl rfl rfl rfl ?_
         refine WJ.dr 202 rfl gmix (by kernel_rfl) (by kernel_rfl) rfl ?_
         refine WD.hd (v := .pointer (some ⟨bv0, 9, none⟩)) rfl rfl rfl rfl (fun _ _ _ _ _ => side_no) (fun ids H' fr => opD_load rfl (evV_eq _ _ _ _ _ rfl) (fr.ldOwn (j := 10) rfl rfl)) rfl ?_
         refine WD.hd (v := .int .i64 zq) rfl rfl rfl rfl (fun _ _ _ _ _ => side_no) (fun ids H' fr => opD_load rfl (evV_eq _ _ _ _ _ rfl) (fr.ldOwn (j := 0) rfl rfl)) rfl ?_
         refine WD.hd (v := .int .i64 0) rfl rfl rfl rfl (fun _ _ _ _ _ => side_no) (fun ids H' fr => opD_load rfl (evV_eq _ _ _ _ _ rfl) (fr.ldOwn (j := 10) rfl rfl)) rfl ?_
         refine WD.hd (v := .int .i64 10000) rfl rfl rfl rfl (fun _ _ _ _ _ => side_no) (fun ids H' fr => opD_load rfl (evV_eq _ _ _ _ _ rfl) (fr.ldOwn (j := 10) rfl rfl)) rfl ?_
         obtain ⟨t19u9, e19u9, hp⟩ := bindS hp
         refine WD.cl (R := R_4 t19u9) (fun hm h k => R_4.mono hm h k) rfl (fun ids H' fr => f31_ok e19u9) ?_
         rintro v B10 ⟨abB10, ivB10⟩ rfl
         refine ⟨_, rfl, ?_⟩
         replace z6 := z6.mono (Nat.le_refl _) (abB10.le (Nat.zero_le _))
         replace z7 := z7.mono (Nat.le_refl _) (abB10.le (Nat.zero_le _))
         replace z5 := z5.mono (Nat.le_refl _) (abB10.le (Nat.zero_le _))
         cases t19u9
         ·replace hp := (itS hp).2 Bool.false_ne_true
          refine WD.done rfl ?_
          obtain rfl := endS (show some _ = some r from hp)
          exact WJ.rt 205 rfl rfl rfl (fun ids H' fr => ⟨fr.ext0, rfl⟩)
         ·replace hp := (itS hp).1 rfl
          refine WD.done rfl ?_
          refine WJ.ro 207 rfl ?_
          refine WJ.re (I := [(1, .v (.pointer (some ⟨bv0, 0, none⟩))), (5, .v (.slice (some ⟨bv1, 0, none⟩) 13 13)), (6, .v (.int .i64 13)), (7, .v (.int .i64 9))]) (O := [⟨some ⟨bv0, 0, none⟩, 25, 1, [.int .i64 zn, .slice zr zt.length zs, .int .i64 zy, .int .i64 zz, .int .i64 z0, .int .i64 z1, .int .i64 zv, .int .i64 zw, .int .i64 zx, .int .i64 zq, .int .i64 z2, .int .i64 z3, .int .i64 zu, .slice zd za.length ze, .int .u64 zb, .int .i64 zc, .int .i64 zg, .int .u64 zf, .int .i64 zk, .int .i64 zm, .int .u64 zl, .int .i64 zo, .int .i64 zp, .slice zi zh.length zj, .int .i64 z4]⟩, ⟨some ⟨bv1, 0, none⟩, 52, 1, [.string (bs ([102, 108, 111, 111, 114, 115] : List UInt8)), .pointer (some ⟨bv0, 0, none⟩), .int .i64 2, .int .i64 64, .string (bs ([99, 97, 114, 115] : List UInt8)), .pointer (some ⟨bv0, 2, none⟩), .int .i64 1, .int .i64 8, .string (bs ([115, 112, 101, 101, 100] : List UInt8)), .pointer (some ⟨bv0, 3, none⟩), .int .i64 1, .int .i64 20, .string (bs ([98, 114, 97, 107, 101] : List UInt8)), .pointer (some ⟨bv0, 4, none⟩), .int .i64 0, .int .i64 5, .string (bs ([116, 111, 108] : List UInt8)), .pointer (some ⟨bv0, 5, none⟩), .int .i64 0, .int .i64 20, .string (bs ([119, 105, 100, 116, 104] : List UInt8)), .pointer (some ⟨bv0, 6, none⟩), .int .i64 1, .int .i64 20, .string (bs ([100, 119, 101, 108, 108] : List UInt8)), .pointer (some ⟨bv0, 7, none⟩), .int .i64 1, .int .i64 50, .string (bs ([114, 101, 116, 114, 105, 101, 115] : List UInt8)), .pointer (some ⟨bv0, 8, none⟩), .int .i64 0, .int .i64 5, .string (bs ([101, 109, 112, 116, 121] : List UInt8)), .pointer (some ⟨bv0, 9, none⟩), .int .i64 0, .int .i64 10000, .string (bs ([102, 117, 108, 108] : List UInt8)), .pointer (some ⟨bv0, 10, none⟩), .int .i64 (IntKind.i64.wrap (zq + 1)), .int .i64 10000, .string (bs ([116, 114, 105, 112, 115] : List UInt8)), .pointer (some ⟨bv0, 11, none⟩), .int .i64 1, .int .i64 16, .string (bs ([115, 108, 111, 116, 115] : List UInt8)), .pointer (some ⟨bv0, 12, none⟩), .int .i64 1, .int .i64 24, .string (bs ([108, 105, 102, 101] : List UInt8)), .pointer (some ⟨bv0, 24, none⟩), .int .i64 1, .int .i64 100000]⟩, ⟨some ⟨bv2, 0, none⟩, 4, 1, [.string (bs ([102, 108, 111, 111, 114, 115] : List UInt8)), .pointer (some ⟨bv0, 0, none⟩), .int .i64 2, .int .i64 64]⟩, ⟨some ⟨bv3, 0, none⟩, 4, 1, [.string (bs ([99, 97, 114, 115] : List UInt8)), .pointer (some ⟨bv0, 2, none⟩), .int .i64 1, .int .i64 8]⟩, ⟨some ⟨bv4, 0, none⟩, 4, 1, [.string (bs ([115, 112, 101, 101, 100] : List UInt8)), .pointer (some ⟨bv0, 3, none⟩), .int .i64 1, .int .i64 20]⟩, ⟨some ⟨bv5, 0, none⟩, 4, 1, [.string (bs ([98, 114, 97, 107, 101] : List UInt8)), .pointer (some ⟨bv0, 4, none⟩), .int .i64 0, .int .i64 5]⟩, ⟨some ⟨bv6, 0, none⟩, 4, 1, [.string (bs ([116, 111, 108] : List UInt8)), .pointer (some ⟨bv0, 5, none⟩), .int .i64 0, .int .i64 20]⟩, ⟨some ⟨bv7, 0, none⟩, 4, 1, [.string (bs ([119, 105, 100, 116, 104] : List UInt8)), .pointer (some ⟨bv0, 6, none⟩), .int .i64 1, .int .i64 20]⟩, ⟨some ⟨bv8, 0, none⟩, 4, 1, [.string (bs ([100, 119, 101, 108, 108] : List UInt8)), .pointer (some ⟨bv0, 7, none⟩), .int .i64 1, .int .i64 50]⟩, ⟨some ⟨bv9, 0, none⟩, 4, 1, [.string (bs ([114, 101, 116, 114, 105, 101, 115] : List UInt8)), .pointer (some ⟨bv0, 8, none⟩), .int .i64 0, .int .i64 5]⟩, ⟨some ⟨bv10, 0, none⟩, 4, 1, [.string (bs ([101, 109, 112, 116, 121] : List UInt8)), .pointer (some ⟨bv0, 9, none⟩), .int .i64 0, .int .i64 10000]⟩]) ?_ (by exact ⟨rfl, rfl, rfl, rfl, trivial⟩) rfl
          refine WJ.cv 202 (b := true) (H0 := ⟨.nil, 0, 0⟩) rfl rfl rfl rfl rfl rfl rfl rfl ?_
          refine WJ.hd (v := .pointer (some ⟨bv1, 36, none⟩)) 208 rfl rfl rfl rfl (fun ids H' fr => opD_indexAddr rfl (evV_eq _ _ _ _ _ rfl) (evV_eq _ _ _ _ _ rfl) (idxLit (i := 9) u55 sz60 rfl rfl)) rfl ?_
          refine WJ.hd (v := .agg ⟨[.string (bs ([102, 117, 108, 108] : List UInt8)), .pointer (some ⟨bv0, 10, none⟩), .int .i64 (IntKind.i64.wrap (zq + 1)), .int .i64 10000]⟩) 200 rfl rfl rfl rfl (fun ids H' fr => opD_load rfl (evV_eq _ _ _ _ _ rfl) (fr.ldOwn (j := 1) rfl rfl)) rfl ?_
          refine WJ.adv 1 rfl ?_
          refine WJ.liftS (loc := []) rfl rfl (fun bv11 => ?_)
          refine WJ.sb 200 (j := 11) rfl rfl rfl rfl rfl rfl rfl rfl rfl rfl ?_
          refine WJ.dr 202 rfl gmix (by kernel_rfl) (by kernel_rfl) rfl ?_
          refine WD.hd (v := .pointer (some ⟨bv0, 10, none⟩)) rfl rfl rfl rfl (fun _ _ _ _ _ => side_no) (fun ids H' fr => opD_load rfl (evV_eq _ _ _ _ _ rfl) (fr.ldOwn (j := 11) rfl rfl)) rfl ?_
          refine WD.hd (v := .int .i64 z2) rfl rfl rfl rfl (fun _ _ _ _ _ => side_no) (fun ids H' fr => opD_load rfl (evV_eq _ _ _ _ _ rfl) (fr.ldOwn (j := 0) rfl rfl)) rfl ?_
          refine WD.hd (v := .int .i64 (IntKind.i64.wrap (zq + 1))) rfl rfl rfl rfl (fun _ _ _ _ _ => side_no) (fun ids H' fr => opD_load rfl (evV_eq _ _ _ _ _ rfl) (fr.ldOwn (j := 11) rfl rfl)) rfl ?_
          refine WD.hd (v := .int .i64 10000) rfl rfl rfl rfl (fun _ _ _ _ _ => side_no) (fun ids H' fr => opD_load rfl (evV_eq _ _ _ _ _ rfl) (fr.ldOwn (j := 11) rfl rfl)) rfl ?_
          obtain ⟨t19u10, e19u10, hp⟩ := bindS hp
          refine WD.cl (R := R_4 t19u10) (fun hm h k => R_4.mono hm h k) rfl (fun ids H' fr => f31_ok e19u10) ?_
          rintro v B11 ⟨abB11, ivB11⟩ rfl
          refine ⟨_, rfl, ?_⟩
          replace z6 := z6.mono (Nat.le_refl _) (abB11.le (Nat.zero_le _))
          replace z7 := z7.mono (Nat.le_refl _) (abB11.le (Nat.zero_le _))
          replace z5 := z5.mono (Nat.le_refl _) (abB11.le (Nat.zero_le _))
          cases t19u10
          ·replace hp := (itS hp).2 Bool.false_ne_true
           refine WD.done rfl ?_
           obtain rfl := endS (show some _ = some r from hp)
           exact WJ.rt 205 rfl rfl rfl (fun ids H' fr => ⟨fr.ext0, rfl⟩)
          ·replace hp := (itS hp).1 rfl
           refine WD.done rfl ?_
           refine WJ.ro 207 rfl ?_
           refine WJ.re (I := [(1, .v (.pointer (some ⟨bv0, 0, none⟩))), (5, .v (.slice (some ⟨bv1, 0, none⟩) 13 13)), (6, .v (.int .i64 13)), (7, .v (.int .i64 10))]) (O := [⟨some ⟨bv0, 0, none⟩, 25, 1, [.int .i64 zn, .slice zr zt.length zs, .int .i64 zy, .int .i64 zz, .int .i64 z0, .int .i64 z1, .int .i64 zv, .int .i64 zw, .int .i64 zx, .int .i64 zq, .int .i64 z2, .int .i64 z3, .int .i64 zu, .slice zd za.length ze, .int .u64 zb, .int .i64 zc, .int .i64 zg, .int .u64 zf, .int .i64 zk, .int .i64 zm, .int .u64 zl, .int .i64 zo, .int .i64 zp, .slice zi zh.length zj, .int .i64 z4]⟩, ⟨some ⟨bv1, 0, none⟩, 52, 1, [.string (bs ([102, 108, 111, 111, 114, 115] : List UInt8)), .pointer (some ⟨bv0, 0, none⟩), .int .i64 2, .int .i64 64, .string (bs ([99, 97, 114, 115] : List UInt8)), .pointer (some ⟨bv0, 2, none⟩), .int .i64 1, .int .i64 8, .string (bs ([115, 112, 101, 101, 100] : List UInt8)), .pointer (some ⟨bv0, 3, none⟩), .int .i64 1, .int .i64 20, .string (bs ([98, 114, 97, 107, 101] : List UInt8)), .pointer (some ⟨bv0, 4, none⟩), .int .i64 0, .int .i64 5, .string (bs ([116, 111, 108] : List UInt8)), .pointer (some ⟨bv0, 5, none⟩), .int .i64 0, .int .i64 20, .string (bs ([119, 105, 100, 116, 104] : List UInt8)), .pointer (some ⟨bv0, 6, none⟩), .int .i64 1, .int .i64 20, .string (bs ([100, 119, 101, 108, 108] : List UInt8)), .pointer (some ⟨bv0, 7, none⟩), .int .i64 1, .int .i64 50, .string (bs ([114, 101, 116, 114, 105, 101, 115] : List UInt8)), .pointer (some ⟨bv0, 8, none⟩), .int .i64 0, .int .i64 5, .string (bs ([101, 109, 112, 116, 121] : List UInt8)), .pointer (some ⟨bv0, 9, none⟩), .int .i64 0, .int .i64 10000, .string (bs ([102, 117, 108, 108] : List UInt8)), .pointer (some ⟨bv0, 10, none⟩), .int .i64 (IntKind.i64.wrap (zq + 1)), .int .i64 10000, .string (bs ([116, 114, 105, 112, 115] : List UInt8)), .pointer (some ⟨bv0, 11, none⟩), .int .i64 1, .int .i64 16, .string (bs ([115, 108, 111, 116, 115] : List UInt8)), .pointer (some ⟨bv0, 12, none⟩), .int .i64 1, .int .i64 24, .string (bs ([108, 105, 102, 101] : List UInt8)), .pointer (some ⟨bv0, 24, none⟩), .int .i64 1, .int .i64 100000]⟩, ⟨some ⟨bv2, 0, none⟩, 4, 1, [.string (bs ([102, 108, 111, 111, 114, 115] : List UInt8)), .pointer (some ⟨bv0, 0, none⟩), .int .i64 2, .int .i64 64]⟩, ⟨some ⟨bv3, 0, none⟩, 4, 1, [.string (bs ([99, 97, 114, 115] : List UInt8)), .pointer (some ⟨bv0, 2, none⟩), .int .i64 1, .int .i64 8]⟩, ⟨some ⟨bv4, 0, none⟩, 4, 1, [.string (bs ([115, 112, 101, 101, 100] : List UInt8)), .pointer (some ⟨bv0, 3, none⟩), .int .i64 1, .int .i64 20]⟩, ⟨some ⟨bv5, 0, none⟩, 4, 1, [.string (bs ([98, 114, 97, 107, 101] : List UInt8)), .pointer (some ⟨bv0, 4, none⟩), .int .i64 0, .int .i64 5]⟩, ⟨some ⟨bv6, 0, none⟩, 4, 1, [.string (bs ([116, 111, 108] : List UInt8)), .pointer (some ⟨bv0, 5, none⟩), .int .i64 0, .int .i64 20]⟩, ⟨some ⟨bv7, 0, none⟩, 4, 1, [.string (bs ([119, 105, 100, 116, 104] : List UInt8)), .pointer (some ⟨bv0, 6, none⟩), .int .i64 1, .int .i64 20]⟩, ⟨some ⟨bv8, 0, none⟩, 4, 1, [.string (bs ([100, 119, 101, 108, 108] : List UInt8)), .pointer (some ⟨bv0, 7, none⟩), .int .i64 1, .int .i64 50]⟩, ⟨some ⟨bv9, 0, none⟩, 4, 1, [.string (bs ([114, 101, 116, 114, 105, 101, 115] : List UInt8)), .pointer (some ⟨bv0, 8, none⟩), .int .i64 0, .int .i64 5]⟩, ⟨some ⟨bv10, 0, none⟩, 4, 1, [.string (bs ([101, 109, 112, 116, 121] : List UInt8)), .pointer (some ⟨bv0, 9, none⟩), .int .i64 0, .int .i64 10000]⟩, ⟨some ⟨bv11, 0, none⟩, 4, 1, [.string (bs ([102, 117, 108, 108] : List UInt8)), .pointer (some ⟨bv0, 10, none⟩), .int .i64 (IntKind.i64.wrap (zq + 1)), .int .i64 10000]⟩]) ?_ (by exact ⟨rfl, rfl, rfl, rfl, trivial⟩) rfl
           refine WJ.cv 202 (b := true) (H0 := ⟨.nil, 0, 0⟩) rfl rfl rfl rfl rfl rfl rfl rfl ?_
           refine WJ.hd (v := .pointer (some ⟨bv1, 40, none⟩)) 208 rfl rfl rfl rfl (fun ids H' fr => opD_indexAddr rfl (evV_eq _ _ _ _ _ rfl) (evV_eq _ _ _ _ _ rfl) (idxLit (i := 10) u55 sz60 rfl rfl)) rfl ?_
           refine WJ.hd (v := .agg ⟨[.string (bs ([116, 114, 105, 112, 115] : List UInt8)), .pointer (some ⟨bv0, 11, none⟩), .int .i64 1, .int .i64 16]⟩) 200 rfl rfl rfl rfl (fun ids H' fr => opD_load rfl (evV_eq _ _ _ _ _ rfl) (fr.ldOwn (j := 1) rfl rfl)) rfl ?_
           refine WJ.adv 1 rfl ?_
           refine WJ.liftS (loc := []) rfl rfl (fun bv12 => ?_)
           refine WJ.sb 200 (j := 12) rfl rfl rfl rfl rfl rfl rfl rfl rfl rfl ?_
           refine WJ.dr 202 rfl gmix (by kernel_rfl) (by kernel_rfl) rfl ?_
           refine WD.hd (v := .pointer (some ⟨bv0, 11, none⟩)) rfl rfl rfl rfl (fun _ _ _ _ _ => side_no) (fun ids H' fr => opD_load rfl (evV_eq _ _ _ _ _ rfl) (fr.ldOwn (j := 12) rfl rfl)) rfl ?_
           refine WD.hd (v := .int .i64 z3) rfl rfl rfl rfl (fun _ _ _ _ _ => side_no) (fun ids H' fr => opD_load rfl (evV_eq _ _ _ _ _ rfl) (fr.ldOwn (j := 0) rfl rfl)) rfl ?_
           refine WD.hd (v := .int .i64 1) rfl rfl rfl rfl (fun _ _ _ _ _ => side_no) (fun ids H' fr => opD_load rfl (evV_eq _ _ _ _ _ rfl) (fr.ldOwn (j := 12) rfl rfl)) rfl ?_
           refine WD.hd (v := .int .i64 16) rfl rfl rfl rfl (fun _ _ _ _ _ => side_no) (fun ids H' fr => opD_load rfl (evV_eq _ _ _ _ _ rfl) (fr.ldOwn (j := 12) rfl rfl)) rfl ?_
           obtain ⟨t19u11, e19u11, hp⟩ := bindS hp
           refine WD.cl (R := R_4 t19u11) (fun hm h k => R_4.mono hm h k) rfl (fun ids H' fr => f31_ok e19u11) ?_
           rintro v B12 ⟨abB12, ivB12⟩ rfl
           refine ⟨_, rfl, ?_⟩
           replace z6 := z6.mono (Nat.le_refl _) (abB12.le (Nat.zero_le _))
           replace z7 := z7.mono (Nat.le_refl _) (abB12.le (Nat.zero_le _))
           replace z5 := z5.mono (Nat.le_refl _) (abB12.le (Nat.zero_le _))
           cases t19u11
           ·replace hp := (itS hp).2 Bool.false_ne_true
            refine WD.done rfl ?_
            obtain rfl := endS (show some _ = some r from hp)
            exact WJ.rt 205 rfl rfl rfl (fun ids H' fr => ⟨fr.ext0, rfl⟩)
           ·replace hp := (itS hp).1 rfl
            refine WD.done rfl ?_
            refine WJ.ro 207 rfl ?_
            refine WJ.re (I := [(1, .v (.pointer (some ⟨bv0, 0, none⟩))), (5, .v (.slice (some ⟨bv1, 0, none⟩) 13 13)), (6, .v (.int .i64 13)), (7, .v (.int .i64 11))]) (O := [⟨some ⟨bv0, 0, none⟩, 25, 1, [.int .i64 zn, .slice zr zt.length zs, .int .i64 zy, .int .i64 zz, .int .i64 z0, .int .i64 z1, .int .i64 zv, .int .i64 zw, .int .i64 zx, .int .i64 zq, .int .i64 z2, .int .i64 z3, .int .i64 zu, .slice zd za.length ze, .int .u64 zb, .int .i64 zc, .int .i64 zg, .int .u64 zf, .int .i64 zk, .int .i64 zm, .int .u64 zl, .int .i64 zo, .int .i64 zp, .slice zi zh.length zj, .int .i64 z4]⟩, ⟨some ⟨bv1, 0, none⟩, 52, 1, [.string (bs ([102, 108, 111, 111, 114, 115] : List UInt8)), .pointer (some ⟨bv0, 0, none⟩), .int .i64 2, .int .i64 64, .string (bs ([99, 97, 114, 115] : List UInt8)), .pointer (some ⟨bv0, 2, none⟩), .int .i64 1, .int .i64 8, .string (bs ([115, 112, 101, 101, 100] : List UInt8)), .pointer (some ⟨bv0, 3, none⟩), .int .i64 1, .int .i64 20, .string (bs ([98, 114, 97, 107, 101] : List UInt8)), .pointer (some ⟨bv0, 4, none⟩), .int .i64 0, .int .i64 5, .string (bs ([116, 111, 108] : List UInt8)), .pointer (some ⟨bv0, 5, none⟩), .int .i64 0, .int .i64 20, .string (bs ([119, 105, 100, 116, 104] : List UInt8)), .pointer (some ⟨bv0, 6, none⟩), .int .i64 1, .int .i64 20, .string (bs ([100, 119, 101, 108, 108] : List UInt8)), .pointer (some ⟨bv0, 7, none⟩), .int .i64 1, .int .i64 50, .string (bs ([114, 101, 116, 114, 105, 101, 115] : List UInt8)), .pointer (some ⟨bv0, 8, none⟩), .int .i64 0, .int .i64 5, .string (bs ([101, 109, 112, 116, 121] : List UInt8)), .pointer (some ⟨bv0, 9, none⟩), .int .i64 0, .int .i64 10000, .string (bs ([102, 117, 108, 108] : List UInt8)), .pointer (some ⟨bv0, 10, none⟩), .int .i64 (IntKind.i64.wrap (zq + 1)), .int .i64 10000, .string (bs ([116, 114, 105, 112, 115] : List UInt8)), .pointer (some ⟨bv0, 11, none⟩), .int .i64 1, .int .i64 16, .string (bs ([115, 108, 111, 116, 115] : List UInt8)), .pointer (some ⟨bv0, 12, none⟩), .int .i64 1, .int .i64 24, .string (bs ([108, 105, 102, 101] : List UInt8)), .pointer (some ⟨bv0, 24, none⟩), .int .i64 1, .int .i64 100000]⟩, ⟨some ⟨bv2, 0, none⟩, 4, 1, [.string (bs ([102, 108, 111, 111, 114, 115] : List UInt8)), .pointer (some ⟨bv0, 0, none⟩), .int .i64 2, .int .i64 64]⟩, ⟨some ⟨bv3, 0, none⟩, 4, 1, [.string (bs ([99, 97, 114, 115] : List UInt8)), .pointer (some ⟨bv0, 2, none⟩), .int .i64 1, .int .i64 8]⟩, ⟨some ⟨bv4, 0, none⟩, 4, 1, [.string (bs ([115, 112, 101, 101, 100] : List UInt8)), .pointer (some ⟨bv0, 3, none⟩), .int .i64 1, .int .i64 20]⟩, ⟨some ⟨bv5, 0, none⟩, 4, 1, [.string (bs ([98, 114, 97, 107, 101] : List UInt8)), .pointer (some ⟨bv0, 4, none⟩), .int .i64 0, .int .i64 5]⟩, ⟨some ⟨bv6, 0, none⟩, 4, 1, [.string (bs ([116, 111, 108] : List UInt8)), .pointer (some ⟨bv0, 5, none⟩), .int .i64 0, .int .i64 20]⟩, ⟨some ⟨bv7, 0, none⟩, 4, 1, [.string (bs ([119, 105, 100, 116, 104] : List UInt8)), .pointer (some ⟨bv0, 6, none⟩), .int .i64 1, .int .i64 20]⟩, ⟨some ⟨bv8, 0, none⟩, 4, 1, [.string (bs ([100, 119, 101, 108, 108] : List UInt8)), .pointer (some ⟨bv0, 7, none⟩), .int .i64 1, .int .i64 50]⟩, ⟨some ⟨bv9, 0, none⟩, 4, 1, [.string (bs ([114, 101, 116, 114, 105, 101, 115] : List UInt8)), .pointer (some ⟨bv0, 8, none⟩), .int .i64 0, .int .i64 5]⟩, ⟨some ⟨bv10, 0, none⟩, 4, 1, [.string (bs ([101, 109, 112, 116, 121] : List UInt8)), .pointer (some ⟨bv0, 9, none⟩), .int .i64 0, .int .i64 10000]⟩, ⟨some ⟨bv11, 0, none⟩, 4, 1, [.string (bs ([102, 117, 108, 108] : List UInt8)), .pointer (some ⟨bv0, 10, none⟩), .int .i64 (IntKind.i64.wrap (zq + 1)), .int .i64 10000]⟩, ⟨some ⟨bv12, 0, none⟩, 4, 1, [.string (bs ([116, 114, 105, 112, 115] : List UInt8)), .pointer (some ⟨bv0, 11, none⟩), .int .i64 1, .int .i64 16]⟩]) ?_ (by exact ⟨rfl, rfl, rfl, rfl, trivial⟩) rfl
            refine WJ.cv 202 (b := true) (H0 := ⟨.nil, 0, 0⟩) rfl rfl rfl rfl rfl rfl rfl rfl ?_
            refine WJ.hd (v := .pointer (some ⟨bv1, 44, none⟩)) 208 rfl rfl rfl rfl (fun ids H' fr => opD_indexAddr rfl (evV_eq _ _ _ _ _ rfl) (evV_eq _ _ _ _ _ rfl) (idxLit (i := 11) u55 sz60 rfl rfl)) rfl ?_
            refine WJ.hd (v := .agg ⟨[.string (bs ([115, 108, 111, 116, 115] : List UInt8)), .pointer (some ⟨bv0, 12, none⟩), .int .i64 1, .int .i64 24]⟩) 200 rfl rfl rfl rfl (fun ids H' fr => opD_load rfl (evV_eq _ _ _ _ _ rfl) (fr.ldOwn (j := 1) rfl rfl)) rfl ?_
            refine WJ.adv 1 rfl ?_
            refine WJ.liftS (loc := []) rfl rfl (fun bv13 => ?_)
            refine WJ.sb 200 (j := 13) rfl rfl rfl rfl rfl rfl rfl rfl rfl rfl ?_
            refine WJ.dr 202 rfl gmix (by kernel_rfl) (by kernel_rfl) rfl ?_
            refine WD.hd (v := .pointer (some ⟨bv0, 12, none⟩)) rfl rfl rfl rfl (fun _ _ _ _ _ => side_no) (fun ids H' fr => opD_load rfl (evV_eq _ _ _ _ _ rfl) (fr.ldOwn (j := 13) rfl rfl)) rfl ?_
            refine WD.hd (v := .int .i64 zu) rfl rfl rfl rfl (fun _ _ _ _ _ => side_no) (fun ids H' fr => opD_load rfl (evV_eq _ _ _ _ _ rfl) (fr.ldOwn (j := 0) rfl rfl)) rfl ?_
            refine WD.hd (v := .int .i64 1) rfl rfl rfl rfl (fun _ _ _ _ _ => side_no) (fun ids H' fr => opD_load rfl (evV_eq _ _ _ _ _ rfl) (fr.ldOwn (j := 13) rfl rfl)) rfl ?_
            refine WD.hd (v := .int .i64 24) rfl rfl rfl rfl (fun _ _ _ _ _ => side_no) (fun ids H' fr => opD_load rfl (evV_eq _ _ _ _ _ rfl) (fr.ldOwn (j := 13) rfl rfl)) rfl ?_
            obtain ⟨t19u12, e19u12, hp⟩ := bindS hp
            refine WD.cl (R := R_4 t19u12) (fun hm h k => R_4.mono hm h k) rfl (fun ids H' fr => f31_ok e19u12) ?_
            rintro v B13 ⟨abB13, ivB13⟩ rfl
            refine ⟨_, rfl, ?_⟩
            replace z6 := z6.mono (Nat.le_refl _) (abB13.le (Nat.zero_le _))
            replace z7 := z7.mono (Nat.le_refl _) (abB13.le (Nat.zero_le _))
            replace z5 := z5.mono (Nat.le_refl _) (abB13.le (Nat.zero_le _))
            cases t19u12
            ·replace hp := (itS hp).2 Bool.false_ne_true
             refine WD.done rfl ?_
             obtain rfl := endS (show some _ = some r from hp)
             exact WJ.rt 205 rfl rfl rfl (fun ids H' fr => ⟨fr.ext0, rfl⟩)
            ·replace hp := (itS hp).1 rfl
             refine WD.done rfl ?_
             refine WJ.ro 207 rfl ?_
             refine WJ.re (I := [(1, .v (.pointer (some ⟨bv0, 0, none⟩))), (5, .v (.slice (some ⟨bv1, 0, none⟩) 13 13)), (6, .v (.int .i64 13)), (7, .v (.int .i64 12))]) (O := [⟨some ⟨bv0, 0, none⟩, 25, 1, [.int .i64 zn, .slice zr zt.length zs, .int .i64 zy, .int .i64 zz, .int .i64 z0, .int .i64 z1, .int .i64 zv, .int .i64 zw, .int .i64 zx, .int .i64 zq, .int .i64 z2, .int .i64 z3, .int .i64 zu, .slice zd za.length ze, .int .u64 zb, .int .i64 zc, .int .i64 zg, .int .u64 zf, .int .i64 zk, .int .i64 zm, .int .u64 zl, .int .i64 zo, .int .i64 zp, .slice zi zh.length zj, .int .i64 z4]⟩, ⟨some ⟨bv1, 0, none⟩, 52, 1, [.string (bs ([102, 108, 111, 111, 114, 115] : List UInt8)), .pointer (some ⟨bv0, 0, none⟩), .int .i64 2, .int .i64 64, .string (bs ([99, 97, 114, 115] : List UInt8)), .pointer (some ⟨bv0, 2, none⟩), .int .i64 1, .int .i64 8, .string (bs ([115, 112, 101, 101, 100] : List UInt8)), .pointer (some ⟨bv0, 3, none⟩), .int .i64 1, .int .i64 20, .string (bs ([98, 114, 97, 107, 101] : List UInt8)), .pointer (some ⟨bv0, 4, none⟩), .int .i64 0, .int .i64 5, .string (bs ([116, 111, 108] : List UInt8)), .pointer (some ⟨bv0, 5, none⟩), .int .i64 0, .int .i64 20, .string (bs ([119, 105, 100, 116, 104] : List UInt8)), .pointer (some ⟨bv0, 6, none⟩), .int .i64 1, .int .i64 20, .string (bs ([100, 119, 101, 108, 108] : List UInt8)), .pointer (some ⟨bv0, 7, none⟩), .int .i64 1, .int .i64 50, .string (bs ([114, 101, 116, 114, 105, 101, 115] : List UInt8)), .pointer (some ⟨bv0, 8, none⟩), .int .i64 0, .int .i64 5, .string (bs ([101, 109, 112, 116, 121] : List UInt8)), .pointer (some ⟨bv0, 9, none⟩), .int .i64 0, .int .i64 10000, .string (bs ([102, 117, 108, 108] : List UInt8)), .pointer (some ⟨bv0, 10, none⟩), .int .i64 (IntKind.i64.wrap (zq + 1)), .int .i64 10000, .string (bs ([116, 114, 105, 112, 115] : List UInt8)), .pointer (some ⟨bv0, 11, none⟩), .int .i64 1, .int .i64 16, .string (bs ([115, 108, 111, 116, 115] : List UInt8)), .pointer (some ⟨bv0, 12, none⟩), .int .i64 1, .int .i64 24, .string (bs ([108, 105, 102, 101] : List UInt8)), .pointer (some ⟨bv0, 24, none⟩), .int .i64 1, .int .i64 100000]⟩, ⟨some ⟨bv2, 0, none⟩, 4, 1, [.string (bs ([102, 108, 111, 111, 114, 115] : List UInt8)), .pointer (some ⟨bv0, 0, none⟩), .int .i64 2, .int .i64 64]⟩, ⟨some ⟨bv3, 0, none⟩, 4, 1, [.string (bs ([99, 97, 114, 115] : List UInt8)), .pointer (some ⟨bv0, 2, none⟩), .int .i64 1, .int .i64 8]⟩, ⟨some ⟨bv4, 0, none⟩, 4, 1, [.string (bs ([115, 112, 101, 101, 100] : List UInt8)), .pointer (some ⟨bv0, 3, none⟩), .int .i64 1, .int .i64 20]⟩, ⟨some ⟨bv5, 0, none⟩, 4, 1, [.string (bs ([98, 114, 97, 107, 101] : List UInt8)), .pointer (some ⟨bv0, 4, none⟩), .int .i64 0, .int .i64 5]⟩, ⟨some ⟨bv6, 0, none⟩, 4, 1, [.string (bs ([116, 111, 108] : List UInt8)), .pointer (some ⟨bv0, 5, none⟩), .int .i64 0, .int .i64 20]⟩, ⟨some ⟨bv7, 0, none⟩, 4, 1, [.string (bs ([119, 105, 100, 116, 104] : List UInt8)), .pointer (some ⟨bv0, 6, none⟩), .int .i64 1, .int .i64 20]⟩, ⟨some ⟨bv8, 0, none⟩, 4, 1, [.string (bs ([100, 119, 101, 108, 108] : List UInt8)), .pointer (some ⟨bv0, 7, none⟩), .int .i64 1, .int .i64 50]⟩, ⟨some ⟨bv9, 0, none⟩, 4, 1, [.string (bs ([114, 101, 116, 114, 105, 101, 115] : List UInt8)), .pointer (some ⟨bv0, 8, none⟩), .int .i64 0, .int .i64 5]⟩, ⟨some ⟨bv10, 0, none⟩, 4, 1, [.string (bs ([101, 109, 112, 116, 121] : List UInt8)), .pointer (some ⟨bv0, 9, none⟩), .int .i64 0, .int .i64 10000]⟩, ⟨some ⟨bv11, 0, none⟩, 4, 1, [.string (bs ([102, 117, 108, 108] : List UInt8)), .pointer (some ⟨bv0, 10, none⟩), .int .i64 (IntKind.i64.wrap (zq + 1)), .int .i64 10000]⟩, ⟨some ⟨bv12, 0, none⟩, 4, 1, [.string (bs ([116, 114, 105, 112, 115] : List UInt8)), .pointer (some ⟨bv0, 11, none⟩), .int .i64 1, .int .i64 16]⟩, ⟨some ⟨bv13, 0, none⟩, 4, 1, [.string (bs ([115, 108, 111, 116, 115] : List UInt8)), .pointer (some ⟨bv0, 12, none⟩), .int .i64 1, .int .i64 24]⟩]) ?_ (by exact ⟨rfl, rfl, rfl, rfl, trivial⟩) rfl
             refine WJ.cv 202 (b := true) (H0 := ⟨.nil, 0, 0⟩) rfl rfl rfl rfl rfl rfl rfl rfl ?_
             refine WJ.hd (v := .pointer (some ⟨bv1, 48, none⟩)) 208 rfl rfl rfl rfl (fun ids H' fr => opD_indexAddr rfl (evV_eq _ _ _ _ _ rfl) (evV_eq _ _ _ _ _ rfl) (idxLit (i := 12) u55 sz60 rfl rfl)) rfl ?_
             refine WJ.hd (v := .agg ⟨[.string (bs ([108, 105, 102, 101] : List UInt8)), .pointer (some ⟨bv0, 24, none⟩), .int .i64 1, .int .i64 100000]⟩) 200 rfl rfl rfl rfl (fun ids H' fr => opD_load rfl (evV_eq _ _ _ _ _ rfl) (fr.ldOwn (j := 1) rfl rfl)) rfl ?_
             refine WJ.adv 1 rfl ?_
             refine WJ.liftS (loc := []) rfl rfl (fun bv14 => ?_)
             refine WJ.sb 200 (j := 14) rfl rfl rfl rfl rfl rfl rfl rfl rfl rfl ?_
             refine WJ.dr 202 rfl gmix (by kernel_rfl) (by kernel_rfl) rfl ?_
             refine WD.hd (v := .pointer (some ⟨bv0, 24, none⟩)) rfl rfl rfl rfl (fun _ _ _ _ _ => side_no) (fun ids H' fr => opD_load rfl (evV_eq _ _ _ _ _ rfl) (fr.ldOwn (j := 14) rfl rfl)) rfl ?_
             refine WD.hd (v := .int .i64 z4) rfl rfl rfl rfl (fun _ _ _ _ _ => side_no) (fun ids H' fr => opD_load rfl (evV_eq _ _ _ _ _ rfl) (fr.ldOwn (j := 0) rfl rfl)) rfl ?_
             refine WD.hd (v := .int .i64 1) rfl rfl rfl rfl (fun _ _ _ _ _ => side_no) (fun ids H' fr => opD_load rfl (evV_eq _ _ _ _ _ rfl) (fr.ldOwn (j := 14) rfl rfl)) rfl ?_
             refine WD.hd (v := .int .i64 100000) rfl rfl rfl rfl (fun _ _ _ _ _ => side_no) (fun ids H' fr => opD_load rfl (evV_eq _ _ _ _ _ rfl) (fr.ldOwn (j := 14) rfl rfl)) rfl ?_
             obtain ⟨t19u13, e19u13, hp⟩ := bindS hp
             refine WD.cl (R := R_4 t19u13) (fun hm h k => R_4.mono hm h k) rfl (fun ids H' fr => f31_ok e19u13) ?_
             rintro v B14 ⟨abB14, ivB14⟩ rfl
             refine ⟨_, rfl, ?_⟩
             replace z6 := z6.mono (Nat.le_refl _) (abB14.le (Nat.zero_le _))
             replace z7 := z7.mono (Nat.le_refl _) (abB14.le (Nat.zero_le _))
             replace z5 := z5.mono (Nat.le_refl _) (abB14.le (Nat.zero_le _))
             cases t19u13
             ·replace hp := (itS hp).2 Bool.false_ne_true
              refine WD.done rfl ?_
              obtain rfl := endS (show some _ = some r from hp)
              exact WJ.rt 205 rfl rfl rfl (fun ids H' fr => ⟨fr.ext0, rfl⟩)
             ·replace hp := (itS hp).1 rfl
              refine WD.done rfl ?_
              refine WJ.ro 207 rfl ?_
              refine WJ.re (I := [(1, .v (.pointer (some ⟨bv0, 0, none⟩))), (5, .v (.slice (some ⟨bv1, 0, none⟩) 13 13)), (6, .v (.int .i64 13)), (7, .v (.int .i64 13))]) (O := [⟨some ⟨bv0, 0, none⟩, 25, 1, [.int .i64 zn, .slice zr zt.length zs, .int .i64 zy, .int .i64 zz, .int .i64 z0, .int .i64 z1, .int .i64 zv, .int .i64 zw, .int .i64 zx, .int .i64 zq, .int .i64 z2, .int .i64 z3, .int .i64 zu, .slice zd za.length ze, .int .u64 zb, .int .i64 zc, .int .i64 zg, .int .u64 zf, .int .i64 zk, .int .i64 zm, .int .u64 zl, .int .i64 zo, .int .i64 zp, .slice zi zh.length zj, .int .i64 z4]⟩, ⟨some ⟨bv1, 0, none⟩, 52, 1, [.string (bs ([102, 108, 111, 111, 114, 115] : List UInt8)), .pointer (some ⟨bv0, 0, none⟩), .int .i64 2, .int .i64 64, .string (bs ([99, 97, 114, 115] : List UInt8)), .pointer (some ⟨bv0, 2, none⟩), .int .i64 1, .int .i64 8, .string (bs ([115, 112, 101, 101, 100] : List UInt8)), .pointer (some ⟨bv0, 3, none⟩), .int .i64 1, .int .i64 20, .string (bs ([98, 114, 97, 107, 101] : List UInt8)), .pointer (some ⟨bv0, 4, none⟩), .int .i64 0, .int .i64 5, .string (bs ([116, 111, 108] : List UInt8)), .pointer (some ⟨bv0, 5, none⟩), .int .i64 0, .int .i64 20, .string (bs ([119, 105, 100, 116, 104] : List UInt8)), .pointer (some ⟨bv0, 6, none⟩), .int .i64 1, .int .i64 20, .string (bs ([100, 119, 101, 108, 108] : List UInt8)), .pointer (some ⟨bv0, 7, none⟩), .int .i64 1, .int .i64 50, .string (bs ([114, 101, 116, 114, 105, 101, 115] : List UInt8)), .pointer (some ⟨bv0, 8, none⟩), .int .i64 0, .int .i64 5, .string (bs ([101, 109, 112, 116, 121] : List UInt8)), .pointer (some ⟨bv0, 9, none⟩), .int .i64 0, .int .i64 10000, .string (bs ([102, 117, 108, 108] : List UInt8)), .pointer (some ⟨bv0, 10, none⟩), .int .i64 (IntKind.i64.wrap (zq + 1)), .int .i64 10000, .string (bs ([116, 114, 105, 112, 115] : List UInt8)), .pointer (some ⟨bv0, 11, none⟩), .int .i64 1, .int .i64 16, .string (bs ([115, 108, 111, 116, 115] : List UInt8)), .pointer (some ⟨bv0, 12, none⟩), .int .i64 1, .int .i64 24, .string (bs ([108, 105, 102, 101] : List UInt8)), .pointer (some ⟨bv0, 24, none⟩), .int .i64 1, .int .i64 100000]⟩, ⟨some ⟨bv2, 0, none⟩, 4, 1, [.string (bs ([102, 108, 111, 111, 114, 115] : List UInt8)), .pointer (some ⟨bv0, 0, none⟩), .int .i64 2, .int .i64 64]⟩, ⟨some ⟨bv3, 0, none⟩, 4, 1, [.string (bs ([99, 97, 114, 115] : List UInt8)), .pointer (some ⟨bv0, 2, none⟩), .int .i64 1, .int .i64 8]⟩, ⟨some ⟨bv4, 0, none⟩, 4, 1, [.string (bs ([115, 112, 101, 101, 100] : List UInt8)), .pointer (some ⟨bv0, 3, none⟩), .int .i64 1, .int .i64 20]⟩, ⟨some ⟨bv5, 0, none⟩, 4, 1, [.string (bs ([98, 114, 97, 107, 101] : List UInt8)), .pointer (some ⟨bv0, 4, none⟩), .int .i64 0, .int .i64 5]⟩, ⟨some ⟨bv6, 0, none⟩, 4, 1, [.string (bs ([116, 111, 108] : List UInt8)), .pointer (some ⟨bv0, 5, none⟩), .int .i64 0, .int .i64 20]⟩, ⟨some ⟨bv7, 0, none⟩, 4, 1, [.string (bs ([119, 105, 100, 116, 104] : List UInt8)), .pointer (some ⟨bv0, 6, none⟩), .int .i64 1, .int .i64 20]⟩, ⟨some ⟨bv8, 0, none⟩, 4, 1, [.string (bs ([100, 119, 101, 108, 108] : List UInt8)), .pointer (some ⟨bv0, 7, none⟩), .int .i64 1, .int .i64 50]⟩, ⟨some ⟨bv9, 0, none⟩, 4, 1, [.string (bs ([114, 101, 116, 114, 105, 101, 115] : List UInt8)), .pointer (some ⟨bv0, 8, none⟩), .int .i64 0, .int .i64 5]⟩, ⟨some ⟨bv10, 0, none⟩, 4, 1, [.string (bs ([101, 109, 112, 116, 121] : List UInt8)), .pointer (some ⟨bv0, 9, none⟩), .int .i64 0, .int .i64 10000]⟩, ⟨some ⟨bv11, 0, none⟩, 4, 1, [.string (bs ([102, 117, 108, 108] : List UInt8)), .pointer (some ⟨bv0, 10, none⟩), .int .i64 (IntKind.i64.wrap (zq + 1)), .int .i64 10000]⟩, ⟨some ⟨bv12, 0, none⟩, 4, 1, [.string (bs ([116, 114, 105, 112, 115] : List UInt8)), .pointer (some ⟨bv0, 11, none⟩), .int .i64 1, .int .i64 16]⟩, ⟨some ⟨bv13, 0, none⟩, 4, 1, [.string (bs ([115, 108, 111, 116, 115] : List UInt8)), .pointer (some ⟨bv0, 12, none⟩), .int .i64 1, .int .i64 24]⟩, ⟨some ⟨bv14, 0, none⟩, 4, 1, [.string (bs ([108, 105, 102, 101] : List UInt8)), .pointer (some ⟨bv0, 24, none⟩), .int .i64 1, .int .i64 100000]⟩]) ?_ (by exact ⟨rfl, rfl, rfl, rfl, trivial⟩) rfl
              refine WJ.cv 202 (b := false) (H0 := ⟨.nil, 0, 0⟩) rfl rfl rfl rfl rfl rfl rfl rfl ?_
              refine WJ.hd (v := .agg ⟨[.int .i64 zn, .slice zr zt.length zs, .int .i64 zy, .int .i64 zz, .int .i64 z0, .int .i64 z1, .int .i64 zv, .int .i64 zw, .int .i64 zx, .int .i64 zq, .int .i64 z2, .int .i64 z3, .int .i64 zu, .slice zd za.length ze, .int .u64 zb, .int .i64 zc, .int .i64 zg, .int .u64 zf, .int .i64 zk, .int .i64 zm, .int .u64 zl, .int .i64 zo, .int .i64 zp, .slice zi zh.length zj, .int .i64 z4]⟩) 206 rfl rfl rfl rfl (fun ids H' fr => opD_load rfl (evV_eq _ _ _ _ _ rfl) (fr.ldOwn (j := 0) rfl rfl)) rfl ?_
              obtain ⟨t23u1, e23u1, hp⟩ := bindS hp
              refine WJ.cl 200 (R := R_35 t23u1) (fun hm h k => R_35.mono hm h k) rfl (fun ids H' fr => f32_ok (x0 := (Config.mk zn zt zy zz z0 z1 zv zw zx zq z2 z3 zu za zb zc zg zf zk zm zl zo zp zh z4)) (z6.mono (Nat.zero_le _) (fr.abv.le (Nat.zero_le _))) (z7.mono (Nat.zero_le _) (fr.abv.le (Nat.zero_le _))) (z5.mono (Nat.zero_le _) (fr.abv.le (Nat.zero_le _))) e23u1) ?_
              rintro v B15 ⟨abB15, ivB15⟩ rfl
              refine ⟨_, rfl, ?_⟩
              replace z6 := z6.mono (Nat.le_refl _) (abB15.le (Nat.zero_le _))
              replace z7 := z7.mono (Nat.le_refl _) (abB15.le (Nat.zero_le _))
              replace z5 := z5.mono (Nat.le_refl _) (abB15.le (Nat.zero_le _))
              obtain rfl := endS (show some _ = some r from hp)
              exact WJ.rt 202 rfl rfl rfl (fun ids H' fr => ⟨fr.ext0, rfl⟩)
end
end Go.Proofs.YthemdclmlcblbaaDoor
