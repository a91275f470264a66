import Derived.Test.YtgmejigjajcbfaaGreatDoorSM
import Derived.Test.YtgmejigjajcbfaaGreatDoorST
import Derived.Test.YtgmejigjajcbfaaGreatDoorD51
set_option linter.unusedVariables false
set_option linter.unusedSimpArgs false
namespace Go.Proofs.YtgmejigjajcbfaaGreatDoor
open Go Go.Det Go.RowKit
noncomputable section
/-! 51 tipstaff/row.blank -/
def f51 (x0 : Int) : Option Bool :=
  if x0 = 32 then
    some true
  else
    (some (x0 == 9)).bind fun t7 =>
    some t7
set_option maxRecDepth 20000 in
theorem f51_ok {H : Hp} {x0 : Int} {r : Bool} (hp : f51 x0 = some r) :
    SCall Tryz.prog 51 [.int .u8 x0] H (Ret fun v H' => Ext H H' ∧ R_4 r H.next H' v) := by
  unfold f51 at hp
  replace hp := topS hp
  refine SCall.g Tryz.func51 rfl rfl rfl rfl rfl (l := [(0, .v (.int .u8 x0))]) (fun _ => rfl) (fun B abB => ?_)
  refine WJ.ci 207 hp rfl rfl rfl rfl rfl rfl rfl rfl rfl (fun hc4 hp => ?_) (fun hc4 hp => ?_)
  · obtain rfl := endS (show some _ = some r from hp)
    exact WJ.rt 206 rfl rfl rfl (fun ids H' fr => ⟨fr.ext0, rfl⟩)
  · obtain ⟨t7, e7, hp⟩ := bindS hp
    refine WJ.cv 202 (b := t7) (H0 := ⟨.nil, 0, 0⟩) rfl rfl rfl rfl rfl rfl (by rw [← endS e7]; exact rfl) rfl ?_
    obtain rfl := endS (show some _ = some r from hp)
    exact WJ.rt 203 rfl rfl rfl (fun ids H' fr => ⟨fr.ext0, rfl⟩)
/-! 42 tipstaff/row.letter -/
def f42 (x0 : Int) : Option Bool :=
  if x0 ≥ 97 then
    if x0 ≤ 122 then
      some true
    else
      if x0 ≥ 65 then
        (some (decide (x0 ≤ 90))).bind fun t14 =>
        some t14
      else
        some false
  else
    if x0 ≥ 65 then
      (some (decide (x0 ≤ 90))).bind fun t14 =>
      some t14
    else
      some false
set_option maxRecDepth 20000 in
theorem f42_ok {H : Hp} {x0 : Int} {r : Bool} (hp : f42 x0 = some r) :
    SCall Tryz.prog 42 [.int .i32 x0] H (Ret fun v H' => Ext H H' ∧ R_4 r H.next H' v) := by
  unfold f42 at hp
  replace hp := topS hp
  refine SCall.g Tryz.func42 rfl rfl rfl rfl rfl (l := [(0, .v (.int .i32 x0))]) (fun _ => rfl) (fun B abB => ?_)
  refine WJ.ci 207 hp rfl rfl rfl rfl rfl rfl rfl rfl rfl (fun hc4 hp => ?_) (fun hc4 hp => ?_)
  · refine WJ.ci 202 hp rfl rfl rfl rfl rfl rfl rfl rfl rfl (fun hc7 hp => ?_) (fun hc7 hp => ?_)
    · obtain rfl := endS (show some _ = some r from hp)
      exact WJ.rt 211 rfl rfl rfl (fun ids H' fr => ⟨fr.ext0, rfl⟩)
    · refine WJ.ci 203 hp rfl rfl rfl rfl rfl rfl rfl rfl rfl (fun hc11 hp => ?_) (fun hc11 hp => ?_)
      · obtain ⟨t14, e14, hp⟩ := bindS hp
        refine WJ.cv 202 (b := t14) (H0 := ⟨.nil, 0, 0⟩) rfl rfl rfl rfl rfl rfl (by rw [← endS e14]; exact rfl) rfl ?_
        obtain rfl := endS (show some _ = some r from hp)
        exact WJ.rt 204 rfl rfl rfl (fun ids H' fr => ⟨fr.ext0, rfl⟩)
      · obtain rfl := endS (show some _ = some r from hp)
        exact WJ.rt 207 rfl rfl rfl (fun ids H' fr => ⟨fr.ext0, rfl⟩)
  · refine WJ.ci 206 hp rfl rfl rfl rfl rfl rfl rfl rfl rfl (fun hc11 hp => ?_) (fun hc11 hp => ?_)
    · obtain ⟨t14, e14, hp⟩ := bindS hp
      refine WJ.cv 202 (b := t14) (H0 := ⟨.nil, 0, 0⟩) rfl rfl rfl rfl rfl rfl (by rw [← endS e14]; exact rfl) rfl ?_
      obtain rfl := endS (show some _ = some r from hp)
      exact WJ.rt 204 rfl rfl rfl (fun ids H' fr => ⟨fr.ext0, rfl⟩)
    · obtain rfl := endS (show some _ = some r from hp)
      exact WJ.rt 207 rfl rfl rfl (fun ids H' fr => ⟨fr.ext0, rfl⟩)
/-! 70 tipstaff/row.digit -/
def f70 (x0 : Int) : Option (Int × Bool) :=
  (f85 ([48, 49, 50, 51, 52, 53, 54, 55, 56, 57, 97, 98, 99, 100, 101, 102] : List UInt8) (bits .or .u8 x0 32)).bind fun t7 =>
  (if x0 ≥ 48 then
    if x0 ≤ 57 then
      (f85 ([48, 49, 50, 51, 52, 53, 54, 55, 56, 57, 97, 98, 99, 100, 101, 102] : List UInt8) x0).bind fun t15 =>
      some (t15)
    else
      some (t7)
  else
    some (t7)).bind fun x4_1 =>
    if x4_1 ≥ 0 then
      if x0 ≥ 48 then
        if x0 ≤ 57 then
          some (IntKind.u8.wrap (gmax x4_1 0), true)
        else
          (f42 (IntKind.i32.wrap x0)).bind fun t31 =>
          some (IntKind.u8.wrap (gmax x4_1 0), t31)
      else
        (f42 (IntKind.i32.wrap x0)).bind fun t31 =>
        some (IntKind.u8.wrap (gmax x4_1 0), t31)
    else
      some (IntKind.u8.wrap (gmax x4_1 0), false)
set_option maxRecDepth 20000 in
theorem f70_ok {H : Hp} {x0 : Int} {r : Int × Bool} (hp : f70 x0 = some r) :
    SCall Tryz.prog 70 [.int .u8 x0] H (Ret fun v H' => Ext H H' ∧ R_5_4 r H.next H' v) := by
  unfold f70 at hp
  replace hp := topS hp
  refine SCall.g Tryz.func70 rfl rfl rfl rfl rfl (l := [(0, .v (.int .u8 x0))]) (fun _ => rfl) (fun B abB => ?_)
  obtain ⟨t7, e7, hp⟩ := bindS hp
  refine WJ.cl 209 (R := R_3 t7) (fun hm h k => R_3.mono hm h k) rfl (fun ids H' fr => f85_ok e7) ?_
  rintro v B1 ⟨abB1, ivB1⟩ rfl
  refine ⟨_, rfl, ?_⟩
  refine WJ.adv 4 rfl ?_
  obtain ⟨K1, hK1, hp⟩ : ∃ K, K = _ ∧ Option.bind _ K = some r := ⟨_, rfl, cutS hp⟩
  refine WJ.cut 2 (α := Int × Hp) (fun y => [(0, .v (.int .u8 x0)), (4, .v (.int .i64 y.1))]) (fun y => []) (fun y => []) (fun y => y.2) (fun y => K1 ((y.1)) = some r) ?_ (fun j1 => ?_)
  · rintro ⟨x4_1, B3⟩ hp
    subst hK1
    show WJ _ _ _ B3 [] _ _ ⟨[(0, .v (.int .u8 x0)), (4, .v (.int .i64 x4_1))], [], true, 0⟩
    refine WJ.hd (v := .int .i64 (gmax x4_1 0)) 203 rfl rfl rfl rfl (fun ids H' fr => opD_max rfl rfl rfl (evV_eq (v := .v (.int .i64 x4_1)) _ _ _ _ _ rfl) (evV_eq (v := .v (.int .i64 0)) _ _ _ _ _ rfl)) rfl ?_
    refine WJ.ci 202 hp rfl rfl rfl rfl rfl rfl rfl rfl rfl (fun hc20 hp => ?_) (fun hc20 hp => ?_)
    · refine WJ.ci 202 hp rfl rfl rfl rfl rfl rfl rfl rfl rfl (fun hc23 hp => ?_) (fun hc23 hp => ?_)
      · refine WJ.ci 202 hp rfl rfl rfl rfl rfl rfl rfl rfl rfl (fun hc26 hp => ?_) (fun hc26 hp => ?_)
        · obtain rfl := endS (show some _ = some r from hp)
          exact WJ.rt 210 rfl rfl rfl (fun ids H' fr => ⟨fr.ext0, rfl⟩)
        · obtain ⟨t31, e31, hp⟩ := bindS hp
          refine WJ.cl 204 (R := R_4 t31) (fun hm h k => R_4.mono hm h k) rfl (fun ids H' fr => f42_ok e31) ?_
          rintro v B4 ⟨abB4, ivB4⟩ rfl
          refine ⟨_, rfl, ?_⟩
          obtain rfl := endS (show some _ = some r from hp)
          exact WJ.rt 205 rfl rfl rfl (fun ids H' fr => ⟨fr.ext0, rfl⟩)
      · obtain ⟨t31, e31, hp⟩ := bindS hp
        refine WJ.cl 207 (R := R_4 t31) (fun hm h k => R_4.mono hm h k) rfl (fun ids H' fr => f42_ok e31) ?_
        rintro v B5 ⟨abB5, ivB5⟩ rfl
        refine ⟨_, rfl, ?_⟩
        obtain rfl := endS (show some _ = some r from hp)
        exact WJ.rt 205 rfl rfl rfl (fun ids H' fr => ⟨fr.ext0, rfl⟩)
    · obtain rfl := endS (show some _ = some r from hp)
      exact WJ.rt 216 rfl rfl rfl (fun ids H' fr => ⟨fr.ext0, rfl⟩)
  · refine WJ.ci 202 hp rfl rfl rfl rfl rfl rfl rfl rfl rfl (fun hc9 hp => ?_) (fun hc9 hp => ?_)
    · refine WJ.ci 202 hp rfl rfl rfl rfl rfl rfl rfl rfl rfl (fun hc12 hp => ?_) (fun hc12 hp => ?_)
      · obtain ⟨t15, e15, hp⟩ := bindS hp
        refine WJ.cl 205 (R := R_3 t15) (fun hm h k => R_3.mono hm h k) rfl (fun ids H' fr => f85_ok e15) ?_
        rintro v B2 ⟨abB2, ivB2⟩ rfl
        refine ⟨_, rfl, ?_⟩
        exact WJ.goto 2 (j1 (t15, B2) hp) rfl rfl (by exact ⟨rfl, rfl, trivial⟩) rfl rfl rfl
      · exact WJ.goto 4 (j1 (t7, B1) hp) rfl rfl (by exact ⟨rfl, rfl, trivial⟩) rfl rfl rfl
    · exact WJ.goto 7 (j1 (t7, B1) hp) rfl rfl (by exact ⟨rfl, rfl, trivial⟩) rfl rfl rfl
/-! 56 tipstaff/row.escape -/
def f56 (x0 : List UInt8) : Option (Int × Int) :=
  if x0 = ([] : List UInt8) then
    some (0, 0)
  else
    (rd x0 0).bind fun b13 =>
    if ((b13.toNat : Nat) : Int) = 34 then
      (rd x0 0).bind fun b21 =>
      some (((b21.toNat : Nat) : Int), 1)
    else
      (rd x0 0).bind fun b17 =>
      if ((b17.toNat : Nat) : Int) = 92 then
        (rd x0 0).bind fun b21 =>
        some (((b21.toNat : Nat) : Int), 1)
      else
        (rd x0 0).bind fun b24 =>
        if ((b24.toNat : Nat) : Int) = 120 then
          if (x0.length : Int) < 3 then
            some (0, 0)
          else
            (rd x0 1).bind fun b33 =>
            (f70 ((b33.toNat : Nat) : Int)).bind fun (t34_0, t34_1) =>
            (rd x0 2).bind fun b39 =>
            (f70 ((b39.toNat : Nat) : Int)).bind fun (t40_0, t40_1) =>
            if t34_1 then
              if t40_1 then
                some (bits .or .u8 (gshl .u8 t34_0 4) t40_0, 3)
              else
                some (0, 0)
            else
              some (0, 0)
        else
          some (0, 0)
set_option maxRecDepth 20000 in
theorem f56_ok {H : Hp} {x0 : List UInt8} {r : Int × Int} (hp : f56 x0 = some r) :
    SCall Tryz.prog 56 [.string (bs x0)] H (Ret fun v H' => Ext H H' ∧ R_5_3 r H.next H' v) := by
  unfold f56 at hp
  replace hp := topS hp
  refine SCall.g Tryz.func56 rfl rfl rfl rfl rfl (l := [(0, .v (.string (bs x0)))]) (fun _ => rfl) (fun B abB => ?_)
  refine WJ.ci 210 hp rfl rfl rfl rfl rfl rfl (opD_streq rfl rfl rfl) rfl rfl (fun hc10 hp => ?_) (fun hc10 hp => ?_)
  · obtain rfl := endS (show some _ = some r from hp)
    exact WJ.rt 208 rfl rfl rfl (fun ids H' fr => ⟨fr.ext0, rfl⟩)
  · obtain ⟨b13, e13, hp⟩ := bindS hp
    refine WJ.hd (v := .int .u8 ((b13.toNat : Nat) : Int)) 206 rfl rfl rfl rfl (fun ids H' fr => opD_index rfl (evV_eq _ _ _ _ _ rfl) (evV_eq _ _ _ _ _ rfl) (sidx us9 e13)) rfl ?_
    refine WJ.ci 200 hp rfl rfl rfl rfl rfl rfl rfl rfl rfl (fun hc14 hp => ?_) (fun hc14 hp => ?_)
    · obtain ⟨b21, e21, hp⟩ := bindS hp
      refine WJ.hd (v := .int .u8 ((b21.toNat : Nat) : Int)) 211 rfl rfl rfl rfl (fun ids H' fr => opD_index rfl (evV_eq _ _ _ _ _ rfl) (evV_eq _ _ _ _ _ rfl) (sidx us9 e21)) rfl ?_
      obtain rfl := endS (show some _ = some r from hp)
      exact WJ.rt 203 rfl rfl rfl (fun ids H' fr => ⟨fr.ext0, rfl⟩)
    · obtain ⟨b17, e17, hp⟩ := bindS hp
      refine WJ.hd (v := .int .u8 ((b17.toNat : Nat) : Int)) 202 rfl rfl rfl rfl (fun ids H' fr => opD_index rfl (evV_eq _ _ _ _ _ rfl) (evV_eq _ _ _ _ _ rfl) (sidx us9 e17)) rfl ?_
      refine WJ.ci 200 hp rfl rfl rfl rfl rfl rfl rfl rfl rfl (fun hc18 hp => ?_) (fun hc18 hp => ?_)
      · obtain ⟨b21, e21, hp⟩ := bindS hp
        refine WJ.hd (v := .int .u8 ((b21.toNat : Nat) : Int)) 207 rfl rfl rfl rfl (fun ids H' fr => opD_index rfl (evV_eq _ _ _ _ _ rfl) (evV_eq _ _ _ _ _ rfl) (sidx us9 e21)) rfl ?_
        obtain rfl := endS (show some _ = some r from hp)
        exact WJ.rt 203 rfl rfl rfl (fun ids H' fr => ⟨fr.ext0, rfl⟩)
      · obtain ⟨b24, e24, hp⟩ := bindS hp
        refine WJ.hd (v := .int .u8 ((b24.toNat : Nat) : Int)) 207 rfl rfl rfl rfl (fun ids H' fr => opD_index rfl (evV_eq _ _ _ _ _ rfl) (evV_eq _ _ _ _ _ rfl) (sidx us9 e24)) rfl ?_
        refine WJ.cn 200 hp rfl rfl rfl rfl rfl rfl rfl rfl rfl (fun hc25 hp => ?_) (fun hc25 hp => ?_)
        · obtain rfl := endS (show some _ = some r from hp)
          exact WJ.rt 213 rfl rfl rfl (fun ids H' fr => ⟨fr.ext0, rfl⟩)
        · refine WJ.ci 203 hp rfl rfl rfl rfl rfl rfl rfl rfl rfl (fun hc29 hp => ?_) (fun hc29 hp => ?_)
          · obtain rfl := endS (show some _ = some r from hp)
            exact WJ.rt 209 rfl rfl rfl (fun ids H' fr => ⟨fr.ext0, rfl⟩)
          · obtain ⟨b33, e33, hp⟩ := bindS hp
            refine WJ.hd (v := .int .u8 ((b33.toNat : Nat) : Int)) 209 rfl rfl rfl rfl (fun ids H' fr => opD_index rfl (evV_eq _ _ _ _ _ rfl) (evV_eq _ _ _ _ _ rfl) (sidx us9 e33)) rfl ?_
            obtain ⟨⟨t34_0, t34_1⟩, e34, hp⟩ := bindS hp
            refine WJ.cl 200 (R := R_5_4 ⟨t34_0, t34_1⟩) (fun hm h k => R_5_4.mono hm h k) rfl (fun ids H' fr => f70_ok e34) ?_
            rintro v B1 ⟨abB1, ivB1⟩ rfl
            refine ⟨_, rfl, ?_⟩
            obtain ⟨b39, e39, hp⟩ := bindS hp
            refine WJ.hd (v := .int .u8 ((b39.toNat : Nat) : Int)) 209 rfl rfl rfl rfl (fun ids H' fr => opD_index rfl (evV_eq _ _ _ _ _ rfl) (evV_eq _ _ _ _ _ rfl) (sidx us9 e39)) rfl ?_
            obtain ⟨⟨t40_0, t40_1⟩, e40, hp⟩ := bindS hp
            refine WJ.cl 200 (R := R_5_4 ⟨t40_0, t40_1⟩) (fun hm h k => R_5_4.mono hm h k) rfl (fun ids H' fr => f70_ok e40) ?_
            rintro v B2 ⟨abB2, ivB2⟩ rfl
            refine ⟨_, rfl, ?_⟩
            cases t34_1
            · replace hp := (itS hp).2 Bool.false_ne_true
              obtain rfl := endS (show some _ = some r from hp)
              exact WJ.rt 222 rfl rfl rfl (fun ids H' fr => ⟨fr.ext0, rfl⟩)
            · replace hp := (itS hp).1 rfl
              cases t40_1
              · replace hp := (itS hp).2 Bool.false_ne_true
                obtain rfl := endS (show some _ = some r from hp)
                exact WJ.rt 222 rfl rfl rfl (fun ids H' fr => ⟨fr.ext0, rfl⟩)
              · replace hp := (itS hp).1 rfl
                refine WJ.hd (v := .int .u8 (gshl .u8 t34_0 4)) 221 rfl rfl rfl rfl (fun ids H' fr => opD_bin rfl (evV_eq _ _ _ _ _ rfl) (evV_eq _ _ _ _ _ rfl) (bin_shl (by decide))) rfl ?_
                obtain rfl := endS (show some _ = some r from hp)
                exact WJ.rt 205 rfl rfl rfl (fun ids H' fr => ⟨fr.ext0, rfl⟩)
/-! 37 tipstaff/row.plain -/
def f37 (x0 : Int) (x1 : Int) : Option Bool :=
  if x0 = 34 then
    some false
  else
    if x0 = 92 then
      some false
    else
      if x1 = 1 then
        if x0 ≥ 32 then
          (some (decide (x0 ≤ 126))).bind fun t19 =>
          some t19
        else
          some false
      else
        (some (decide (x0 ≥ 160))).bind fun t22 =>
        some t22
set_option maxRecDepth 20000 in
theorem f37_ok {H : Hp} {x0 : Int} {x1 : Int} {r : Bool} (hp : f37 x0 x1 = some r) :
    SCall Tryz.prog 37 [.int .i32 x0, .int .i64 x1] H (Ret fun v H' => Ext H H' ∧ R_4 r H.next H' v) := by
  unfold f37 at hp
  replace hp := topS hp
  refine SCall.g Tryz.func37 rfl rfl rfl rfl rfl (l := [(0, .v (.int .i32 x0)), (1, .v (.int .i64 x1))]) (fun _ => rfl) (fun B abB => ?_)
  refine WJ.ci 209 hp rfl rfl rfl rfl rfl rfl rfl rfl rfl (fun hc7 hp => ?_) (fun hc7 hp => ?_)
  · obtain rfl := endS (show some _ = some r from hp)
    exact WJ.rt 211 rfl rfl rfl (fun ids H' fr => ⟨fr.ext0, rfl⟩)
  · refine WJ.ci 202 hp rfl rfl rfl rfl rfl rfl rfl rfl rfl (fun hc10 hp => ?_) (fun hc10 hp => ?_)
    · obtain rfl := endS (show some _ = some r from hp)
      exact WJ.rt 208 rfl rfl rfl (fun ids H' fr => ⟨fr.ext0, rfl⟩)
    · refine WJ.ci 207 hp rfl rfl rfl rfl rfl rfl rfl rfl rfl (fun hc14 hp => ?_) (fun hc14 hp => ?_)
      · refine WJ.ci 206 hp rfl rfl rfl rfl rfl rfl rfl rfl rfl (fun hc16 hp => ?_) (fun hc16 hp => ?_)
        · obtain ⟨t19, e19, hp⟩ := bindS hp
          refine WJ.cv 202 (b := t19) (H0 := ⟨.nil, 0, 0⟩) rfl rfl rfl rfl rfl rfl (by rw [← endS e19]; exact rfl) rfl ?_
          obtain rfl := endS (show some _ = some r from hp)
          exact WJ.rt 203 rfl rfl rfl (fun ids H' fr => ⟨fr.ext0, rfl⟩)
        · obtain rfl := endS (show some _ = some r from hp)
          exact WJ.rt 206 rfl rfl rfl (fun ids H' fr => ⟨fr.ext0, rfl⟩)
      · obtain ⟨t22, e22, hp⟩ := bindS hp
        refine WJ.cv 208 (b := t22) (H0 := ⟨.nil, 0, 0⟩) rfl rfl rfl rfl rfl rfl (by rw [← endS e22]; exact rfl) rfl ?_
        obtain rfl := endS (show some _ = some r from hp)
        exact WJ.rt 202 rfl rfl rfl (fun ids H' fr => ⟨fr.ext0, rfl⟩)
/-! 31 tipstaff/row.unquote -/
def f31_l1 (x0 : List UInt8) : Nat → (List UInt8) → Int → Option (((List UInt8) × Int) ⊕ ((List UInt8)))
  | 0, _, _ => none
  | n + 1, l1_h3, x5_h3 =>
    if x5_h3 < (x0.length : Int) then
      (sub x0 x5_h3 (x0.length : Int)).bind fun s24u1 =>
      (f35 s24u1).bind fun (t25u1_0, t25u1_1) =>
      if t25u1_0 = 34 then
        (apd 1 l1_h3 ([] : List UInt8)).bind fun lB31u1 =>
        some (Sum.inl ((l1_h3, IntKind.i64.wrap (x5_h3 + 1)) : (List UInt8) × Int))
      else
        if t25u1_0 = 92 then
          (sub x0 (IntKind.i64.wrap (x5_h3 + 1)) (x0.length : Int)).bind fun s41u1 =>
          (f56 s41u1).bind fun (t42u1_0, t42u1_1) =>
          if t42u1_1 = 0 then
            some (Sum.inr l1_h3)
          else
            (c8 t42u1_0).bind fun uB48u1 =>
            (apd 1 l1_h3 ([uB48u1])).bind fun lB48u1 =>
            f31_l1 x0 n lB48u1 (IntKind.i64.wrap (x5_h3 + (IntKind.i64.wrap (1 + t42u1_1))))
        else
          (f37 t25u1_0 t25u1_1).bind fun t56 =>
          if t56 then
            (sub x0 x5_h3 (IntKind.i64.wrap (x5_h3 + t25u1_1))).bind fun s63 =>
            (apd 1 l1_h3 s63).bind fun lB64 =>
            f31_l1 x0 n lB64 (IntKind.i64.wrap (x5_h3 + t25u1_1))
          else
            some (Sum.inr l1_h3)
    else
      some (Sum.inr l1_h3)

def f31 (k : Nat) (x0 : List UInt8) : Option ((List UInt8) × Int) :=
  if x0 = ([] : List UInt8) then
    some (([] : List UInt8), 0)
  else
    (rd x0 0).bind fun b14 =>
    if ((b14.toNat : Nat) : Int) = 34 then
      (f31_l1 x0 k ([]) 1).bind fun s => match s with
        | .inl st => some st
        | .inr l1_3 => 
          some (([] : List UInt8), 0)
    else
      some (([] : List UInt8), 0)
set_option maxHeartbeats 3200000 in
set_option maxRecDepth 20000 in
theorem f31_ok {k : Nat} {H : Hp} {x0 : List UInt8} {r : (List UInt8) × Int} (hp : f31 k x0 = some r) :
    SCall Tryz.prog 31 [.string (bs x0)] H (Ret fun v H' => Ext H H' ∧ R_9_3 r H.next H' v) := by
  unfold f31 at hp
  replace hp := topS hp
  refine SCall.g Tryz.func31 rfl rfl rfl rfl rfl (l := [(0, .v (.string (bs x0)))]) (fun _ => rfl) (fun B abB => ?_)
  refine WJ.nb (U := 5) 208 rfl rfl rfl rfl rfl bzero bis rfl rfl ?_
  intro bw4
  refine ⟨_, rfl, ?_⟩
  refine WJ.ci 205 hp rfl rfl rfl rfl rfl rfl (opD_streq rfl rfl rfl) rfl rfl (fun hc11 hp => ?_) (fun hc11 hp => ?_)
  · obtain rfl := endS (show some _ = some r from hp)
    exact WJ.rt 212 rfl rfl rfl (fun ids H' fr => ⟨fr.ext0, rfl⟩)
  · obtain ⟨b14, e14, hp⟩ := bindS hp
    refine WJ.hd (v := .int .u8 ((b14.toNat : Nat) : Int)) 202 rfl rfl rfl rfl (fun ids H' fr => opD_index rfl (evV_eq _ _ _ _ _ rfl) (evV_eq _ _ _ _ _ rfl) (sidx us9 e14)) rfl ?_
    refine WJ.cn 200 hp rfl rfl rfl rfl rfl rfl rfl rfl rfl (fun hc15 hp => ?_) (fun hc15 hp => ?_)
    · obtain rfl := endS (show some _ = some r from hp)
      exact WJ.rt 208 rfl rfl rfl (fun ids H' fr => ⟨fr.ext0, rfl⟩)
    · refine WJ.adv 12 rfl ?_
      obtain ⟨K3, hK3, hp⟩ : ∃ K, K = _ ∧ Option.bind _ K = some r := ⟨_, rfl, cutS hp⟩
      refine WJ.cut 2 (α := (List UInt8) × (Option Addr) × Nat × Hp) (fun y => []) (fun y => []) (fun y => [bldS 63 bw4 y.2.1 y.1, bldB 5 y.2.1 y.1]) (fun y => y.2.2.2) (fun y => K3 (Sum.inr y.1) = some r) ?_ (fun j3 => ?_)
      · rintro ⟨l1_3, a1_3, c1_3, B5⟩ hp
        subst hK3
        show WJ _ _ _ B5 [bldS 63 bw4 a1_3 l1_3, bldB 5 a1_3 l1_3] _ _ ⟨[], [], true, 0⟩
        obtain rfl := endS (show some _ = some r from hp)
        exact WJ.rt 205 rfl rfl rfl (fun ids H' fr => ⟨fr.ext0, rfl⟩)
      · refine WJ.lp 200 (α := Nat × (List UInt8) × Int × (Option Addr) × Nat × Hp) (fun y => [(0, .v (.string (bs x0))), (4, .v (.pointer (some ⟨bw4, 0, none⟩))), (5, .v (.int .i64 y.2.2.1))]) (fun y => []) (fun y => [bldS 63 bw4 y.2.2.2.1 y.2.1, bldB 5 y.2.2.2.1 y.2.1]) (fun y => y.2.2.2.2.2) (fun y => y.1) (fun y => Option.bind (f31_l1 x0 y.1 y.2.1 y.2.2.1) K3 = some r) (k, ([] : List UInt8), 1, none, 0, B) rfl hp (by exact ⟨rfl, rfl, rfl, trivial⟩) rfl rfl rfl ?_
        rintro ⟨n, l1_h3, x5_h3, a1_h3, c1_h3, B1⟩ hp ih3
        show WJ _ _ _ B1 [bldS 63 bw4 a1_h3 l1_h3, bldB 5 a1_h3 l1_h3] _ _ ⟨[(0, .v (.string (bs x0))), (4, .v (.pointer (some ⟨bw4, 0, none⟩))), (5, .v (.int .i64 x5_h3))], [], true, 0⟩
        replace hp : Option.bind (f31_l1 x0 n l1_h3 x5_h3) K3 = some r := hp
        cases n with
        | zero => rw [f31_l1] at hp; exact (noS hp).elim
        | succ n =>
          rw [f31_l1] at hp
          refine WJ.ci 206 hp rfl rfl rfl rfl rfl rfl rfl rfl rfl (fun hc20u1 hp => ?_) (fun hc20u1 hp => ?_)
          · obtain ⟨s24u1, e24u1, hp⟩ := bindS hp
            refine WJ.hd (v := .string (bs s24u1)) 208 rfl rfl rfl rfl (fun ids H' fr => opD_sl rfl (evV_eq _ _ _ _ _ rfl) (evV_eq _ _ _ _ _ rfl) (sliceD_l us9 e24u1)) rfl ?_
            obtain ⟨⟨t25u1_0, t25u1_1⟩, e25u1, hp⟩ := bindS hp
            refine WJ.cl 200 (R := R_21_3 ⟨t25u1_0, t25u1_1⟩) (fun hm h k => R_21_3.mono hm h k) rfl (fun ids H' fr => f35_ok e25u1) ?_
            rintro v B2 ⟨abB2, ivB2⟩ rfl
            refine ⟨_, rfl, ?_⟩
            refine WJ.ci 211 hp rfl rfl rfl rfl rfl rfl rfl rfl rfl (fun hc30u1 hp => ?_) (fun hc30u1 hp => ?_)
            · obtain ⟨lB31u1, eB31u1, hp⟩ := bindS hp
              obtain ⟨bdB31u1, rfl⟩ := apd_some eB31u1
              refine WJ.bg 205 0 rfl st_ok (fun _ => rfl) rfl rfl rfl (by simpa using bdB31u1) ?_
              refine ⟨_, rfl, ?_⟩
              subst hK3
              obtain rfl := endS (show some _ = some r from hp)
              exact WJ.rt 205 rfl rfl rfl (fun ids H' fr => ⟨fr.ext0, rfl⟩)
            · refine WJ.ci 206 hp rfl rfl rfl rfl rfl rfl rfl rfl rfl (fun hc36u1 hp => ?_) (fun hc36u1 hp => ?_)
              · obtain ⟨s41u1, e41u1, hp⟩ := bindS hp
                refine WJ.hd (v := .string (bs s41u1)) 208 rfl rfl rfl rfl (fun ids H' fr => opD_sl rfl (evV_eq _ _ _ _ _ rfl) (evV_eq _ _ _ _ _ rfl) (sliceD_l us9 e41u1)) rfl ?_
                obtain ⟨⟨t42u1_0, t42u1_1⟩, e42u1, hp⟩ := bindS hp
                refine WJ.cl 200 (R := R_5_3 ⟨t42u1_0, t42u1_1⟩) (fun hm h k => R_5_3.mono hm h k) rfl (fun ids H' fr => f56_ok e42u1) ?_
                rintro v B3 ⟨abB3, ivB3⟩ rfl
                refine ⟨_, rfl, ?_⟩
                refine WJ.ci 210 hp rfl rfl rfl rfl rfl rfl rfl rfl rfl (fun hc46u1 hp => ?_) (fun hc46u1 hp => ?_)
                · exact WJ.goto 3 (j3 (l1_h3, a1_h3, 0, B3) hp) rfl rfl (by exact trivial) rfl rfl rfl
                · obtain ⟨uB48u1, euB48u1, hp⟩ := bindS hp
                  obtain ⟨lB48u1, eB48u1, hp⟩ := bindS hp
                  obtain ⟨bdB48u1, rfl⟩ := apd_some eB48u1
                  refine WJ.bw 206 (s := [uB48u1]) 0 rfl (wb_ok euB48u1) (fun _ => rfl) rfl rfl rfl bdB48u1 ?_
                  intro aB48u1
                  refine ⟨_, rfl, ?_⟩
                  exact WJ.ag 210 rfl (by exact ⟨rfl, rfl, rfl, trivial⟩) rfl rfl rfl (ih3 (n, (l1_h3 ++ ([uB48u1])), IntKind.i64.wrap (x5_h3 + (IntKind.i64.wrap (1 + t42u1_1))), aB48u1, 0, B3) hp (Nat.lt_succ_self _))
              · obtain ⟨t56, e56, hp⟩ := bindS hp
                refine WJ.cl 207 (R := R_4 t56) (fun hm h k => R_4.mono hm h k) rfl (fun ids H' fr => f37_ok e56) ?_
                rintro v B4 ⟨abB4, ivB4⟩ rfl
                refine ⟨_, rfl, ?_⟩
                cases t56
                · replace hp := (itS hp).2 Bool.false_ne_true
                  exact WJ.goto 5 (j3 (l1_h3, a1_h3, 0, B4) hp) rfl rfl (by exact trivial) rfl rfl rfl
                · replace hp := (itS hp).1 rfl
                  obtain ⟨s63, e63, hp⟩ := bindS hp
                  refine WJ.hd (v := .string (bs s63)) 213 rfl rfl rfl rfl (fun ids H' fr => opD_slh rfl (evV_eq _ _ _ _ _ rfl) (evV_eq _ _ _ _ _ rfl) (evV_eq _ _ _ _ _ rfl) (sliceD_lh us9 e63)) rfl ?_
                  obtain ⟨lB64, eB64, hp⟩ := bindS hp
                  obtain ⟨bdB64, rfl⟩ := apd_some eB64
                  refine WJ.bw 200 (s := s63) 0 rfl (ws_ok s63) (fun _ => rfl) rfl rfl rfl bdB64 ?_
                  intro aB64
                  refine ⟨_, rfl, ?_⟩
                  exact WJ.ag 208 rfl (by exact ⟨rfl, rfl, rfl, trivial⟩) rfl rfl rfl (ih3 (n, (l1_h3 ++ s63), IntKind.i64.wrap (x5_h3 + t25u1_1), aB64, 0, B4) hp (Nat.lt_succ_self _))
          · exact WJ.goto 3 (j3 (l1_h3, a1_h3, 0, B1) hp) rfl rfl (by exact trivial) rfl rfl rfl
/-! 16 tipstaff/row.Name -/
def f16_l1 (x0 : List UInt8) : Nat → Nat → Option ((Bool) ⊕ (Unit))
  | 0, _ => none
  | n + 1, p0 =>
    if p0 < x0.length then
      (f42 (decL x0 p0)).bind fun t12 =>
      if t12 then
        f16_l1 x0 n (p0 + decN x0 p0)
      else
        if ((p0 : Nat) : Int) = 0 then
          some (Sum.inl (false : Bool))
        else
          if (decL x0 p0) = 45 then
            f16_l1 x0 n (p0 + decN x0 p0)
          else
            if (decL x0 p0) < 48 then
              some (Sum.inl (false : Bool))
            else
              if (decL x0 p0) > 57 then
                some (Sum.inl (false : Bool))
              else
                f16_l1 x0 n (p0 + decN x0 p0)
    else
      some (Sum.inr ())

def f16 (k : Nat) (x0 : List UInt8) : Option Bool :=
  (f16_l1 x0 k 0).bind fun s => match s with
    | .inl st => some st
    | .inr _ => 
      if x0 = ([] : List UInt8) then
        some false
      else
        (some (decide ((x0.length : Int) ≤ 16))).bind fun t35 =>
        some t35
set_option maxRecDepth 20000 in
theorem f16_ok {k : Nat} {H : Hp} {x0 : List UInt8} {r : Bool} (hp : f16 k x0 = some r) :
    SCall Tryz.prog 16 [.string (bs x0)] H (Ret fun v H' => Ext H H' ∧ R_4 r H.next H' v) := by
  unfold f16 at hp
  replace hp := topS hp
  refine SCall.g Tryz.func16 rfl rfl rfl rfl rfl (l := [(0, .v (.string (bs x0)))]) (fun _ => rfl) (fun B abB => ?_)
  refine WJ.rg 208 rfl rfl rfl rfl rfl us9 rfl ?_
  rintro b6 B1 ⟨abB1, ivB1⟩ h06 it6
  refine ⟨_, rfl, ?_⟩
  refine WJ.adv 2 rfl ?_
  obtain ⟨K4, hK4, hp⟩ : ∃ K, K = _ ∧ Option.bind _ K = some r := ⟨_, rfl, cutS hp⟩
  refine WJ.cut 2 (α := Hp) (fun y => [(0, .v (.string (bs x0)))]) (fun y => []) (fun y => []) (fun y => y) (fun y => K4 (Sum.inr ()) = some r) ?_ (fun j4 => ?_)
  · rintro B5 hp
    subst hK4
    show WJ _ _ _ B5 [] _ _ ⟨[(0, .v (.string (bs x0)))], [], true, 0⟩
    refine WJ.cn 203 hp rfl rfl rfl rfl rfl rfl (opD_strne rfl rfl rfl) rfl rfl (fun hc31 hp => ?_) (fun hc31 hp => ?_)
    · obtain ⟨t35, e35, hp⟩ := bindS hp
      refine WJ.cv 203 (b := t35) (H0 := ⟨.nil, 0, 0⟩) rfl rfl rfl rfl rfl rfl (by rw [← endS e35]; exact rfl) rfl ?_
      obtain rfl := endS (show some _ = some r from hp)
      exact WJ.rt 203 rfl rfl rfl (fun ids H' fr => ⟨fr.ext0, rfl⟩)
    · obtain rfl := endS (show some _ = some r from hp)
      exact WJ.rt 207 rfl rfl rfl (fun ids H' fr => ⟨fr.ext0, rfl⟩)
  · refine WJ.lp 200 (α := Nat × Nat × Hp) (fun y => [(0, .v (.string (bs x0))), (6, .v (.pointer (some ⟨b6, 0, none⟩)))]) (fun y => []) (fun y => []) (fun y => y.2.2) (fun y => y.1) (fun y => Option.bind (f16_l1 x0 y.1 y.2.1) K4 = some r ∧ y.2.2.get b6 = some (.iter (bs x0) y.2.1)) (k, 0, B1) rfl ⟨hp, it6⟩ (by exact ⟨rfl, rfl, trivial⟩) rfl rfl rfl ?_
    rintro ⟨n, p0, B2⟩ ⟨hp, it6⟩ ih4
    show WJ _ _ _ B2 [] _ _ ⟨[(0, .v (.string (bs x0))), (6, .v (.pointer (some ⟨b6, 0, none⟩)))], [], true, 0⟩
    replace hp : Option.bind (f16_l1 x0 n p0) K4 = some r := hp
    cases n with
    | zero => rw [f16_l1] at hp; exact (noS hp).elim
    | succ n =>
      rw [f16_l1] at hp
      refine WJ.nx 202 hp rfl rfl rfl rfl rfl rfl it6 h06 rfl rfl (fun hp B3 abB3 neB3 it_new => ?_) (fun hp => ?_)
      · replace it6 := it_new
        obtain ⟨t12, e12, hp⟩ := bindS hp
        refine WJ.cl 216 (R := R_4 t12) (fun hm h k => R_4.mono hm h k) rfl (fun ids H' fr => f42_ok e12) ?_
        rintro v B4 ⟨abB4, ivB4⟩ rfl
        refine ⟨_, rfl, ?_⟩
        replace it6 := ivB4 _ _ it6
        cases t12
        · replace hp := (itS hp).2 Bool.false_ne_true
          refine WJ.ci 203 hp rfl rfl rfl rfl rfl rfl rfl rfl rfl (fun hc16 hp => ?_) (fun hc16 hp => ?_)
          · subst hK4
            obtain rfl := endS (show some _ = some r from hp)
            exact WJ.rt 219 rfl rfl rfl (fun ids H' fr => ⟨fr.ext0, rfl⟩)
          · refine WJ.cn 202 hp rfl rfl rfl rfl rfl rfl rfl rfl rfl (fun hc19 hp => ?_) (fun hc19 hp => ?_)
            · refine WJ.ci 202 hp rfl rfl rfl rfl rfl rfl rfl rfl rfl (fun hc22 hp => ?_) (fun hc22 hp => ?_)
              · subst hK4
                obtain rfl := endS (show some _ = some r from hp)
                exact WJ.rt 213 rfl rfl rfl (fun ids H' fr => ⟨fr.ext0, rfl⟩)
              · refine WJ.ci 202 hp rfl rfl rfl rfl rfl rfl rfl rfl rfl (fun hc25 hp => ?_) (fun hc25 hp => ?_)
                · subst hK4
                  obtain rfl := endS (show some _ = some r from hp)
                  exact WJ.rt 210 rfl rfl rfl (fun ids H' fr => ⟨fr.ext0, rfl⟩)
                · exact WJ.ag 208 rfl (by exact ⟨rfl, rfl, trivial⟩) rfl rfl rfl (ih4 (n, (p0 + decN x0 p0), B4) ⟨hp, it6⟩ (Nat.lt_succ_self _))
            · exact WJ.ag 214 rfl (by exact ⟨rfl, rfl, trivial⟩) rfl rfl rfl (ih4 (n, (p0 + decN x0 p0), B4) ⟨hp, it6⟩ (Nat.lt_succ_self _))
        · replace hp := (itS hp).1 rfl
          exact WJ.ag 221 rfl (by exact ⟨rfl, rfl, trivial⟩) rfl rfl rfl (ih4 (n, (p0 + decN x0 p0), B4) ⟨hp, it6⟩ (Nat.lt_succ_self _))
      · exact WJ.goto 5 (j4 B2 hp) rfl rfl (by exact ⟨rfl, trivial⟩) rfl rfl rfl
/-! 108 internal/stringslite.HasPrefix -/
def f108 (x0 : List UInt8) (x1 : List UInt8) : Option Bool :=
  if (x0.length : Int) ≥ (x1.length : Int) then
    (sub x0 0 (x1.length : Int)).bind fun s14 =>
    (some (decide (s14 = x1))).bind fun t16 =>
    some t16
  else
    some false
set_option maxRecDepth 20000 in
theorem f108_ok {H : Hp} {x0 : List UInt8} {x1 : List UInt8} {r : Bool} (hp : f108 x0 x1 = some r) :
    SCall Tryz.prog 108 [.string (bs x0), .string (bs x1)] H (Ret fun v H' => Ext H H' ∧ R_4 r H.next H' v) := by
  unfold f108 at hp
  replace hp := topS hp
  refine SCall.g Tryz.func108 rfl rfl rfl rfl rfl (l := [(0, .v (.string (bs x0))), (1, .v (.string (bs x1)))]) (fun _ => rfl) (fun B abB => ?_)
  refine WJ.ci 210 hp rfl rfl rfl rfl rfl rfl rfl rfl rfl (fun hc9 hp => ?_) (fun hc9 hp => ?_)
  · obtain ⟨s14, e14, hp⟩ := bindS hp
    refine WJ.hd (v := .string (bs s14)) 204 rfl rfl rfl rfl (fun ids H' fr => opD_sh rfl (evV_eq _ _ _ _ _ rfl) (evV_eq _ _ _ _ _ rfl) (sliceD_h us9 e14)) rfl ?_
    obtain ⟨t16, e16, hp⟩ := bindS hp
    refine WJ.cv 201 (b := t16) (H0 := ⟨.nil, 0, 0⟩) rfl rfl rfl rfl rfl rfl (by rw [← endS e16]; exact (opD_streq rfl rfl rfl)) rfl ?_
    obtain rfl := endS (show some _ = some r from hp)
    exact WJ.rt 203 rfl rfl rfl (fun ids H' fr => ⟨fr.ext0, rfl⟩)
  · obtain rfl := endS (show some _ = some r from hp)
    exact WJ.rt 210 rfl rfl rfl (fun ids H' fr => ⟨fr.ext0, rfl⟩)
/-! 93 internal/stringslite.TrimPrefix -/
def f93 (x0 : List UInt8) (x1 : List UInt8) : Option (List UInt8) :=
  (f108 x0 x1).bind fun t7 =>
  if t7 then
    (sub x0 (x1.length : Int) (x0.length : Int)).bind fun s11 =>
    some s11
  else
    some x0
set_option maxRecDepth 20000 in
theorem f93_ok {H : Hp} {x0 : List UInt8} {x1 : List UInt8} {r : List UInt8} (hp : f93 x0 x1 = some r) :
    SCall Tryz.prog 93 [.string (bs x0), .string (bs x1)] H (Ret fun v H' => Ext H H' ∧ R_9 r H.next H' v) := by
  unfold f93 at hp
  replace hp := topS hp
  refine SCall.g Tryz.func93 rfl rfl rfl rfl rfl (l := [(0, .v (.string (bs x0))), (1, .v (.string (bs x1)))]) (fun _ => rfl) (fun B abB => ?_)
  obtain ⟨t7, e7, hp⟩ := bindS hp
  refine WJ.cl 209 (R := R_4 t7) (fun hm h k => R_4.mono hm h k) rfl (fun ids H' fr => f108_ok e7) ?_
  rintro v B1 ⟨abB1, ivB1⟩ rfl
  refine ⟨_, rfl, ?_⟩
  cases t7
  · replace hp := (itS hp).2 Bool.false_ne_true
    obtain rfl := endS (show some _ = some r from hp)
    exact WJ.rt 208 rfl rfl rfl (fun ids H' fr => ⟨fr.ext0, rfl⟩)
  · replace hp := (itS hp).1 rfl
    obtain ⟨s11, e11, hp⟩ := bindS hp
    refine WJ.hd (v := .string (bs s11)) 207 rfl rfl rfl rfl (fun ids H' fr => opD_sl rfl (evV_eq _ _ _ _ _ rfl) (evV_eq _ _ _ _ _ rfl) (sliceD_l us9 e11)) rfl ?_
    obtain rfl := endS (show some _ = some r from hp)
    exact WJ.rt 202 rfl rfl rfl (fun ids H' fr => ⟨fr.ext0, rfl⟩)
/-! 82 strings.TrimPrefix -/
def f82 (x0 : List UInt8) (x1 : List UInt8) : Option (List UInt8) :=
  (f93 x0 x1).bind fun t7 =>
  some t7
set_option maxRecDepth 20000 in
theorem f82_ok {H : Hp} {x0 : List UInt8} {x1 : List UInt8} {r : List UInt8} (hp : f82 x0 x1 = some r) :
    SCall Tryz.prog 82 [.string (bs x0), .string (bs x1)] H (Ret fun v H' => Ext H H' ∧ R_9 r H.next H' v) := by
  unfold f82 at hp
  replace hp := topS hp
  refine SCall.g Tryz.func82 rfl rfl rfl rfl rfl (l := [(0, .v (.string (bs x0))), (1, .v (.string (bs x1)))]) (fun _ => rfl) (fun B abB => ?_)
  obtain ⟨t7, e7, hp⟩ := bindS hp
  refine WJ.cl 208 (R := R_9 t7) (fun hm h k => R_9.mono hm h k) rfl (fun ids H' fr => f93_ok e7) ?_
  rintro v B1 ⟨abB1, ivB1⟩ rfl
  refine ⟨_, rfl, ?_⟩
  obtain rfl := endS (show some _ = some r from hp)
  exact WJ.rt 202 rfl rfl rfl (fun ids H' fr => ⟨fr.ext0, rfl⟩)
/-! 68 tipstaff/row.number -/
def f68 (x0 : List UInt8) : Option (Int × Bool) :=
  (f82 x0 ([45] : List UInt8)).bind fun t7 =>
  (if t7 = ([] : List UInt8) then
    some (Sum.inl ((0, false) : Int × Bool))
  else
    if (t7.length : Int) > 13 then
      some (Sum.inl ((0, false) : Int × Bool))
    else
      (f83 t7 ([48, 49, 50, 51, 52, 53, 54, 55, 56, 57] : List UInt8)).bind fun t17 =>
      if t17 = ([] : List UInt8) then
        (rd t7 0).bind fun b22 =>
        if ((b22.toNat : Nat) : Int) = 48 then
          if x0 = ([48] : List UInt8) then
            some (Sum.inr ())
          else
            some (Sum.inl ((0, false) : Int × Bool))
        else
          some (Sum.inr ())
      else
        some (Sum.inl ((0, false) : Int × Bool))).bind fun s => match s with
    | .inl st => some st
    | .inr _ => 
      (f84 x0).bind fun (t31_0, t31_1) =>
      if t31_1 then
        if t31_0 ≥ (-1099511627776) then
          (some (decide (t31_0 ≤ 1099511627776))).bind fun t43 =>
          some (t31_0, t43)
        else
          some (t31_0, false)
      else
        some (t31_0, false)
set_option maxRecDepth 20000 in
theorem f68_ok {H : Hp} {x0 : List UInt8} {r : Int × Bool} (hp : f68 x0 = some r) :
    SCall Tryz.prog 68 [.string (bs x0)] H (Ret fun v H' => Ext H H' ∧ R_3_4 r H.next H' v) := by
  unfold f68 at hp
  replace hp := topS hp
  refine SCall.g Tryz.func68 rfl rfl rfl rfl rfl (l := [(0, .v (.string (bs x0)))]) (fun _ => rfl) (fun B abB => ?_)
  obtain ⟨t7, e7, hp⟩ := bindS hp
  refine WJ.cl 208 (R := R_9 t7) (fun hm h k => R_9.mono hm h k) rfl (fun ids H' fr => f82_ok e7) ?_
  rintro v B1 ⟨abB1, ivB1⟩ rfl
  refine ⟨_, rfl, ?_⟩
  refine WJ.adv 4 rfl ?_
  obtain ⟨K5, hK5, hp⟩ : ∃ K, K = _ ∧ Option.bind _ K = some r := ⟨_, rfl, cutS hp⟩
  refine WJ.cut 2 (α := Hp) (fun y => [(0, .v (.string (bs x0)))]) (fun y => []) (fun y => []) (fun y => y) (fun y => K5 ((Sum.inr ())) = some r) ?_ (fun j5 => ?_)
  · rintro B3 hp
    subst hK5
    show WJ _ _ _ B3 [] _ _ ⟨[(0, .v (.string (bs x0)))], [], true, 0⟩
    obtain ⟨⟨t31_0, t31_1⟩, e31, hp⟩ := bindS hp
    refine WJ.cl 203 (R := R_3_65 ⟨t31_0, t31_1⟩) (fun hm h k => R_3_65.mono hm h k) rfl (fun ids H' fr => f84_ok e31) ?_
    rintro v B4 ⟨abB4, ivB4⟩ ⟨y31, rfl, hy31⟩
    refine ⟨_, rfl, ?_⟩
    cases t31_1
    · replace hp := (itS hp).2 Bool.false_ne_true
      obtain ⟨ty31, z31, rfl⟩ : ∃ t z, y31 = .iface t z := hy31
      refine WJ.cv 210 (b := false) (H0 := ⟨.nil, 0, 0⟩) rfl rfl rfl rfl rfl rfl (opD_ifE rfl rfl rfl ui65) rfl ?_
      obtain rfl := endS (show some _ = some r from hp)
      exact WJ.rt 211 rfl rfl rfl (fun ids H' fr => ⟨fr.ext0, rfl⟩)
    · replace hp := (itS hp).1 rfl
      obtain rfl : y31 = .nilIface := hy31
      refine WJ.cv 210 (b := true) (H0 := ⟨.nil, 0, 0⟩) rfl rfl rfl rfl rfl rfl (opD_nnE rfl rfl rfl ui65) rfl ?_
      refine WJ.ci 202 hp rfl rfl rfl rfl rfl rfl rfl rfl rfl (fun hc39 hp => ?_) (fun hc39 hp => ?_)
      · obtain ⟨t43, e43, hp⟩ := bindS hp
        refine WJ.cv 203 (b := t43) (H0 := ⟨.nil, 0, 0⟩) rfl rfl rfl rfl rfl rfl (by rw [← endS e43]; exact rfl) rfl ?_
        obtain rfl := endS (show some _ = some r from hp)
        exact WJ.rt 204 rfl rfl rfl (fun ids H' fr => ⟨fr.ext0, rfl⟩)
      · obtain rfl := endS (show some _ = some r from hp)
        exact WJ.rt 208 rfl rfl rfl (fun ids H' fr => ⟨fr.ext0, rfl⟩)
  · refine WJ.ci 202 hp rfl rfl rfl rfl rfl rfl (opD_streq rfl rfl rfl) rfl rfl (fun hc9 hp => ?_) (fun hc9 hp => ?_)
    · subst hK5
      obtain rfl := endS (show some _ = some r from hp)
      exact WJ.rt 226 rfl rfl rfl (fun ids H' fr => ⟨fr.ext0, rfl⟩)
    · refine WJ.ci 203 hp rfl rfl rfl rfl rfl rfl rfl rfl rfl (fun hc13 hp => ?_) (fun hc13 hp => ?_)
      · subst hK5
        obtain rfl := endS (show some _ = some r from hp)
        exact WJ.rt 222 rfl rfl rfl (fun ids H' fr => ⟨fr.ext0, rfl⟩)
      · obtain ⟨t17, e17, hp⟩ := bindS hp
        refine WJ.cl 203 (R := R_9 t17) (fun hm h k => R_9.mono hm h k) rfl (fun ids H' fr => f83_ok e17) ?_
        rintro v B2 ⟨abB2, ivB2⟩ rfl
        refine ⟨_, rfl, ?_⟩
        refine WJ.cn 200 hp rfl rfl rfl rfl rfl rfl (opD_strne rfl rfl rfl) rfl rfl (fun hc18 hp => ?_) (fun hc18 hp => ?_)
        · subst hK5
          obtain rfl := endS (show some _ = some r from hp)
          exact WJ.rt 217 rfl rfl rfl (fun ids H' fr => ⟨fr.ext0, rfl⟩)
        · obtain ⟨b22, e22, hp⟩ := bindS hp
          refine WJ.hd (v := .int .u8 ((b22.toNat : Nat) : Int)) 203 rfl rfl rfl rfl (fun ids H' fr => opD_index rfl (evV_eq _ _ _ _ _ rfl) (evV_eq _ _ _ _ _ rfl) (sidx us9 e22)) rfl ?_
          refine WJ.ci 200 hp rfl rfl rfl rfl rfl rfl rfl rfl rfl (fun hc23 hp => ?_) (fun hc23 hp => ?_)
          · refine WJ.cn 202 hp rfl rfl rfl rfl rfl rfl (opD_strne rfl rfl rfl) rfl rfl (fun hc26 hp => ?_) (fun hc26 hp => ?_)
            · subst hK5
              obtain rfl := endS (show some _ = some r from hp)
              exact WJ.rt 209 rfl rfl rfl (fun ids H' fr => ⟨fr.ext0, rfl⟩)
            · exact WJ.goto 5 (j5 B2 hp) rfl rfl (by exact ⟨rfl, trivial⟩) rfl rfl rfl
          · exact WJ.goto 8 (j5 B2 hp) rfl rfl (by exact ⟨rfl, trivial⟩) rfl rfl rfl
/-! 54 tipstaff/tipstaffref03.blank -/
def f54 (x0 : Int) : Option Bool :=
  if x0 = 32 then
    some true
  else
    (some (x0 == 9)).bind fun t7 =>
    some t7
set_option maxRecDepth 20000 in
theorem f54_ok {H : Hp} {x0 : Int} {r : Bool} (hp : f54 x0 = some r) :
    SCall Tryz.prog 54 [.int .u8 x0] H (Ret fun v H' => Ext H H' ∧ R_4 r H.next H' v) := by
  unfold f54 at hp
  replace hp := topS hp
  refine SCall.g Tryz.func54 rfl rfl rfl rfl rfl (l := [(0, .v (.int .u8 x0))]) (fun _ => rfl) (fun B abB => ?_)
  refine WJ.ci 207 hp rfl rfl rfl rfl rfl rfl rfl rfl rfl (fun hc4 hp => ?_) (fun hc4 hp => ?_)
  · obtain rfl := endS (show some _ = some r from hp)
    exact WJ.rt 206 rfl rfl rfl (fun ids H' fr => ⟨fr.ext0, rfl⟩)
  · obtain ⟨t7, e7, hp⟩ := bindS hp
    refine WJ.cv 202 (b := t7) (H0 := ⟨.nil, 0, 0⟩) rfl rfl rfl rfl rfl rfl (by rw [← endS e7]; exact rfl) rfl ?_
    obtain rfl := endS (show some _ = some r from hp)
    exact WJ.rt 203 rfl rfl rfl (fun ids H' fr => ⟨fr.ext0, rfl⟩)
/-! 40 tipstaff/tipstaffref03.long -/
def f40_l1 (x0 : List UInt8) : Nat → Nat → Option ((Int) ⊕ (Unit))
  | 0, _ => none
  | n + 1, p0_h6 =>
    if p0_h6 < x0.length then
      (some (encR (decL x0 p0_h6))).bind fun s12 =>
      (if (decL x0 p0_h6) ≥ 160 then
        if (s12.length : Int) ≤ (x0.length : Int) then
          (sub x0 0 (s12.length : Int)).bind fun s25 =>
          (some (encR (decL x0 p0_h6))).bind fun s27 =>
          if s25 = s27 then
            some (Sum.inl ((s12.length : Int) : Int))
          else
            some (Sum.inr ())
        else
          some (Sum.inr ())
      else
        some (Sum.inr ())).bind fun s => match s with
        | .inl st => some (Sum.inl st)
        | .inr _ => 
          some (Sum.inl (0 : Int))
    else
      some (Sum.inr ())

def f40 (k : Nat) (x0 : List UInt8) : Option Int :=
  (f40_l1 x0 k 0).bind fun s => match s with
    | .inl st => some st
    | .inr _ => 
      some 0
set_option maxHeartbeats 3200000 in
set_option maxRecDepth 20000 in
theorem f40_ok {k : Nat} {H : Hp} {x0 : List UInt8} {r : Int} (hp : f40 k x0 = some r) :
    SCall Tryz.prog 40 [.string (bs x0)] H (Ret fun v H' => Ext H H' ∧ R_3 r H.next H' v) := by
  unfold f40 at hp
  replace hp := topS hp
  refine SCall.g Tryz.func40 rfl rfl rfl rfl rfl (l := [(0, .v (.string (bs x0)))]) (fun _ => rfl) (fun B abB => ?_)
  refine WJ.rg 208 rfl rfl rfl rfl rfl us9 rfl ?_
  rintro b7 B1 ⟨abB1, ivB1⟩ h07 it7
  refine ⟨_, rfl, ?_⟩
  refine WJ.adv 2 rfl ?_
  obtain ⟨K6, hK6, hp⟩ : ∃ K, K = _ ∧ Option.bind _ K = some r := ⟨_, rfl, cutS hp⟩
  refine WJ.cut 2 (α := Hp) (fun y => []) (fun y => []) (fun y => []) (fun y => y) (fun y => K6 (Sum.inr ()) = some r) ?_ (fun j6 => ?_)
  · rintro B4 hp
    subst hK6
    show WJ _ _ _ B4 [] _ _ ⟨[], [], true, 0⟩
    obtain rfl := endS (show some _ = some r from hp)
    exact WJ.rt 204 rfl rfl rfl (fun ids H' fr => ⟨fr.ext0, rfl⟩)
  · refine WJ.lp 200 (α := Nat × Nat × Hp) (fun y => [(0, .v (.string (bs x0))), (7, .v (.pointer (some ⟨b7, 0, none⟩)))]) (fun y => []) (fun y => []) (fun y => y.2.2) (fun y => y.1) (fun y => Option.bind (f40_l1 x0 y.1 y.2.1) K6 = some r ∧ y.2.2.get b7 = some (.iter (bs x0) y.2.1)) (k, 0, B1) rfl ⟨hp, it7⟩ (by exact ⟨rfl, rfl, trivial⟩) rfl rfl rfl ?_
    rintro ⟨n, p0_h6, B2⟩ ⟨hp, it7⟩ ih6
    show WJ _ _ _ B2 [] _ _ ⟨[(0, .v (.string (bs x0))), (7, .v (.pointer (some ⟨b7, 0, none⟩)))], [], true, 0⟩
    replace hp : Option.bind (f40_l1 x0 n p0_h6) K6 = some r := hp
    cases n with
    | zero => rw [f40_l1] at hp; exact (noS hp).elim
    | succ n =>
      rw [f40_l1] at hp
      refine WJ.nx 202 hp rfl rfl rfl rfl rfl rfl it7 h07 rfl rfl (fun hp B3 abB3 neB3 it_new => ?_) (fun hp => ?_)
      · replace it7 := it_new
        obtain ⟨s12, e12, hp⟩ := bindS hp
        refine WJ.adv 15 rfl ?_
        rw [enc_eq, Option.some.inj e12]
        refine WJ.adv 5 rfl ?_
        obtain ⟨K7, hK7, hp⟩ : ∃ K, K = _ ∧ Option.bind _ K = some r := ⟨_, rfl, cutS hp⟩
        refine WJ.cut 2 (α := Unit) (fun y => []) (fun y => []) (fun y => []) (fun y => B3) (fun y => K7 ((Sum.inr ())) = some r) ?_ (fun j7 => ?_)
        · rintro u hp
          subst hK7
          show WJ _ _ _ B3 [] _ _ ⟨[], [], true, 0⟩
          subst hK6
          obtain rfl := endS (show some _ = some r from hp)
          exact WJ.rt 204 rfl rfl rfl (fun ids H' fr => ⟨fr.ext0, rfl⟩)
        · refine WJ.ci 202 hp rfl rfl rfl rfl rfl rfl rfl rfl rfl (fun hc15 hp => ?_) (fun hc15 hp => ?_)
          · refine WJ.ci 204 hp rfl rfl rfl rfl rfl rfl rfl rfl rfl (fun hc20 hp => ?_) (fun hc20 hp => ?_)
            · obtain ⟨s25, e25, hp⟩ := bindS hp
              refine WJ.hd (v := .string (bs s25)) 204 rfl rfl rfl rfl (fun ids H' fr => opD_sh rfl (evV_eq _ _ _ _ _ rfl) (evV_eq _ _ _ _ _ rfl) (sliceD_h us9 e25)) rfl ?_
              obtain ⟨s27, e27, hp⟩ := bindS hp
              refine WJ.adv 2 rfl ?_
              rw [enc_eq, Option.some.inj e27]
              refine WJ.ci 200 hp rfl rfl rfl rfl rfl rfl (opD_streq rfl rfl rfl) rfl rfl (fun hc28 hp => ?_) (fun hc28 hp => ?_)
              · subst hK7
                subst hK6
                obtain rfl := endS (show some _ = some r from hp)
                exact WJ.rt 208 rfl rfl rfl (fun ids H' fr => ⟨fr.ext0, rfl⟩)
              · exact WJ.goto 4 (j7 () hp) rfl rfl (by exact trivial) rfl rfl rfl
            · exact WJ.goto 12 (j7 () hp) rfl rfl (by exact trivial) rfl rfl rfl
          · exact WJ.goto 17 (j7 () hp) rfl rfl (by exact trivial) rfl rfl rfl
      · exact WJ.goto 5 (j6 B2 hp) rfl rfl (by exact trivial) rfl rfl rfl
/-! 41 tipstaff/tipstaffref03.plain -/
def f41 (x0 : Int) : Option Bool :=
  if x0 ≥ 32 then
    if x0 ≤ 126 then
      if x0 = 34 then
        some false
      else
        (some (x0 != 92)).bind fun t15 =>
        some t15
    else
      some false
  else
    some false
set_option maxRecDepth 20000 in
theorem f41_ok {H : Hp} {x0 : Int} {r : Bool} (hp : f41 x0 = some r) :
    SCall Tryz.prog 41 [.int .u8 x0] H (Ret fun v H' => Ext H H' ∧ R_4 r H.next H' v) := by
  unfold f41 at hp
  replace hp := topS hp
  refine SCall.g Tryz.func41 rfl rfl rfl rfl rfl (l := [(0, .v (.int .u8 x0))]) (fun _ => rfl) (fun B abB => ?_)
  refine WJ.ci 207 hp rfl rfl rfl rfl rfl rfl rfl rfl rfl (fun hc4 hp => ?_) (fun hc4 hp => ?_)
  · refine WJ.ci 202 hp rfl rfl rfl rfl rfl rfl rfl rfl rfl (fun hc7 hp => ?_) (fun hc7 hp => ?_)
    · refine WJ.cn 203 hp rfl rfl rfl rfl rfl rfl rfl rfl rfl (fun hc11 hp => ?_) (fun hc11 hp => ?_)
      · obtain ⟨t15, e15, hp⟩ := bindS hp
        refine WJ.cv 203 (b := t15) (H0 := ⟨.nil, 0, 0⟩) rfl rfl rfl rfl rfl rfl (by rw [← endS e15]; exact rfl) rfl ?_
        obtain rfl := endS (show some _ = some r from hp)
        exact WJ.rt 203 rfl rfl rfl (fun ids H' fr => ⟨fr.ext0, rfl⟩)
      · obtain rfl := endS (show some _ = some r from hp)
        exact WJ.rt 207 rfl rfl rfl (fun ids H' fr => ⟨fr.ext0, rfl⟩)
    · obtain rfl := endS (show some _ = some r from hp)
      exact WJ.rt 211 rfl rfl rfl (fun ids H' fr => ⟨fr.ext0, rfl⟩)
  · obtain rfl := endS (show some _ = some r from hp)
    exact WJ.rt 214 rfl rfl rfl (fun ids H' fr => ⟨fr.ext0, rfl⟩)
/-! 57 tipstaff/tipstaffref03.value -/
def f57_l1 (x0_8 : Int) : Nat → Int → Option ((Int) ⊕ (Unit))
  | 0, _ => none
  | n + 1, x3 =>
    if x3 < 16 then
      (rd ([48, 49, 50, 51, 52, 53, 54, 55, 56, 57, 97, 98, 99, 100, 101, 102] : List UInt8) x3).bind fun b18 =>
      if ((b18.toNat : Nat) : Int) = x0_8 then
        some (Sum.inl (x3 : Int))
      else
        f57_l1 x0_8 n (IntKind.i64.wrap (x3 + 1))
    else
      some (Sum.inr ())

def f57 (k : Nat) (x0 : Int) : Option Int :=
  (if x0 ≥ 65 then
    if x0 ≤ 70 then
      some ((IntKind.u8.wrap ((IntKind.u8.wrap (x0 - 65)) + 97)))
    else
      some (x0)
  else
    some (x0)).bind fun x0_8 =>
    (f57_l1 x0_8 k 0).bind fun s => match s with
      | .inl st => some st
      | .inr _ => 
        some (-1)
set_option maxRecDepth 20000 in
theorem f57_ok {k : Nat} {H : Hp} {x0 : Int} {r : Int} (hp : f57 k x0 = some r) :
    SCall Tryz.prog 57 [.int .u8 x0] H (Ret fun v H' => Ext H H' ∧ R_3 r H.next H' v) := by
  unfold f57 at hp
  replace hp := topS hp
  refine SCall.g Tryz.func57 rfl rfl rfl rfl rfl (l := [(0, .v (.int .u8 x0))]) (fun _ => rfl) (fun B abB => ?_)
  refine WJ.adv 6 rfl ?_
  obtain ⟨K8, hK8, hp⟩ : ∃ K, K = _ ∧ Option.bind _ K = some r := ⟨_, rfl, cutS hp⟩
  refine WJ.cut 2 (α := Int) (fun y => [(0, .v (.int .u8 y))]) (fun y => []) (fun y => []) (fun y => B) (fun y => K8 ((y)) = some r) ?_ (fun j8 => ?_)
  · rintro x0_8 hp
    subst hK8
    show WJ _ _ _ B [] _ _ ⟨[(0, .v (.int .u8 x0_8))], [], true, 0⟩
    refine WJ.adv 6 rfl ?_
    obtain ⟨K9, hK9, hp⟩ : ∃ K, K = _ ∧ Option.bind _ K = some r := ⟨_, rfl, cutS hp⟩
    refine WJ.cut 2 (α := Unit) (fun y => []) (fun y => []) (fun y => []) (fun y => B) (fun y => K9 (Sum.inr ()) = some r) ?_ (fun j9 => ?_)
    · rintro u hp
      subst hK9
      show WJ _ _ _ B [] _ _ ⟨[], [], true, 0⟩
      obtain rfl := endS (show some _ = some r from hp)
      exact WJ.rt 204 rfl rfl rfl (fun ids H' fr => ⟨fr.ext0, rfl⟩)
    · refine WJ.lp 200 (α := Nat × Int) (fun y => [(0, .v (.int .u8 x0_8)), (3, .v (.int .i64 y.2))]) (fun y => []) (fun y => []) (fun y => B) (fun y => y.1) (fun y => Option.bind (f57_l1 x0_8 y.1 y.2) K9 = some r) (k, 0) rfl hp (by exact ⟨rfl, rfl, trivial⟩) rfl rfl rfl ?_
      rintro ⟨n, x3⟩ hp ih9
      show WJ _ _ _ B [] _ _ ⟨[(0, .v (.int .u8 x0_8)), (3, .v (.int .i64 x3))], [], true, 0⟩
      replace hp : Option.bind (f57_l1 x0_8 n x3) K9 = some r := hp
      cases n with
      | zero => rw [f57_l1] at hp; exact (noS hp).elim
      | succ n =>
        rw [f57_l1] at hp
        refine WJ.ci 204 hp rfl rfl rfl rfl rfl rfl rfl rfl rfl (fun hc14 hp => ?_) (fun hc14 hp => ?_)
        · obtain ⟨b18, e18, hp⟩ := bindS hp
          refine WJ.hd (v := .int .u8 ((b18.toNat : Nat) : Int)) 208 rfl rfl rfl rfl (fun ids H' fr => opD_index rfl (evV_eq _ _ _ _ _ rfl) (evV_eq _ _ _ _ _ rfl) (sidx us9 e18)) rfl ?_
          refine WJ.ci 201 hp rfl rfl rfl rfl rfl rfl rfl rfl rfl (fun hc20 hp => ?_) (fun hc20 hp => ?_)
          · subst hK9
            obtain rfl := endS (show some _ = some r from hp)
            exact WJ.rt 207 rfl rfl rfl (fun ids H' fr => ⟨fr.ext0, rfl⟩)
          · exact WJ.ag 209 rfl (by exact ⟨rfl, rfl, trivial⟩) rfl rfl rfl (ih9 (n, IntKind.i64.wrap (x3 + 1)) hp (Nat.lt_succ_self _))
        · exact WJ.goto 3 (j9 () hp) rfl rfl (by exact trivial) rfl rfl rfl
  · refine WJ.ci 202 hp rfl rfl rfl rfl rfl rfl rfl rfl rfl (fun hc5 hp => ?_) (fun hc5 hp => ?_)
    · refine WJ.ci 202 hp rfl rfl rfl rfl rfl rfl rfl rfl rfl (fun hc8 hp => ?_) (fun hc8 hp => ?_)
      · exact WJ.goto 9 (j8 (IntKind.u8.wrap ((IntKind.u8.wrap (x0 - 65)) + 97)) hp) rfl rfl (by exact ⟨rfl, trivial⟩) rfl rfl rfl
      · exact WJ.goto 4 (j8 x0 hp) rfl rfl (by exact ⟨rfl, trivial⟩) rfl rfl rfl
    · exact WJ.goto 7 (j8 x0 hp) rfl rfl (by exact ⟨rfl, trivial⟩) rfl rfl rfl
/-! 32 tipstaff/tipstaffref03.quoted -/
def f32_l1 (k : Nat) (x0 : List UInt8) : Nat → (List UInt8) → Int → Option (((List UInt8) × Int) ⊕ (Unit))
  | 0, _, _ => none
  | n + 1, x4, x5 =>
    if x5 < (x0.length : Int) then
      (sub x0 x5 (x0.length : Int)).bind fun s13 =>
      (f40 k s13).bind fun t14 =>
      (rd x0 x5).bind fun b37 =>
      if ((b37.toNat : Nat) : Int) = 34 then
        some (Sum.inl ((x4, IntKind.i64.wrap (x5 + 1)) : (List UInt8) × Int))
      else
        if t14 > 0 then
          (sub x0 x5 (IntKind.i64.wrap (x5 + t14))).bind fun s51 =>
          (scat x4 s51).bind fun s52 =>
          f32_l1 k x0 n s52 (IntKind.i64.wrap (x5 + t14))
        else
          (rd x0 x5).bind fun b59 =>
          (f41 ((b59.toNat : Nat) : Int)).bind fun t60 =>
          if t60 then
            (sub x0 x5 (IntKind.i64.wrap (x5 + 1))).bind fun s66 =>
            (scat x4 s66).bind fun s67 =>
            f32_l1 k x0 n s67 (IntKind.i64.wrap (x5 + 1))
          else
            (rd x0 x5).bind fun b73 =>
            if ((b73.toNat : Nat) : Int) = 92 then
              if (IntKind.i64.wrap (x5 + 1)) = (x0.length : Int) then
                some (Sum.inl ((([] : List UInt8), 0) : (List UInt8) × Int))
              else
                (rd x0 (IntKind.i64.wrap (x5 + 1))).bind fun b86 =>
                if ((b86.toNat : Nat) : Int) = 34 then
                  (sub x0 (IntKind.i64.wrap (x5 + 1)) (IntKind.i64.wrap (x5 + 2))).bind fun s101 =>
                  (scat x4 s101).bind fun s102 =>
                  f32_l1 k x0 n s102 (IntKind.i64.wrap (x5 + 2))
                else
                  (rd x0 (IntKind.i64.wrap (x5 + 1))).bind fun b92 =>
                  if ((b92.toNat : Nat) : Int) = 92 then
                    (sub x0 (IntKind.i64.wrap (x5 + 1)) (IntKind.i64.wrap (x5 + 2))).bind fun s101 =>
                    (scat x4 s101).bind fun s102 =>
                    f32_l1 k x0 n s102 (IntKind.i64.wrap (x5 + 2))
                  else
                    (rd x0 (IntKind.i64.wrap (x5 + 1))).bind fun b109 =>
                    if ((b109.toNat : Nat) : Int) = 120 then
                      if (IntKind.i64.wrap (x5 + 3)) ≥ (x0.length : Int) then
                        some (Sum.inl ((([] : List UInt8), 0) : (List UInt8) × Int))
                      else
                        (rd x0 (IntKind.i64.wrap (x5 + 2))).bind fun b122 =>
                        (f57 k ((b122.toNat : Nat) : Int)).bind fun t123 =>
                        if t123 < 0 then
                          some (Sum.inl ((([] : List UInt8), 0) : (List UInt8) × Int))
                        else
                          (rd x0 (IntKind.i64.wrap (x5 + 3))).bind fun b130 =>
                          (f57 k ((b130.toNat : Nat) : Int)).bind fun t131 =>
                          if t131 < 0 then
                            some (Sum.inl ((([] : List UInt8), 0) : (List UInt8) × Int))
                          else
                            (rd x0 (IntKind.i64.wrap (x5 + 2))).bind fun b19 =>
                            (f57 k ((b19.toNat : Nat) : Int)).bind fun t20 =>
                            (rd x0 (IntKind.i64.wrap (x5 + 3))).bind fun b25 =>
                            (f57 k ((b25.toNat : Nat) : Int)).bind fun t26 =>
                            (scat x4 (b8 ([IntKind.u8.wrap (IntKind.i64.wrap ((IntKind.i64.wrap (16 * t20)) + t26))]))).bind fun s31 =>
                            f32_l1 k x0 n s31 (IntKind.i64.wrap (x5 + 4))
                    else
                      some (Sum.inl ((([] : List UInt8), 0) : (List UInt8) × Int))
            else
              some (Sum.inl ((([] : List UInt8), 0) : (List UInt8) × Int))
    else
      some (Sum.inr ())

def f32 (k : Nat) (x0 : List UInt8) : Option ((List UInt8) × Int) :=
  (f32_l1 k x0 k ([] : List UInt8) 1).bind fun s => match s with
    | .inl st => some st
    | .inr _ => 
      some (([] : List UInt8), 0)
set_option maxRecDepth 20000 in
theorem f32_ok {k : Nat} {H : Hp} {x0 : List UInt8} {r : (List UInt8) × Int} (hp : f32 k x0 = some r) :
    SCall Tryz.prog 32 [.string (bs x0)] H (Ret fun v H' => Ext H H' ∧ R_9_3 r H.next H' v) := by
  unfold f32 at hp
  replace hp := topS hp
  refine SCall.g Tryz.func32 rfl rfl rfl rfl rfl (l := [(0, .v (.string (bs x0)))]) (fun _ => rfl) (fun B abB => ?_)
  refine WJ.adv 15 rfl ?_
  obtain ⟨K10, hK10, hp⟩ : ∃ K, K = _ ∧ Option.bind _ K = some r := ⟨_, rfl, cutS hp⟩
  refine WJ.cut 2 (α := Hp) (fun y => []) (fun y => []) (fun y => []) (fun y => y) (fun y => K10 (Sum.inr ()) = some r) ?_ (fun j10 => ?_)
  · rintro B8 hp
    subst hK10
    show WJ _ _ _ B8 [] _ _ ⟨[], [], true, 0⟩
    obtain rfl := endS (show some _ = some r from hp)
    exact WJ.rt 205 rfl rfl rfl (fun ids H' fr => ⟨fr.ext0, rfl⟩)
  · refine WJ.lp 200 (α := Nat × (List UInt8) × Int × Hp) (fun y => [(0, .v (.string (bs x0))), (4, .v (.string (bs y.2.1))), (5, .v (.int .i64 y.2.2.1))]) (fun y => []) (fun y => []) (fun y => y.2.2.2) (fun y => y.1) (fun y => Option.bind (f32_l1 k x0 y.1 y.2.1 y.2.2.1) K10 = some r) (k, ([] : List UInt8), 1, B) rfl hp (by exact ⟨rfl, rfl, rfl, trivial⟩) rfl rfl rfl ?_
    rintro ⟨n, x4, x5, B1⟩ hp ih10
    show WJ _ _ _ B1 [] _ _ ⟨[(0, .v (.string (bs x0))), (4, .v (.string (bs x4))), (5, .v (.int .i64 x5))], [], true, 0⟩
    replace hp : Option.bind (f32_l1 k x0 n x4 x5) K10 = some r := hp
    cases n with
    | zero => rw [f32_l1] at hp; exact (noS hp).elim
    | succ n =>
      rw [f32_l1] at hp
      refine WJ.ci 206 hp rfl rfl rfl rfl rfl rfl rfl rfl rfl (fun hc10 hp => ?_) (fun hc10 hp => ?_)
      · obtain ⟨s13, e13, hp⟩ := bindS hp
        refine WJ.hd (v := .string (bs s13)) 208 rfl rfl rfl rfl (fun ids H' fr => opD_sl rfl (evV_eq _ _ _ _ _ rfl) (evV_eq _ _ _ _ _ rfl) (sliceD_l us9 e13)) rfl ?_
        obtain ⟨t14, e14, hp⟩ := bindS hp
        refine WJ.cl 200 (R := R_3 t14) (fun hm h k => R_3.mono hm h k) rfl (fun ids H' fr => f40_ok e14) ?_
        rintro v B2 ⟨abB2, ivB2⟩ rfl
        refine ⟨_, rfl, ?_⟩
        obtain ⟨b37, e37, hp⟩ := bindS hp
        refine WJ.hd (v := .int .u8 ((b37.toNat : Nat) : Int)) 207 rfl rfl rfl rfl (fun ids H' fr => opD_index rfl (evV_eq _ _ _ _ _ rfl) (evV_eq _ _ _ _ _ rfl) (sidx us9 e37)) rfl ?_
        refine WJ.ci 200 hp rfl rfl rfl rfl rfl rfl rfl rfl rfl (fun hc38 hp => ?_) (fun hc38 hp => ?_)
        · subst hK10
          obtain rfl := endS (show some _ = some r from hp)
          exact WJ.rt 211 rfl rfl rfl (fun ids H' fr => ⟨fr.ext0, rfl⟩)
        · refine WJ.ci 206 hp rfl rfl rfl rfl rfl rfl rfl rfl rfl (fun hc44 hp => ?_) (fun hc44 hp => ?_)
          · obtain ⟨s51, e51, hp⟩ := bindS hp
            refine WJ.hd (v := .string (bs s51)) 211 rfl rfl rfl rfl (fun ids H' fr => opD_slh rfl (evV_eq _ _ _ _ _ rfl) (evV_eq _ _ _ _ _ rfl) (evV_eq _ _ _ _ _ rfl) (sliceD_lh us9 e51)) rfl ?_
            obtain ⟨s52, e52, hp⟩ := bindS hp
            refine WJ.hd (v := .string (bs s52)) 200 rfl rfl rfl rfl (fun ids H' fr => opD_bin rfl (evV_eq _ _ _ _ _ rfl) (evV_eq _ _ _ _ _ rfl) (bin_sadd e52)) rfl ?_
            exact WJ.ag 210 rfl (by exact ⟨rfl, rfl, rfl, trivial⟩) rfl rfl rfl (ih10 (n, s52, IntKind.i64.wrap (x5 + t14), B2) hp (Nat.lt_succ_self _))
          · obtain ⟨b59, e59, hp⟩ := bindS hp
            refine WJ.hd (v := .int .u8 ((b59.toNat : Nat) : Int)) 207 rfl rfl rfl rfl (fun ids H' fr => opD_index rfl (evV_eq _ _ _ _ _ rfl) (evV_eq _ _ _ _ _ rfl) (sidx us9 e59)) rfl ?_
            obtain ⟨t60, e60, hp⟩ := bindS hp
            refine WJ.cl 200 (R := R_4 t60) (fun hm h k => R_4.mono hm h k) rfl (fun ids H' fr => f41_ok e60) ?_
            rintro v B3 ⟨abB3, ivB3⟩ rfl
            refine ⟨_, rfl, ?_⟩
            cases t60
            · replace hp := (itS hp).2 Bool.false_ne_true
              obtain ⟨b73, e73, hp⟩ := bindS hp
              refine WJ.hd (v := .int .u8 ((b73.toNat : Nat) : Int)) 207 rfl rfl rfl rfl (fun ids H' fr => opD_index rfl (evV_eq _ _ _ _ _ rfl) (evV_eq _ _ _ _ _ rfl) (sidx us9 e73)) rfl ?_
              refine WJ.cn 200 hp rfl rfl rfl rfl rfl rfl rfl rfl rfl (fun hc74 hp => ?_) (fun hc74 hp => ?_)
              · subst hK10
                obtain rfl := endS (show some _ = some r from hp)
                exact WJ.rt 215 rfl rfl rfl (fun ids H' fr => ⟨fr.ext0, rfl⟩)
              · refine WJ.ci 205 hp rfl rfl rfl rfl rfl rfl rfl rfl rfl (fun hc80 hp => ?_) (fun hc80 hp => ?_)
                · subst hK10
                  obtain rfl := endS (show some _ = some r from hp)
                  exact WJ.rt 209 rfl rfl rfl (fun ids H' fr => ⟨fr.ext0, rfl⟩)
                · obtain ⟨b86, e86, hp⟩ := bindS hp
                  refine WJ.hd (v := .int .u8 ((b86.toNat : Nat) : Int)) 209 rfl rfl rfl rfl (fun ids H' fr => opD_index rfl (evV_eq _ _ _ _ _ rfl) (evV_eq _ _ _ _ _ rfl) (sidx us9 e86)) rfl ?_
                  refine WJ.ci 200 hp rfl rfl rfl rfl rfl rfl rfl rfl rfl (fun hc87 hp => ?_) (fun hc87 hp => ?_)
                  · obtain ⟨s101, e101, hp⟩ := bindS hp
                    refine WJ.hd (v := .string (bs s101)) 218 rfl rfl rfl rfl (fun ids H' fr => opD_slh rfl (evV_eq _ _ _ _ _ rfl) (evV_eq _ _ _ _ _ rfl) (evV_eq _ _ _ _ _ rfl) (sliceD_lh us9 e101)) rfl ?_
                    obtain ⟨s102, e102, hp⟩ := bindS hp
                    refine WJ.hd (v := .string (bs s102)) 200 rfl rfl rfl rfl (fun ids H' fr => opD_bin rfl (evV_eq _ _ _ _ _ rfl) (evV_eq _ _ _ _ _ rfl) (bin_sadd e102)) rfl ?_
                    exact WJ.ag 209 rfl (by exact ⟨rfl, rfl, rfl, trivial⟩) rfl rfl rfl (ih10 (n, s102, IntKind.i64.wrap (x5 + 2), B3) hp (Nat.lt_succ_self _))
                  · obtain ⟨b92, e92, hp⟩ := bindS hp
                    refine WJ.hd (v := .int .u8 ((b92.toNat : Nat) : Int)) 204 rfl rfl rfl rfl (fun ids H' fr => opD_index rfl (evV_eq _ _ _ _ _ rfl) (evV_eq _ _ _ _ _ rfl) (sidx us9 e92)) rfl ?_
                    refine WJ.ci 200 hp rfl rfl rfl rfl rfl rfl rfl rfl rfl (fun hc93 hp => ?_) (fun hc93 hp => ?_)
                    · obtain ⟨s101, e101, hp⟩ := bindS hp
                      refine WJ.hd (v := .string (bs s101)) 212 rfl rfl rfl rfl (fun ids H' fr => opD_slh rfl (evV_eq _ _ _ _ _ rfl) (evV_eq _ _ _ _ _ rfl) (evV_eq _ _ _ _ _ rfl) (sliceD_lh us9 e101)) rfl ?_
                      obtain ⟨s102, e102, hp⟩ := bindS hp
                      refine WJ.hd (v := .string (bs s102)) 200 rfl rfl rfl rfl (fun ids H' fr => opD_bin rfl (evV_eq _ _ _ _ _ rfl) (evV_eq _ _ _ _ _ rfl) (bin_sadd e102)) rfl ?_
                      exact WJ.ag 209 rfl (by exact ⟨rfl, rfl, rfl, trivial⟩) rfl rfl rfl (ih10 (n, s102, IntKind.i64.wrap (x5 + 2), B3) hp (Nat.lt_succ_self _))
                    · obtain ⟨b109, e109, hp⟩ := bindS hp
                      refine WJ.hd (v := .int .u8 ((b109.toNat : Nat) : Int)) 209 rfl rfl rfl rfl (fun ids H' fr => opD_index rfl (evV_eq _ _ _ _ _ rfl) (evV_eq _ _ _ _ _ rfl) (sidx us9 e109)) rfl ?_
                      refine WJ.cn 200 hp rfl rfl rfl rfl rfl rfl rfl rfl rfl (fun hc110 hp => ?_) (fun hc110 hp => ?_)
                      · subst hK10
                        obtain rfl := endS (show some _ = some r from hp)
                        exact WJ.rt 231 rfl rfl rfl (fun ids H' fr => ⟨fr.ext0, rfl⟩)
                      · refine WJ.ci 205 hp rfl rfl rfl rfl rfl rfl rfl rfl rfl (fun hc116 hp => ?_) (fun hc116 hp => ?_)
                        · subst hK10
                          obtain rfl := endS (show some _ = some r from hp)
                          exact WJ.rt 225 rfl rfl rfl (fun ids H' fr => ⟨fr.ext0, rfl⟩)
                        · obtain ⟨b122, e122, hp⟩ := bindS hp
                          refine WJ.hd (v := .int .u8 ((b122.toNat : Nat) : Int)) 205 rfl rfl rfl rfl (fun ids H' fr => opD_index rfl (evV_eq _ _ _ _ _ rfl) (evV_eq _ _ _ _ _ rfl) (sidx us9 e122)) rfl ?_
                          obtain ⟨t123, e123, hp⟩ := bindS hp
                          refine WJ.cl 200 (R := R_3 t123) (fun hm h k => R_3.mono hm h k) rfl (fun ids H' fr => f57_ok e123) ?_
                          rintro v B4 ⟨abB4, ivB4⟩ rfl
                          refine ⟨_, rfl, ?_⟩
                          refine WJ.ci 200 hp rfl rfl rfl rfl rfl rfl rfl rfl rfl (fun hc124 hp => ?_) (fun hc124 hp => ?_)
                          · subst hK10
                            obtain rfl := endS (show some _ = some r from hp)
                            exact WJ.rt 217 rfl rfl rfl (fun ids H' fr => ⟨fr.ext0, rfl⟩)
                          · obtain ⟨b130, e130, hp⟩ := bindS hp
                            refine WJ.hd (v := .int .u8 ((b130.toNat : Nat) : Int)) 205 rfl rfl rfl rfl (fun ids H' fr => opD_index rfl (evV_eq _ _ _ _ _ rfl) (evV_eq _ _ _ _ _ rfl) (sidx us9 e130)) rfl ?_
                            obtain ⟨t131, e131, hp⟩ := bindS hp
                            refine WJ.cl 200 (R := R_3 t131) (fun hm h k => R_3.mono hm h k) rfl (fun ids H' fr => f57_ok e131) ?_
                            rintro v B5 ⟨abB5, ivB5⟩ rfl
                            refine ⟨_, rfl, ?_⟩
                            refine WJ.ci 200 hp rfl rfl rfl rfl rfl rfl rfl rfl rfl (fun hc132 hp => ?_) (fun hc132 hp => ?_)
                            · subst hK10
                              obtain rfl := endS (show some _ = some r from hp)
                              exact WJ.rt 209 rfl rfl rfl (fun ids H' fr => ⟨fr.ext0, rfl⟩)
                            · refine WJ.dr 205 rfl gmix (by kernel_rfl) (by kernel_rfl) rfl ?_
                              obtain ⟨b19, e19, hp⟩ := bindS hp
                              refine WD.hd (v := .int .u8 ((b19.toNat : Nat) : Int)) rfl rfl rfl rfl (fun _ _ _ _ _ => side_no) (fun ids H' fr => opD_index rfl (evV_eq _ _ _ _ _ rfl) (evV_eq _ _ _ _ _ rfl) (sidx us9 e19)) rfl ?_
                              obtain ⟨t20, e20, hp⟩ := bindS hp
                              refine WD.cl (R := R_3 t20) (fun hm h k => R_3.mono hm h k) rfl (fun ids H' fr => f57_ok e20) ?_
                              rintro v B6 ⟨abB6, ivB6⟩ rfl
                              refine ⟨_, rfl, ?_⟩
                              obtain ⟨b25, e25, hp⟩ := bindS hp
                              refine WD.hd (v := .int .u8 ((b25.toNat : Nat) : Int)) rfl rfl rfl rfl (fun _ _ _ _ _ => side_no) (fun ids H' fr => opD_index rfl (evV_eq _ _ _ _ _ rfl) (evV_eq _ _ _ _ _ rfl) (sidx us9 e25)) rfl ?_
                              obtain ⟨t26, e26, hp⟩ := bindS hp
                              refine WD.cl (R := R_3 t26) (fun hm h k => R_3.mono hm h k) rfl (fun ids H' fr => f57_ok e26) ?_
                              rintro v B7 ⟨abB7, ivB7⟩ rfl
                              refine ⟨_, rfl, ?_⟩
                              refine WD.bs (cs := encL (kE .u8) [IntKind.u8.wrap (IntKind.i64.wrap ((IntKind.i64.wrap (16 * t20)) + t26))]) (sz := 1) (pl := [(0, .int .u8 (IntKind.u8.wrap (IntKind.i64.wrap ((IntKind.i64.wrap (16 * t20)) + t26))))]) rfl rfl rfl rfl rfl (fun _ _ => rfl) (fun _ => by rfl) rfl rfl ?_
                              intro b29
                              refine ⟨_, rfl, ?_⟩
                              refine WD.hd (v := .string (bs (b8 ([IntKind.u8.wrap (IntKind.i64.wrap ((IntKind.i64.wrap (16 * t20)) + t26))])))) rfl rfl rfl rfl (fun _ _ _ _ _ => side_no) (fun ids H' fr => opD_conv rfl (evV_eq _ _ _ _ _ rfl) (fr.convOwn (j := 0) rfl u61 us9 u8_5)) rfl ?_
                              obtain ⟨s31, e31, hp⟩ := bindS hp
                              refine WD.hd (v := .string (bs s31)) rfl rfl rfl rfl (fun _ _ _ _ _ => side_no) (fun ids H' fr => opD_bin rfl (evV_eq _ _ _ _ _ rfl) (evV_eq _ _ _ _ _ rfl) (bin_sadd e31)) rfl ?_
                              refine WD.done rfl ?_
                              exact WJ.ag 207 rfl (by exact ⟨rfl, rfl, rfl, trivial⟩) rfl rfl rfl (ih10 (n, s31, IntKind.i64.wrap (x5 + 4), B7) hp (Nat.lt_succ_self _))
            · replace hp := (itS hp).1 rfl
              obtain ⟨s66, e66, hp⟩ := bindS hp
              refine WJ.hd (v := .string (bs s66)) 210 rfl rfl rfl rfl (fun ids H' fr => opD_slh rfl (evV_eq _ _ _ _ _ rfl) (evV_eq _ _ _ _ _ rfl) (evV_eq _ _ _ _ _ rfl) (sliceD_lh us9 e66)) rfl ?_
              obtain ⟨s67, e67, hp⟩ := bindS hp
              refine WJ.hd (v := .string (bs s67)) 200 rfl rfl rfl rfl (fun ids H' fr => opD_bin rfl (evV_eq _ _ _ _ _ rfl) (evV_eq _ _ _ _ _ rfl) (bin_sadd e67)) rfl ?_
              exact WJ.ag 209 rfl (by exact ⟨rfl, rfl, rfl, trivial⟩) rfl rfl rfl (ih10 (n, s67, IntKind.i64.wrap (x5 + 1), B3) hp (Nat.lt_succ_self _))
      · exact WJ.goto 3 (j10 B1 hp) rfl rfl (by exact trivial) rfl rfl rfl
/-! 43 tipstaff/tipstaffref03.letter -/
def f43 (x0 : Int) : Option Bool :=
  if x0 ≥ 97 then
    if x0 ≤ 122 then
      some true
    else
      if x0 ≥ 65 then
        (some (decide (x0 ≤ 90))).bind fun t14 =>
        some t14
      else
        some false
  else
    if x0 ≥ 65 then
      (some (decide (x0 ≤ 90))).bind fun t14 =>
      some t14
    else
      some false
set_option maxRecDepth 20000 in
theorem f43_ok {H : Hp} {x0 : Int} {r : Bool} (hp : f43 x0 = some r) :
    SCall Tryz.prog 43 [.int .u8 x0] H (Ret fun v H' => Ext H H' ∧ R_4 r H.next H' v) := by
  unfold f43 at hp
  replace hp := topS hp
  refine SCall.g Tryz.func43 rfl rfl rfl rfl rfl (l := [(0, .v (.int .u8 x0))]) (fun _ => rfl) (fun B abB => ?_)
  refine WJ.ci 207 hp rfl rfl rfl rfl rfl rfl rfl rfl rfl (fun hc4 hp => ?_) (fun hc4 hp => ?_)
  · refine WJ.ci 202 hp rfl rfl rfl rfl rfl rfl rfl rfl rfl (fun hc7 hp => ?_) (fun hc7 hp => ?_)
    · obtain rfl := endS (show some _ = some r from hp)
      exact WJ.rt 211 rfl rfl rfl (fun ids H' fr => ⟨fr.ext0, rfl⟩)
    · refine WJ.ci 203 hp rfl rfl rfl rfl rfl rfl rfl rfl rfl (fun hc11 hp => ?_) (fun hc11 hp => ?_)
      · obtain ⟨t14, e14, hp⟩ := bindS hp
        refine WJ.cv 202 (b := t14) (H0 := ⟨.nil, 0, 0⟩) rfl rfl rfl rfl rfl rfl (by rw [← endS e14]; exact rfl) rfl ?_
        obtain rfl := endS (show some _ = some r from hp)
        exact WJ.rt 204 rfl rfl rfl (fun ids H' fr => ⟨fr.ext0, rfl⟩)
      · obtain rfl := endS (show some _ = some r from hp)
        exact WJ.rt 207 rfl rfl rfl (fun ids H' fr => ⟨fr.ext0, rfl⟩)
  · refine WJ.ci 206 hp rfl rfl rfl rfl rfl rfl rfl rfl rfl (fun hc11 hp => ?_) (fun hc11 hp => ?_)
    · obtain ⟨t14, e14, hp⟩ := bindS hp
      refine WJ.cv 202 (b := t14) (H0 := ⟨.nil, 0, 0⟩) rfl rfl rfl rfl rfl rfl (by rw [← endS e14]; exact rfl) rfl ?_
      obtain rfl := endS (show some _ = some r from hp)
      exact WJ.rt 204 rfl rfl rfl (fun ids H' fr => ⟨fr.ext0, rfl⟩)
    · obtain rfl := endS (show some _ = some r from hp)
      exact WJ.rt 207 rfl rfl rfl (fun ids H' fr => ⟨fr.ext0, rfl⟩)
/-! 44 tipstaff/tipstaffref03.digit -/
def f44 (x0 : Int) : Option Bool :=
  if x0 ≥ 48 then
    (some (decide (x0 ≤ 57))).bind fun t7 =>
    some t7
  else
    some false
set_option maxRecDepth 20000 in
theorem f44_ok {H : Hp} {x0 : Int} {r : Bool} (hp : f44 x0 = some r) :
    SCall Tryz.prog 44 [.int .u8 x0] H (Ret fun v H' => Ext H H' ∧ R_4 r H.next H' v) := by
  unfold f44 at hp
  replace hp := topS hp
  refine SCall.g Tryz.func44 rfl rfl rfl rfl rfl (l := [(0, .v (.int .u8 x0))]) (fun _ => rfl) (fun B abB => ?_)
  refine WJ.ci 207 hp rfl rfl rfl rfl rfl rfl rfl rfl rfl (fun hc4 hp => ?_) (fun hc4 hp => ?_)
  · obtain ⟨t7, e7, hp⟩ := bindS hp
    refine WJ.cv 202 (b := t7) (H0 := ⟨.nil, 0, 0⟩) rfl rfl rfl rfl rfl rfl (by rw [← endS e7]; exact rfl) rfl ?_
    obtain rfl := endS (show some _ = some r from hp)
    exact WJ.rt 203 rfl rfl rfl (fun ids H' fr => ⟨fr.ext0, rfl⟩)
  · obtain rfl := endS (show some _ = some r from hp)
    exact WJ.rt 206 rfl rfl rfl (fun ids H' fr => ⟨fr.ext0, rfl⟩)
/-! 17 tipstaff/tipstaffref03.Name -/
def f17_l1 (x0 : List UInt8) : Nat → Int → Option ((Bool) ⊕ (Unit))
  | 0, _ => none
  | n + 1, x3 =>
    if x3 < (x0.length : Int) then
      (rd x0 x3).bind fun b26 =>
      (f43 ((b26.toNat : Nat) : Int)).bind fun t27 =>
      if t27 then
        f17_l1 x0 n (IntKind.i64.wrap (x3 + 1))
      else
        (rd x0 x3).bind fun b32 =>
        (f44 ((b32.toNat : Nat) : Int)).bind fun t33 =>
        if t33 then
          f17_l1 x0 n (IntKind.i64.wrap (x3 + 1))
        else
          (rd x0 x3).bind fun b39 =>
          if ((b39.toNat : Nat) : Int) = 45 then
            f17_l1 x0 n (IntKind.i64.wrap (x3 + 1))
          else
            some (Sum.inl (false : Bool))
    else
      some (Sum.inr ())

def f17 (k : Nat) (x0 : List UInt8) : Option Bool :=
  if (x0.length : Int) < 1 then
    some false
  else
    if (x0.length : Int) > 16 then
      some false
    else
      (rd x0 0).bind fun b14 =>
      (f43 ((b14.toNat : Nat) : Int)).bind fun t15 =>
      if t15 then
        (f17_l1 x0 k 0).bind fun s => match s with
          | .inl st => some st
          | .inr _ => 
            some true
      else
        some false
set_option maxRecDepth 20000 in
theorem f17_ok {k : Nat} {H : Hp} {x0 : List UInt8} {r : Bool} (hp : f17 k x0 = some r) :
    SCall Tryz.prog 17 [.string (bs x0)] H (Ret fun v H' => Ext H H' ∧ R_4 r H.next H' v) := by
  unfold f17 at hp
  replace hp := topS hp
  refine SCall.g Tryz.func17 rfl rfl rfl rfl rfl (l := [(0, .v (.string (bs x0)))]) (fun _ => rfl) (fun B abB => ?_)
  refine WJ.ci 209 hp rfl rfl rfl rfl rfl rfl rfl rfl rfl (fun hc6 hp => ?_) (fun hc6 hp => ?_)
  · obtain rfl := endS (show some _ = some r from hp)
    exact WJ.rt 217 rfl rfl rfl (fun ids H' fr => ⟨fr.ext0, rfl⟩)
  · refine WJ.ci 203 hp rfl rfl rfl rfl rfl rfl rfl rfl rfl (fun hc10 hp => ?_) (fun hc10 hp => ?_)
    · obtain rfl := endS (show some _ = some r from hp)
      exact WJ.rt 213 rfl rfl rfl (fun ids H' fr => ⟨fr.ext0, rfl⟩)
    · obtain ⟨b14, e14, hp⟩ := bindS hp
      refine WJ.hd (v := .int .u8 ((b14.toNat : Nat) : Int)) 203 rfl rfl rfl rfl (fun ids H' fr => opD_index rfl (evV_eq _ _ _ _ _ rfl) (evV_eq _ _ _ _ _ rfl) (sidx us9 e14)) rfl ?_
      obtain ⟨t15, e15, hp⟩ := bindS hp
      refine WJ.cl 200 (R := R_4 t15) (fun hm h k => R_4.mono hm h k) rfl (fun ids H' fr => f43_ok e15) ?_
      rintro v B1 ⟨abB1, ivB1⟩ rfl
      refine ⟨_, rfl, ?_⟩
      cases t15
      · replace hp := (itS hp).2 Bool.false_ne_true
        obtain rfl := endS (show some _ = some r from hp)
        exact WJ.rt 208 rfl rfl rfl (fun ids H' fr => ⟨fr.ext0, rfl⟩)
      · replace hp := (itS hp).1 rfl
        refine WJ.adv 11 rfl ?_
        obtain ⟨K11, hK11, hp⟩ : ∃ K, K = _ ∧ Option.bind _ K = some r := ⟨_, rfl, cutS hp⟩
        refine WJ.cut 2 (α := Hp) (fun y => []) (fun y => []) (fun y => []) (fun y => y) (fun y => K11 (Sum.inr ()) = some r) ?_ (fun j11 => ?_)
        · rintro B5 hp
          subst hK11
          show WJ _ _ _ B5 [] _ _ ⟨[], [], true, 0⟩
          obtain rfl := endS (show some _ = some r from hp)
          exact WJ.rt 204 rfl rfl rfl (fun ids H' fr => ⟨fr.ext0, rfl⟩)
        · refine WJ.lp 200 (α := Nat × Int × Hp) (fun y => [(0, .v (.string (bs x0))), (3, .v (.int .i64 y.2.1))]) (fun y => []) (fun y => []) (fun y => y.2.2) (fun y => y.1) (fun y => Option.bind (f17_l1 x0 y.1 y.2.1) K11 = some r) (k, 0, B1) rfl hp (by exact ⟨rfl, rfl, trivial⟩) rfl rfl rfl ?_
          rintro ⟨n, x3, B2⟩ hp ih11
          show WJ _ _ _ B2 [] _ _ ⟨[(0, .v (.string (bs x0))), (3, .v (.int .i64 x3))], [], true, 0⟩
          replace hp : Option.bind (f17_l1 x0 n x3) K11 = some r := hp
          cases n with
          | zero => rw [f17_l1] at hp; exact (noS hp).elim
          | succ n =>
            rw [f17_l1] at hp
            refine WJ.ci 206 hp rfl rfl rfl rfl rfl rfl rfl rfl rfl (fun hc21 hp => ?_) (fun hc21 hp => ?_)
            · obtain ⟨b26, e26, hp⟩ := bindS hp
              refine WJ.hd (v := .int .u8 ((b26.toNat : Nat) : Int)) 209 rfl rfl rfl rfl (fun ids H' fr => opD_index rfl (evV_eq _ _ _ _ _ rfl) (evV_eq _ _ _ _ _ rfl) (sidx us9 e26)) rfl ?_
              obtain ⟨t27, e27, hp⟩ := bindS hp
              refine WJ.cl 200 (R := R_4 t27) (fun hm h k => R_4.mono hm h k) rfl (fun ids H' fr => f43_ok e27) ?_
              rintro v B3 ⟨abB3, ivB3⟩ rfl
              refine ⟨_, rfl, ?_⟩
              cases t27
              · replace hp := (itS hp).2 Bool.false_ne_true
                obtain ⟨b32, e32, hp⟩ := bindS hp
                refine WJ.hd (v := .int .u8 ((b32.toNat : Nat) : Int)) 204 rfl rfl rfl rfl (fun ids H' fr => opD_index rfl (evV_eq _ _ _ _ _ rfl) (evV_eq _ _ _ _ _ rfl) (sidx us9 e32)) rfl ?_
                obtain ⟨t33, e33, hp⟩ := bindS hp
                refine WJ.cl 200 (R := R_4 t33) (fun hm h k => R_4.mono hm h k) rfl (fun ids H' fr => f44_ok e33) ?_
                rintro v B4 ⟨abB4, ivB4⟩ rfl
                refine ⟨_, rfl, ?_⟩
                cases t33
                · replace hp := (itS hp).2 Bool.false_ne_true
                  obtain ⟨b39, e39, hp⟩ := bindS hp
                  refine WJ.hd (v := .int .u8 ((b39.toNat : Nat) : Int)) 205 rfl rfl rfl rfl (fun ids H' fr => opD_index rfl (evV_eq _ _ _ _ _ rfl) (evV_eq _ _ _ _ _ rfl) (sidx us9 e39)) rfl ?_
                  refine WJ.cn 200 hp rfl rfl rfl rfl rfl rfl rfl rfl rfl (fun hc40 hp => ?_) (fun hc40 hp => ?_)
                  · subst hK11
                    obtain rfl := endS (show some _ = some r from hp)
                    exact WJ.rt 207 rfl rfl rfl (fun ids H' fr => ⟨fr.ext0, rfl⟩)
                  · exact WJ.ag 210 rfl (by exact ⟨rfl, rfl, trivial⟩) rfl rfl rfl (ih11 (n, IntKind.i64.wrap (x3 + 1), B4) hp (Nat.lt_succ_self _))
                · replace hp := (itS hp).1 rfl
                  exact WJ.ag 217 rfl (by exact ⟨rfl, rfl, trivial⟩) rfl rfl rfl (ih11 (n, IntKind.i64.wrap (x3 + 1), B4) hp (Nat.lt_succ_self _))
              · replace hp := (itS hp).1 rfl
                exact WJ.ag 223 rfl (by exact ⟨rfl, rfl, trivial⟩) rfl rfl rfl (ih11 (n, IntKind.i64.wrap (x3 + 1), B3) hp (Nat.lt_succ_self _))
            · exact WJ.goto 3 (j11 B2 hp) rfl rfl (by exact trivial) rfl rfl rfl
/-! 69 tipstaff/tipstaffref03.number -/
def f69_l1 (x0_13 : List UInt8) : Nat → Int → Int → Option ((Int × Bool) ⊕ (Int))
  | 0, _, _ => none
  | n + 1, x5, x6 =>
    if x6 < (x0_13.length : Int) then
      (rd x0_13 x6).bind fun b46 =>
      (f44 ((b46.toNat : Nat) : Int)).bind fun t47 =>
      if t47 then
        (rd x0_13 x6).bind fun b53 =>
        f69_l1 x0_13 n (IntKind.i64.wrap ((IntKind.i64.wrap (10 * x5)) + (IntKind.i64.wrap (IntKind.u8.wrap (((b53.toNat : Nat) : Int) - 48))))) (IntKind.i64.wrap (x6 + 1))
      else
        some (Sum.inl ((0, false) : Int × Bool))
    else
      some (Sum.inr x5)

def f69 (k : Nat) (x0 : List UInt8) : Option (Int × Bool) :=
  (if (x0.length : Int) > 1 then
    (rd x0 0).bind fun b12 =>
    (some (((b12.toNat : Nat) : Int) == 45)).bind fun t13 =>
    some (t13)
  else
    some (false)).bind fun x4_12 =>
    (if x4_12 then
      (sub x0 1 (x0.length : Int)).bind fun s17 =>
      some (s17)
    else
      some (x0)).bind fun x0_13 =>
      (if x0_13 = ([] : List UInt8) then
        some (Sum.inl ((0, false) : Int × Bool))
      else
        if (x0_13.length : Int) > 13 then
          some (Sum.inl ((0, false) : Int × Bool))
        else
          (rd x0_13 0).bind fun b27 =>
          if ((b27.toNat : Nat) : Int) = 48 then
            if (x0_13.length : Int) > 1 then
              some (Sum.inl ((0, false) : Int × Bool))
            else
              if x4_12 then
                some (Sum.inl ((0, false) : Int × Bool))
              else
                some (Sum.inr ())
          else
            some (Sum.inr ())).bind fun s => match s with
        | .inl st => some st
        | .inr _ => 
          (f69_l1 x0_13 k 0 0).bind fun s => match s with
            | .inl st => some st
            | .inr x5_15 => 
              if x5_15 > 1099511627776 then
                some (0, false)
              else
                (if x4_12 then
                  some ((IntKind.i64.wrap (0 - x5_15)))
                else
                  some (x5_15)).bind fun x5_16 =>
                  some (x5_16, true)
set_option maxRecDepth 20000 in
theorem f69_ok {k : Nat} {H : Hp} {x0 : List UInt8} {r : Int × Bool} (hp : f69 k x0 = some r) :
    SCall Tryz.prog 69 [.string (bs x0)] H (Ret fun v H' => Ext H H' ∧ R_3_4 r H.next H' v) := by
  unfold f69 at hp
  replace hp := topS hp
  refine SCall.g Tryz.func69 rfl rfl rfl rfl rfl (l := [(0, .v (.string (bs x0)))]) (fun _ => rfl) (fun B abB => ?_)
  refine WJ.adv 6 rfl ?_
  obtain ⟨K12, hK12, hp⟩ : ∃ K, K = _ ∧ Option.bind _ K = some r := ⟨_, rfl, cutS hp⟩
  refine WJ.cut 1 (α := Bool) (fun y => [(0, .v (.string (bs x0))), (4, .v (.bool y))]) (fun y => []) (fun y => []) (fun y => B) (fun y => K12 ((y)) = some r) ?_ (fun j12 => ?_)
  · rintro x4_12 hp
    subst hK12
    show WJ _ _ _ B [] _ _ ⟨[(0, .v (.string (bs x0))), (4, .v (.bool x4_12))], [], true, 0⟩
    refine WJ.adv 5 rfl ?_
    obtain ⟨K13, hK13, hp⟩ : ∃ K, K = _ ∧ Option.bind _ K = some r := ⟨_, rfl, cutS hp⟩
    refine WJ.cut 1 (α := (List UInt8)) (fun y => [(0, .v (.string (bs y))), (4, .v (.bool x4_12))]) (fun y => []) (fun y => []) (fun y => B) (fun y => K13 ((y)) = some r) ?_ (fun j13 => ?_)
    · rintro x0_13 hp
      subst hK13
      show WJ _ _ _ B [] _ _ ⟨[(0, .v (.string (bs x0_13))), (4, .v (.bool x4_12))], [], true, 0⟩
      refine WJ.adv 2 rfl ?_
      obtain ⟨K14, hK14, hp⟩ : ∃ K, K = _ ∧ Option.bind _ K = some r := ⟨_, rfl, cutS hp⟩
      refine WJ.cut 2 (α := Unit) (fun y => [(0, .v (.string (bs x0_13))), (4, .v (.bool x4_12))]) (fun y => []) (fun y => []) (fun y => B) (fun y => K14 ((Sum.inr ())) = some r) ?_ (fun j14 => ?_)
      · rintro u hp
        subst hK14
        show WJ _ _ _ B [] _ _ ⟨[(0, .v (.string (bs x0_13))), (4, .v (.bool x4_12))], [], true, 0⟩
        refine WJ.adv 10 rfl ?_
        obtain ⟨K15, hK15, hp⟩ : ∃ K, K = _ ∧ Option.bind _ K = some r := ⟨_, rfl, cutS hp⟩
        refine WJ.cut 2 (α := Int × Hp) (fun y => [(4, .v (.bool x4_12)), (5, .v (.int .i64 y.1))]) (fun y => []) (fun y => []) (fun y => y.2) (fun y => K15 (Sum.inr y.1) = some r) ?_ (fun j15 => ?_)
        · rintro ⟨x5_15, B3⟩ hp
          subst hK15
          show WJ _ _ _ B3 [] _ _ ⟨[(4, .v (.bool x4_12)), (5, .v (.int .i64 x5_15))], [], true, 0⟩
          refine WJ.ci 204 hp rfl rfl rfl rfl rfl rfl rfl rfl rfl (fun hc58 hp => ?_) (fun hc58 hp => ?_)
          · obtain rfl := endS (show some _ = some r from hp)
            exact WJ.rt 207 rfl rfl rfl (fun ids H' fr => ⟨fr.ext0, rfl⟩)
          · refine WJ.adv 8 rfl ?_
            obtain ⟨K16, hK16, hp⟩ : ∃ K, K = _ ∧ Option.bind _ K = some r := ⟨_, rfl, cutS hp⟩
            refine WJ.cut 1 (α := Int) (fun y => [(5, .v (.int .i64 y))]) (fun y => []) (fun y => []) (fun y => B3) (fun y => K16 ((y)) = some r) ?_ (fun j16 => ?_)
            · rintro x5_16 hp
              subst hK16
              show WJ _ _ _ B3 [] _ _ ⟨[(5, .v (.int .i64 x5_16))], [], true, 0⟩
              obtain rfl := endS (show some _ = some r from hp)
              exact WJ.rt 206 rfl rfl rfl (fun ids H' fr => ⟨fr.ext0, rfl⟩)
            · cases x4_12
              · replace hp := (itS hp).2 Bool.false_ne_true
                exact WJ.goto 2 (j16 x5_15 hp) rfl rfl (by exact ⟨rfl, trivial⟩) rfl rfl rfl
              · replace hp := (itS hp).1 rfl
                exact WJ.goto 6 (j16 (IntKind.i64.wrap (0 - x5_15)) hp) rfl rfl (by exact ⟨rfl, trivial⟩) rfl rfl rfl
        · refine WJ.lp 200 (α := Nat × Int × Int × Hp) (fun y => [(0, .v (.string (bs x0_13))), (4, .v (.bool x4_12)), (5, .v (.int .i64 y.2.1)), (6, .v (.int .i64 y.2.2.1))]) (fun y => []) (fun y => []) (fun y => y.2.2.2) (fun y => y.1) (fun y => Option.bind (f69_l1 x0_13 y.1 y.2.1 y.2.2.1) K15 = some r) (k, 0, 0, B) rfl hp (by exact ⟨rfl, rfl, rfl, rfl, trivial⟩) rfl rfl rfl ?_
          rintro ⟨n, x5, x6, B1⟩ hp ih15
          show WJ _ _ _ B1 [] _ _ ⟨[(0, .v (.string (bs x0_13))), (4, .v (.bool x4_12)), (5, .v (.int .i64 x5)), (6, .v (.int .i64 x6))], [], true, 0⟩
          replace hp : Option.bind (f69_l1 x0_13 n x5 x6) K15 = some r := hp
          cases n with
          | zero => rw [f69_l1] at hp; exact (noS hp).elim
          | succ n =>
            rw [f69_l1] at hp
            refine WJ.ci 206 hp rfl rfl rfl rfl rfl rfl rfl rfl rfl (fun hc41 hp => ?_) (fun hc41 hp => ?_)
            · obtain ⟨b46, e46, hp⟩ := bindS hp
              refine WJ.hd (v := .int .u8 ((b46.toNat : Nat) : Int)) 210 rfl rfl rfl rfl (fun ids H' fr => opD_index rfl (evV_eq _ _ _ _ _ rfl) (evV_eq _ _ _ _ _ rfl) (sidx us9 e46)) rfl ?_
              obtain ⟨t47, e47, hp⟩ := bindS hp
              refine WJ.cl 200 (R := R_4 t47) (fun hm h k => R_4.mono hm h k) rfl (fun ids H' fr => f44_ok e47) ?_
              rintro v B2 ⟨abB2, ivB2⟩ rfl
              refine ⟨_, rfl, ?_⟩
              cases t47
              · replace hp := (itS hp).2 Bool.false_ne_true
                subst hK15
                obtain rfl := endS (show some _ = some r from hp)
                exact WJ.rt 208 rfl rfl rfl (fun ids H' fr => ⟨fr.ext0, rfl⟩)
              · replace hp := (itS hp).1 rfl
                obtain ⟨b53, e53, hp⟩ := bindS hp
                refine WJ.hd (v := .int .u8 ((b53.toNat : Nat) : Int)) 209 rfl rfl rfl rfl (fun ids H' fr => opD_index rfl (evV_eq _ _ _ _ _ rfl) (evV_eq _ _ _ _ _ rfl) (sidx us9 e53)) rfl ?_
                exact WJ.ag 211 rfl (by exact ⟨rfl, rfl, rfl, rfl, trivial⟩) rfl rfl rfl (ih15 (n, IntKind.i64.wrap ((IntKind.i64.wrap (10 * x5)) + (IntKind.i64.wrap (IntKind.u8.wrap (((b53.toNat : Nat) : Int) - 48)))), IntKind.i64.wrap (x6 + 1), B2) hp (Nat.lt_succ_self _))
            · exact WJ.goto 3 (j15 (x5, B1) hp) rfl rfl (by exact ⟨rfl, rfl, trivial⟩) rfl rfl rfl
      · refine WJ.ci 202 hp rfl rfl rfl rfl rfl rfl (opD_streq rfl rfl rfl) rfl rfl (fun hc19 hp => ?_) (fun hc19 hp => ?_)
        · subst hK14
          obtain rfl := endS (show some _ = some r from hp)
          exact WJ.rt 225 rfl rfl rfl (fun ids H' fr => ⟨fr.ext0, rfl⟩)
        · refine WJ.ci 203 hp rfl rfl rfl rfl rfl rfl rfl rfl rfl (fun hc23 hp => ?_) (fun hc23 hp => ?_)
          · subst hK14
            obtain rfl := endS (show some _ = some r from hp)
            exact WJ.rt 221 rfl rfl rfl (fun ids H' fr => ⟨fr.ext0, rfl⟩)
          · obtain ⟨b27, e27, hp⟩ := bindS hp
            refine WJ.hd (v := .int .u8 ((b27.toNat : Nat) : Int)) 203 rfl rfl rfl rfl (fun ids H' fr => opD_index rfl (evV_eq _ _ _ _ _ rfl) (evV_eq _ _ _ _ _ rfl) (sidx us9 e27)) rfl ?_
            refine WJ.ci 200 hp rfl rfl rfl rfl rfl rfl rfl rfl rfl (fun hc28 hp => ?_) (fun hc28 hp => ?_)
            · refine WJ.ci 203 hp rfl rfl rfl rfl rfl rfl rfl rfl rfl (fun hc32 hp => ?_) (fun hc32 hp => ?_)
              · subst hK14
                obtain rfl := endS (show some _ = some r from hp)
                exact WJ.rt 212 rfl rfl rfl (fun ids H' fr => ⟨fr.ext0, rfl⟩)
              · cases x4_12
                · replace hp := (itS hp).2 Bool.false_ne_true
                  exact WJ.goto 8 (j14 () hp) rfl rfl (by exact ⟨rfl, rfl, trivial⟩) rfl rfl rfl
                · replace hp := (itS hp).1 rfl
                  subst hK14
                  obtain rfl := endS (show some _ = some r from hp)
                  exact WJ.rt 212 rfl rfl rfl (fun ids H' fr => ⟨fr.ext0, rfl⟩)
            · exact WJ.goto 12 (j14 () hp) rfl rfl (by exact ⟨rfl, rfl, trivial⟩) rfl rfl rfl
    · cases x4_12
      · replace hp := (itS hp).2 Bool.false_ne_true
        exact WJ.goto 2 (j13 x0 hp) rfl rfl (by exact ⟨rfl, rfl, trivial⟩) rfl rfl rfl
      · replace hp := (itS hp).1 rfl
        obtain ⟨s17, e17, hp⟩ := bindS hp
        refine WJ.hd (v := .string (bs s17)) 203 rfl rfl rfl rfl (fun ids H' fr => opD_sl rfl (evV_eq _ _ _ _ _ rfl) (evV_eq _ _ _ _ _ rfl) (sliceD_l us9 e17)) rfl ?_
        exact WJ.goto 2 (j13 s17 hp) rfl rfl (by exact ⟨rfl, rfl, trivial⟩) rfl rfl rfl
  · refine WJ.ci 203 hp rfl rfl rfl rfl rfl rfl rfl rfl rfl (fun hc9 hp => ?_) (fun hc9 hp => ?_)
    · obtain ⟨b12, e12, hp⟩ := bindS hp
      refine WJ.hd (v := .int .u8 ((b12.toNat : Nat) : Int)) 202 rfl rfl rfl rfl (fun ids H' fr => opD_index rfl (evV_eq _ _ _ _ _ rfl) (evV_eq _ _ _ _ _ rfl) (sidx us9 e12)) rfl ?_
      obtain ⟨t13, e13, hp⟩ := bindS hp
      refine WJ.cv 200 (b := t13) (H0 := ⟨.nil, 0, 0⟩) rfl rfl rfl rfl rfl rfl (by rw [← endS e13]; exact rfl) rfl ?_
      exact WJ.goto 3 (j12 t13 hp) rfl rfl (by exact ⟨rfl, rfl, trivial⟩) rfl rfl rfl
    · exact WJ.goto 7 (j12 false hp) rfl rfl (by exact ⟨rfl, rfl, trivial⟩) rfl rfl rfl
/-! 55 tipstaff/tipstaffref03.word -/
def f55_l1 (x0 : List UInt8) : Nat → Int → Option (Int)
  | 0, _ => none
  | n + 1, x8 =>
    if x8 < (x0.length : Int) then
      (rd x0 x8).bind fun b53 =>
      (f54 ((b53.toNat : Nat) : Int)).bind fun t54 =>
      if t54 then
        some (x8)
      else
        f55_l1 x0 n (IntKind.i64.wrap (x8 + 1))
    else
      some (x8)

def f55 (k : Nat) (x0 : List UInt8) (x1 : Int) : Option (RowWord × Int) :=
  (rd x0 x1).bind fun b14 =>
  if ((b14.toNat : Nat) : Int) = 34 then
    (sub x0 x1 (x0.length : Int)).bind fun s19 =>
    (f32 k s19).bind fun (t20_0, t20_1) =>
    (if t20_1 > 0 then
      if (IntKind.i64.wrap (x1 + t20_1)) < (x0.length : Int) then
        (rd x0 (IntKind.i64.wrap (x1 + t20_1))).bind fun b38 =>
        (f54 ((b38.toNat : Nat) : Int)).bind fun t39 =>
        if t39 then
          some (t20_1)
        else
          some ((0 : Int))
      else
        some (t20_1)
    else
      some (t20_1)).bind fun x7_17 =>
      some ((RowWord.mk 0 3 t20_0 0), x7_17)
  else
    (f55_l1 x0 k x1).bind fun x8_18 =>
      (sub x0 x1 x8_18).bind fun s62 =>
      (f17 k s62).bind fun t64 =>
      if t64 then
        some ((RowWord.mk 0 1 s62 0), (s62.length : Int))
      else
        (f69 k s62).bind fun (t71_0, t71_1) =>
        if t71_1 then
          some ((RowWord.mk 0 2 ([] : List UInt8) t71_0), (s62.length : Int))
        else
          some ((RowWord.mk 0 0 ([] : List UInt8) 0), 0)
set_option maxRecDepth 20000 in
theorem f55_ok {k : Nat} {H : Hp} {x0 : List UInt8} {x1 : Int} {r : RowWord × Int} (hp : f55 k x0 x1 = some r) :
    SCall Tryz.prog 55 [.string (bs x0), .int .i64 x1] H (Ret fun v H' => Ext H H' ∧ R_36_3 r H.next H' v) := by
  unfold f55 at hp
  replace hp := topS hp
  refine SCall.g Tryz.func55 rfl rfl rfl rfl rfl (l := [(0, .v (.string (bs x0))), (1, .v (.int .i64 x1))]) (fun _ => rfl) (fun B abB => ?_)
  obtain ⟨b14, e14, hp⟩ := bindS hp
  refine WJ.hd (v := .int .u8 ((b14.toNat : Nat) : Int)) 210 rfl rfl rfl rfl (fun ids H' fr => opD_index rfl (evV_eq _ _ _ _ _ rfl) (evV_eq _ _ _ _ _ rfl) (sidx us9 e14)) rfl ?_
  refine WJ.ci 200 hp rfl rfl rfl rfl rfl rfl rfl rfl rfl (fun hc15 hp => ?_) (fun hc15 hp => ?_)
  · obtain ⟨s19, e19, hp⟩ := bindS hp
    refine WJ.hd (v := .string (bs s19)) 206 rfl rfl rfl rfl (fun ids H' fr => opD_sl rfl (evV_eq _ _ _ _ _ rfl) (evV_eq _ _ _ _ _ rfl) (sliceD_l us9 e19)) rfl ?_
    obtain ⟨⟨t20_0, t20_1⟩, e20, hp⟩ := bindS hp
    refine WJ.cl 200 (R := R_9_3 ⟨t20_0, t20_1⟩) (fun hm h k => R_9_3.mono hm h k) rfl (fun ids H' fr => f32_ok e20) ?_
    rintro v B1 ⟨abB1, ivB1⟩ rfl
    refine ⟨_, rfl, ?_⟩
    refine WJ.adv 8 rfl ?_
    obtain ⟨K17, hK17, hp⟩ : ∃ K, K = _ ∧ Option.bind _ K = some r := ⟨_, rfl, cutS hp⟩
    refine WJ.cut 2 (α := Int × Hp) (fun y => [(4, .p 0 0), (6, .v (.string (bs t20_0))), (7, .v (.int .i64 y.1))]) (fun y => [[.int .i64 0, .int .i64 0, .string (bs ([] : List UInt8)), .int .i64 0]]) (fun y => []) (fun y => y.2) (fun y => K17 ((y.1)) = some r) ?_ (fun j17 => ?_)
    · rintro ⟨x7_17, B3⟩ hp
      subst hK17
      show WJ _ _ _ B3 [] _ _ ⟨[(4, .p 0 0), (6, .v (.string (bs t20_0))), (7, .v (.int .i64 x7_17))], [[.int .i64 0, .int .i64 0, .string (bs ([] : List UInt8)), .int .i64 0]], true, 0⟩
      obtain rfl := endS (show some _ = some r from hp)
      exact WJ.rt 208 rfl rfl rfl (fun ids H' fr => ⟨fr.ext0, rfl⟩)
    · refine WJ.ci 202 hp rfl rfl rfl rfl rfl rfl rfl rfl rfl (fun hc24 hp => ?_) (fun hc24 hp => ?_)
      · refine WJ.ci 206 hp rfl rfl rfl rfl rfl rfl rfl rfl rfl (fun hc31 hp => ?_) (fun hc31 hp => ?_)
        · obtain ⟨b38, e38, hp⟩ := bindS hp
          refine WJ.hd (v := .int .u8 ((b38.toNat : Nat) : Int)) 206 rfl rfl rfl rfl (fun ids H' fr => opD_index rfl (evV_eq _ _ _ _ _ rfl) (evV_eq _ _ _ _ _ rfl) (sidx us9 e38)) rfl ?_
          obtain ⟨t39, e39, hp⟩ := bindS hp
          refine WJ.cl 200 (R := R_4 t39) (fun hm h k => R_4.mono hm h k) rfl (fun ids H' fr => f54_ok e39) ?_
          rintro v B2 ⟨abB2, ivB2⟩ rfl
          refine ⟨_, rfl, ?_⟩
          cases t39
          · replace hp := (itS hp).2 Bool.false_ne_true
            exact WJ.goto 7 (j17 (0, B2) hp) rfl rfl (by exact ⟨rfl, rfl, rfl, trivial⟩) rfl rfl rfl
          · replace hp := (itS hp).1 rfl
            exact WJ.goto 5 (j17 (t20_1, B2) hp) rfl rfl (by exact ⟨rfl, rfl, rfl, trivial⟩) rfl rfl rfl
        · exact WJ.goto 13 (j17 (t20_1, B1) hp) rfl rfl (by exact ⟨rfl, rfl, rfl, trivial⟩) rfl rfl rfl
      · exact WJ.goto 20 (j17 (t20_1, B1) hp) rfl rfl (by exact ⟨rfl, rfl, rfl, trivial⟩) rfl rfl rfl
  · refine WJ.adv 10 rfl ?_
    obtain ⟨K18, hK18, hp⟩ : ∃ K, K = _ ∧ Option.bind _ K = some r := ⟨_, rfl, cutS hp⟩
    refine WJ.cut 2 (α := Int × Hp) (fun y => [(0, .v (.string (bs x0))), (1, .v (.int .i64 x1)), (4, .p 0 0), (8, .v (.int .i64 y.1))]) (fun y => [[.int .i64 0, .int .i64 0, .string (bs ([] : List UInt8)), .int .i64 0]]) (fun y => []) (fun y => y.2) (fun y => K18 (y.1) = some r) ?_ (fun j18 => ?_)
    · rintro ⟨x8_18, B6⟩ hp
      subst hK18
      show WJ _ _ _ B6 [] _ _ ⟨[(0, .v (.string (bs x0))), (1, .v (.int .i64 x1)), (4, .p 0 0), (8, .v (.int .i64 x8_18))], [[.int .i64 0, .int .i64 0, .string (bs ([] : List UInt8)), .int .i64 0]], true, 0⟩
      obtain ⟨s62, e62, hp⟩ := bindS hp
      refine WJ.hd (v := .string (bs s62)) 205 rfl rfl rfl rfl (fun ids H' fr => opD_slh rfl (evV_eq _ _ _ _ _ rfl) (evV_eq _ _ _ _ _ rfl) (evV_eq _ _ _ _ _ rfl) (sliceD_lh us9 e62)) rfl ?_
      obtain ⟨t64, e64, hp⟩ := bindS hp
      refine WJ.cl 206 (R := R_4 t64) (fun hm h k => R_4.mono hm h k) rfl (fun ids H' fr => f17_ok e64) ?_
      rintro v B7 ⟨abB7, ivB7⟩ rfl
      refine ⟨_, rfl, ?_⟩
      cases t64
      · replace hp := (itS hp).2 Bool.false_ne_true
        obtain ⟨⟨t71_0, t71_1⟩, e71, hp⟩ := bindS hp
        refine WJ.cl 207 (R := R_3_4 ⟨t71_0, t71_1⟩) (fun hm h k => R_3_4.mono hm h k) rfl (fun ids H' fr => f69_ok e71) ?_
        rintro v B8 ⟨abB8, ivB8⟩ rfl
        refine ⟨_, rfl, ?_⟩
        cases t71_1
        · replace hp := (itS hp).2 Bool.false_ne_true
          obtain rfl := endS (show some _ = some r from hp)
          exact WJ.rt 218 rfl rfl rfl (fun ids H' fr => ⟨fr.ext0, rfl⟩)
        · replace hp := (itS hp).1 rfl
          obtain rfl := endS (show some _ = some r from hp)
          exact WJ.rt 220 rfl rfl rfl (fun ids H' fr => ⟨fr.ext0, rfl⟩)
      · replace hp := (itS hp).1 rfl
        obtain rfl := endS (show some _ = some r from hp)
        exact WJ.rt 211 rfl rfl rfl (fun ids H' fr => ⟨fr.ext0, rfl⟩)
    · refine WJ.lp 200 (α := Nat × Int × Hp) (fun y => [(0, .v (.string (bs x0))), (1, .v (.int .i64 x1)), (4, .p 0 0), (8, .v (.int .i64 y.2.1))]) (fun y => [[.int .i64 0, .int .i64 0, .string (bs ([] : List UInt8)), .int .i64 0]]) (fun y => []) (fun y => y.2.2) (fun y => y.1) (fun y => Option.bind (f55_l1 x0 y.1 y.2.1) K18 = some r) (k, x1, B) rfl hp (by exact ⟨rfl, rfl, rfl, rfl, trivial⟩) rfl rfl rfl ?_
      rintro ⟨n, x8, B4⟩ hp ih18
      show WJ _ _ _ B4 [] _ _ ⟨[(0, .v (.string (bs x0))), (1, .v (.int .i64 x1)), (4, .p 0 0), (8, .v (.int .i64 x8))], [[.int .i64 0, .int .i64 0, .string (bs ([] : List UInt8)), .int .i64 0]], true, 0⟩
      replace hp : Option.bind (f55_l1 x0 n x8) K18 = some r := hp
      cases n with
      | zero => rw [f55_l1] at hp; exact (noS hp).elim
      | succ n =>
        rw [f55_l1] at hp
        refine WJ.ci 206 hp rfl rfl rfl rfl rfl rfl rfl rfl rfl (fun hc49 hp => ?_) (fun hc49 hp => ?_)
        · obtain ⟨b53, e53, hp⟩ := bindS hp
          refine WJ.hd (v := .int .u8 ((b53.toNat : Nat) : Int)) 203 rfl rfl rfl rfl (fun ids H' fr => opD_index rfl (evV_eq _ _ _ _ _ rfl) (evV_eq _ _ _ _ _ rfl) (sidx us9 e53)) rfl ?_
          obtain ⟨t54, e54, hp⟩ := bindS hp
          refine WJ.cl 200 (R := R_4 t54) (fun hm h k => R_4.mono hm h k) rfl (fun ids H' fr => f54_ok e54) ?_
          rintro v B5 ⟨abB5, ivB5⟩ rfl
          refine ⟨_, rfl, ?_⟩
          cases t54
          · replace hp := (itS hp).2 Bool.false_ne_true
            exact WJ.ag 212 rfl (by exact ⟨rfl, rfl, rfl, rfl, trivial⟩) rfl rfl rfl (ih18 (n, IntKind.i64.wrap (x8 + 1), B5) hp (Nat.lt_succ_self _))
          · replace hp := (itS hp).1 rfl
            exact WJ.goto 5 (j18 (x8, B5) hp) rfl rfl (by exact ⟨rfl, rfl, rfl, rfl, trivial⟩) rfl rfl rfl
        · exact WJ.goto 10 (j18 (x8, B4) hp) rfl rfl (by exact ⟨rfl, rfl, rfl, rfl, trivial⟩) rfl rfl rfl
/-! 30 tipstaff/tipstaffref03.row -/
def f30_l1 (k : Nat) (x0 : List UInt8) (x1 : Int) : Nat → (List RowWord) → Int → Option (((List RowWord)) ⊕ (Row × Fault))
  | 0, _, _ => none
  | n + 1, l0, x7 =>
    if x7 < (x0.length : Int) then
      (rd x0 x7).bind fun b18 =>
      (f54 ((b18.toNat : Nat) : Int)).bind fun t19 =>
      if t19 then
        f30_l1 k x0 x1 n l0 (IntKind.i64.wrap (x7 + 1))
      else
        (rd x0 x7).bind fun b24 =>
        if ((b24.toNat : Nat) : Int) = 35 then
          some (Sum.inl l0)
        else
          (f55 k x0 x7).bind fun (t29_0, t29_1) =>
          if t29_1 = 0 then
            some (Sum.inr (((Row.mk 0 ([])), (Fault.mk 3 (IntKind.i64.wrap (x1 + x7)))) : Row × Fault))
          else
            (apd 40 l0 ([(RowWord.mk (IntKind.i64.wrap (x1 + x7)) t29_0.Kind t29_0.Name t29_0.N)])).bind fun l47 =>
            f30_l1 k x0 x1 n l47 (IntKind.i64.wrap (x7 + t29_1))
    else
      some (Sum.inl l0)

def f30 (k : Nat) (x0 : List UInt8) (x1 : Int) : Option (Row × Fault) :=
  (f30_l1 k x0 x1 k ([]) 0).bind fun s => match s with
    | .inl l0_21 => 
      some ((Row.mk x1 l0_21), (Fault.mk 0 0))
    | .inr st => some st
set_option maxRecDepth 20000 in
theorem f30_ok {k : Nat} {H : Hp} {x0 : List UInt8} {x1 : Int} {r : Row × Fault} (hp : f30 k x0 x1 = some r) :
    SCall Tryz.prog 30 [.string (bs x0), .int .i64 x1] H (Ret fun v H' => Ext H H' ∧ R_45_26 r H.next H' v) := by
  unfold f30 at hp
  replace hp := topS hp
  refine SCall.g Tryz.func30 rfl rfl rfl rfl rfl (l := [(0, .v (.string (bs x0))), (1, .v (.int .i64 x1))]) (fun _ => rfl) (fun B abB => ?_)
  refine WJ.adv 18 rfl ?_
  refine WJ.nw 4 ?_
  obtain ⟨K21, hK21, hp⟩ : ∃ K, K = _ ∧ Option.bind _ K = some r := ⟨_, rfl, cutS hp⟩
  refine WJ.cut 2 (α := (List RowWord) × (Option Addr) × Nat × Hp) (fun y => [(4, .p 0 0), (5, .p 1 0), (6, .p 2 0)]) (fun y => [[.int .i64 0, .slice none 0 0], [.int .i64 0, .int .i64 0], [.int .i64 x1, .slice y.2.1 y.1.length y.2.2.1]]) (fun y => [⟨y.2.1, y.2.2.1, 4, encL RowWord.cs y.1⟩]) (fun y => y.2.2.2) (fun y => K21 (Sum.inl y.1) = some r) ?_ (fun j21 => ?_)
  · rintro ⟨l0_21, a0_21, c0_21, B4⟩ hp
    subst hK21
    show WJ _ _ _ B4 [⟨a0_21, c0_21, 4, encL RowWord.cs l0_21⟩] _ _ ⟨[(4, .p 0 0), (5, .p 1 0), (6, .p 2 0)], [[.int .i64 0, .slice none 0 0], [.int .i64 0, .int .i64 0], [.int .i64 x1, .slice a0_21 l0_21.length c0_21]], true, 0⟩
    obtain rfl := endS (show some _ = some r from hp)
    exact WJ.rt 207 rfl rfl rfl (fun ids H' fr => ⟨fr.ext0, ⟨_, _, rfl, (fr.slOwn (j := 0) rfl rfl (Nat.le_refl _))⟩⟩)
  · refine WJ.lp 200 (α := Nat × (List RowWord) × Int × (Option Addr) × Nat × Hp) (fun y => [(0, .v (.string (bs x0))), (1, .v (.int .i64 x1)), (4, .p 0 0), (5, .p 1 0), (6, .p 2 0), (7, .v (.int .i64 y.2.2.1))]) (fun y => [[.int .i64 0, .slice none 0 0], [.int .i64 0, .int .i64 0], [.int .i64 x1, .slice y.2.2.2.1 y.2.1.length y.2.2.2.2.1]]) (fun y => [⟨y.2.2.2.1, y.2.2.2.2.1, 4, encL RowWord.cs y.2.1⟩]) (fun y => y.2.2.2.2.2) (fun y => y.1) (fun y => Option.bind (f30_l1 k x0 x1 y.1 y.2.1 y.2.2.1) K21 = some r) (k, ([] : List RowWord), 0, none, 0, B) rfl hp (by exact ⟨rfl, rfl, rfl, rfl, rfl, rfl, trivial⟩) rfl rfl rfl ?_
    rintro ⟨n, l0, x7, a0, c0, B1⟩ hp ih21
    show WJ _ _ _ B1 [⟨a0, c0, 4, encL RowWord.cs l0⟩] _ _ ⟨[(0, .v (.string (bs x0))), (1, .v (.int .i64 x1)), (4, .p 0 0), (5, .p 1 0), (6, .p 2 0), (7, .v (.int .i64 x7))], [[.int .i64 0, .slice none 0 0], [.int .i64 0, .int .i64 0], [.int .i64 x1, .slice a0 l0.length c0]], true, 0⟩
    replace hp : Option.bind (f30_l1 k x0 x1 n l0 x7) K21 = some r := hp
    cases n with
    | zero => rw [f30_l1] at hp; exact (noS hp).elim
    | succ n =>
      rw [f30_l1] at hp
      refine WJ.ci 206 hp rfl rfl rfl rfl rfl rfl rfl rfl rfl (fun hc15 hp => ?_) (fun hc15 hp => ?_)
      · obtain ⟨b18, e18, hp⟩ := bindS hp
        refine WJ.hd (v := .int .u8 ((b18.toNat : Nat) : Int)) 209 rfl rfl rfl rfl (fun ids H' fr => opD_index rfl (evV_eq _ _ _ _ _ rfl) (evV_eq _ _ _ _ _ rfl) (sidx us9 e18)) rfl ?_
        obtain ⟨t19, e19, hp⟩ := bindS hp
        refine WJ.cl 200 (R := R_4 t19) (fun hm h k => R_4.mono hm h k) rfl (fun ids H' fr => f54_ok e19) ?_
        rintro v B2 ⟨abB2, ivB2⟩ rfl
        refine ⟨_, rfl, ?_⟩
        cases t19
        · replace hp := (itS hp).2 Bool.false_ne_true
          obtain ⟨b24, e24, hp⟩ := bindS hp
          refine WJ.hd (v := .int .u8 ((b24.toNat : Nat) : Int)) 208 rfl rfl rfl rfl (fun ids H' fr => opD_index rfl (evV_eq _ _ _ _ _ rfl) (evV_eq _ _ _ _ _ rfl) (sidx us9 e24)) rfl ?_
          refine WJ.ci 200 hp rfl rfl rfl rfl rfl rfl rfl rfl rfl (fun hc25 hp => ?_) (fun hc25 hp => ?_)
          · exact WJ.goto 3 (j21 (l0, a0, c0, B2) hp) rfl rfl (by exact ⟨rfl, rfl, rfl, trivial⟩) rfl rfl rfl
          · obtain ⟨⟨⟨t29_0_At, t29_0_Kind, t29_0_Name, t29_0_N⟩, t29_1⟩, e29, hp⟩ := bindS hp
            refine WJ.cl 207 (R := R_36_3 ⟨⟨t29_0_At, t29_0_Kind, t29_0_Name, t29_0_N⟩, t29_1⟩) (fun hm h k => R_36_3.mono hm h k) rfl (fun ids H' fr => f55_ok e29) ?_
            rintro v B3 ⟨abB3, ivB3⟩ rfl
            refine ⟨_, rfl, ?_⟩
            refine WJ.ci 211 hp rfl rfl rfl rfl rfl rfl rfl rfl rfl (fun hc33 hp => ?_) (fun hc33 hp => ?_)
            · subst hK21
              obtain rfl := endS (show some _ = some r from hp)
              exact WJ.rt 212 rfl rfl rfl (fun ids H' fr => ⟨fr.ext0, ⟨_, _, rfl, SlF.nil⟩⟩)
            · refine WJ.bs (cs := encL RowWord.cs [(RowWord.mk (IntKind.i64.wrap (x1 + x7)) t29_0_Kind t29_0_Name t29_0_N)]) (sz := 4) (pl := [(0, .agg ⟨[.int .i64 (IntKind.i64.wrap (x1 + x7)), .int .i64 t29_0_Kind, .string (bs t29_0_Name), .int .i64 t29_0_N]⟩)]) 216 rfl rfl rfl rfl rfl (fun _ _ => rfl) (fun _ => by rfl) rfl rfl ?_
              intro b46
              refine ⟨_, rfl, ?_⟩
              obtain ⟨l47, e47, hp⟩ := bindS hp
              obtain ⟨bd47, rfl⟩ := apd_some e47
              refine WJ.ap (L := l0) (L2 := [(RowWord.mk (IntKind.i64.wrap (x1 + x7)) t29_0_Kind t29_0_Name t29_0_N)]) 200 0 rfl rfl rfl rfl rfl rfl rfl rfl (el43 rfl) rfl (fun _ => rfl) (fun _ => rfl) rfl (fun ids H' fr => fr.srcOwn (enc := RowWord.cs) (sz := 4) (j := 1) (fun _ => rfl) (by decide) rfl) bd47 ?_
              intro a47 c47
              refine ⟨_, rfl, ?_⟩
              refine WJ.pop [⟨a47, c47, 4, encL RowWord.cs (l0 ++ ([(RowWord.mk (IntKind.i64.wrap (x1 + x7)) t29_0_Kind t29_0_Name t29_0_N)]))⟩] rfl ?_
              exact WJ.ag 210 rfl (by exact ⟨rfl, rfl, rfl, rfl, rfl, rfl, trivial⟩) rfl rfl rfl (ih21 (n, (l0 ++ ([(RowWord.mk (IntKind.i64.wrap (x1 + x7)) t29_0_Kind t29_0_Name t29_0_N)])), IntKind.i64.wrap (x7 + t29_1), a47, c47, B3) hp (Nat.lt_succ_self _))
        · replace hp := (itS hp).1 rfl
          exact WJ.ag 209 rfl (by exact ⟨rfl, rfl, rfl, rfl, rfl, rfl, trivial⟩) rfl rfl rfl (ih21 (n, l0, IntKind.i64.wrap (x7 + 1), a0, c0, B2) hp (Nat.lt_succ_self _))
      · exact WJ.goto 3 (j21 (l0, a0, c0, B1) hp) rfl rfl (by exact ⟨rfl, rfl, rfl, trivial⟩) rfl rfl rfl
/-! 10 tipstaff/tipstaffref03.Rows -/
def f10_l2 (x0 : List UInt8) : Nat → Int → Option (Int)
  | 0, _ => none
  | n + 1, x6_h29 =>
    if x6_h29 < (x0.length : Int) then
      (rd x0 x6_h29).bind fun b25 =>
      if ((b25.toNat : Nat) : Int) = 10 then
        some (x6_h29)
      else
        f10_l2 x0 n (IntKind.i64.wrap (x6_h29 + 1))
    else
      some (x6_h29)

def f10_l1 (k : Nat) (x0 : List UInt8) : Nat → (List Row) → Int → Option (((List Row) × Fault) ⊕ ((List Row)))
  | 0, _, _ => none
  | n + 1, l1_h28, x5_h28 =>
    if x5_h28 < (x0.length : Int) then
      (f10_l2 x0 k x5_h28).bind fun x6_29 =>
        if (IntKind.i64.wrap (x6_29 - x5_h28)) > 1000 then
          some (Sum.inl (([], (Fault.mk 4 x5_h28)) : (List Row) × Fault))
        else
          (sub x0 x5_h28 x6_29).bind fun s40 =>
          (f30 k s40 x5_h28).bind fun (t42_0, t42_1) =>
          if t42_1.Err = 0 then
            (if (t42_0.Words.length : Int) > 0 then
              (apd 32 l1_h28 ([(Row.mk t42_0.At t42_0.Words)] : List Row)).bind fun l56 =>
              some (l56)
            else
              some (l1_h28)).bind fun l1_30 =>
              f10_l1 k x0 n l1_30 (IntKind.i64.wrap (x6_29 + 1))
          else
            some (Sum.inl (([], (Fault.mk t42_1.Err t42_1.At)) : (List Row) × Fault))
    else
      some (Sum.inr l1_h28)

def f10 (k : Nat) (x0 : List UInt8) : Option ((List Row) × Fault) :=
  if (x0.length : Int) > 20000 then
    some ([], (Fault.mk 4 20000))
  else
    (f10_l1 k x0 k ([]) 0).bind fun s => match s with
      | .inl st => some st
      | .inr l1_28 => 
        some (l1_28, (Fault.mk 0 0))
set_option maxHeartbeats 3200000 in
set_option maxRecDepth 20000 in
theorem f10_ok {k : Nat} {H : Hp} {x0 : List UInt8} {r : (List Row) × Fault} (hp : f10 k x0 = some r) :
    SCall Tryz.prog 10 [.string (bs x0)] H (Ret fun v H' => Ext H H' ∧ R_23_26 r H.next H' v) := by
  unfold f10 at hp
  replace hp := topS hp
  refine SCall.g Tryz.func10 rfl rfl rfl rfl rfl (l := [(0, .v (.string (bs x0)))]) (fun _ => rfl) (fun B abB => ?_)
  refine WJ.adv 4 rfl ?_
  refine WJ.liftS (loc := []) rfl rfl (fun bv0 => ?_)
  refine WJ.ci 206 hp rfl rfl rfl rfl rfl rfl rfl rfl rfl (fun hc11 hp => ?_) (fun hc11 hp => ?_)
  · refine WJ.sb 206 (j := 0) rfl rfl rfl rfl rfl rfl rfl rfl rfl rfl ?_
    obtain rfl := endS (show some _ = some r from hp)
    exact WJ.rto 201 rfl (.tmp rfl (.cell 0 rfl rfl rfl .nil)) rfl (fun ids H' fr => ⟨fr.ext0, ⟨_, _, rfl, SlF.nil⟩⟩)
  · refine WJ.adv 13 rfl ?_
    refine WJ.nw 2 ?_
    have rn1 : RepL RowC H.next B [] ([] : List Row) := rfl
    obtain ⟨K28, hK28, hp⟩ : ∃ K, K = _ ∧ Option.bind _ K = some r := ⟨_, rfl, cutS hp⟩
    refine WJ.cut 2 (α := (List Row) × (Option Addr) × Nat × (List Value) × Hp) (fun y => [(3, .v (.pointer (some ⟨bv0, 0, none⟩))), (4, .v (.slice y.2.1 y.1.length y.2.2.1))]) (fun y => []) (fun y => [⟨some ⟨bv0, 0, none⟩, 2, 1, [.int .i64 0, .int .i64 0]⟩, ⟨y.2.1, y.2.2.1, 2, y.2.2.2.1⟩]) (fun y => y.2.2.2.2) (fun y => K28 (Sum.inr y.1) = some r ∧ RepL RowC H.next y.2.2.2.2 [] ([] : List Row) ∧ RepL RowC H.next y.2.2.2.2 y.2.2.2.1 y.1) ?_ (fun j28 => ?_)
    · rintro ⟨l1_28, a1_28, c1_28, cs1_28, B6⟩ ⟨hp, rn1, r1_28⟩
      subst hK28
      show WJ _ _ _ B6 [⟨some ⟨bv0, 0, none⟩, 2, 1, [.int .i64 0, .int .i64 0]⟩, ⟨a1_28, c1_28, 2, cs1_28⟩] _ _ ⟨[(3, .v (.pointer (some ⟨bv0, 0, none⟩))), (4, .v (.slice a1_28 l1_28.length c1_28))], [], true, 0⟩
      refine WJ.sb 205 (j := 0) rfl rfl rfl rfl rfl rfl rfl rfl rfl rfl ?_
      obtain rfl := endS (show some _ = some r from hp)
      exact WJ.rto 201 rfl (.tmp rfl (.cell 0 rfl rfl rfl .nil)) rfl (fun ids H' fr => ⟨fr.ext0, ⟨_, _, rfl, (fr.slN (j := 1) rfl rfl rfl r1_28 (Nat.le_refl _))⟩⟩)
    · refine WJ.lp 200 (α := Nat × (List Row) × Int × (Option Addr) × Nat × (List Value) × Hp) (fun y => [(0, .v (.string (bs x0))), (3, .v (.pointer (some ⟨bv0, 0, none⟩))), (4, .v (.slice y.2.2.2.1 y.2.1.length y.2.2.2.2.1)), (5, .v (.int .i64 y.2.2.1))]) (fun y => []) (fun y => [⟨some ⟨bv0, 0, none⟩, 2, 1, [.int .i64 0, .int .i64 0]⟩, ⟨y.2.2.2.1, y.2.2.2.2.1, 2, y.2.2.2.2.2.1⟩]) (fun y => y.2.2.2.2.2.2) (fun y => y.1) (fun y => Option.bind (f10_l1 k x0 y.1 y.2.1 y.2.2.1) K28 = some r ∧ RepL RowC H.next y.2.2.2.2.2.2 [] ([] : List Row) ∧ RepL RowC H.next y.2.2.2.2.2.2 y.2.2.2.2.2.1 y.2.1) (k, ([] : List Row), 0, none, 0, [], B) rfl ⟨hp, rn1, rn1⟩ (by exact ⟨rfl, rfl, rfl, rfl, trivial⟩) rfl rfl rfl ?_
      rintro ⟨n, l1_h28, x5_h28, a1_h28, c1_h28, cs1_h28, B1⟩ ⟨hp, rn1, r1_h28⟩ ih28
      show WJ _ _ _ B1 [⟨some ⟨bv0, 0, none⟩, 2, 1, [.int .i64 0, .int .i64 0]⟩, ⟨a1_h28, c1_h28, 2, cs1_h28⟩] _ _ ⟨[(0, .v (.string (bs x0))), (3, .v (.pointer (some ⟨bv0, 0, none⟩))), (4, .v (.slice a1_h28 l1_h28.length c1_h28)), (5, .v (.int .i64 x5_h28))], [], true, 0⟩
      replace hp : Option.bind (f10_l1 k x0 n l1_h28 x5_h28) K28 = some r := hp
      cases n with
      | zero => rw [f10_l1] at hp; exact (noS hp).elim
      | succ n =>
        rw [f10_l1] at hp
        refine WJ.ci 206 hp rfl rfl rfl rfl rfl rfl rfl rfl rfl (fun hc16 hp => ?_) (fun hc16 hp => ?_)
        · refine WJ.adv 11 rfl ?_
          obtain ⟨K29, hK29, hp⟩ : ∃ K, K = _ ∧ Option.bind _ K = some r := ⟨_, rfl, cutS hp⟩
          refine WJ.cut 2 (α := Int × Hp) (fun y => [(0, .v (.string (bs x0))), (3, .v (.pointer (some ⟨bv0, 0, none⟩))), (4, .v (.slice a1_h28 l1_h28.length c1_h28)), (5, .v (.int .i64 x5_h28)), (6, .v (.int .i64 y.1))]) (fun y => []) (fun y => [⟨some ⟨bv0, 0, none⟩, 2, 1, [.int .i64 0, .int .i64 0]⟩, ⟨a1_h28, c1_h28, 2, cs1_h28⟩]) (fun y => y.2) (fun y => K29 (y.1) = some r ∧ RepL RowC H.next y.2 [] ([] : List Row) ∧ RepL RowC H.next y.2 cs1_h28 l1_h28) ?_ (fun j29 => ?_)
          · rintro ⟨x6_29, B3⟩ ⟨hp, rn1, r1_h28⟩
            subst hK29
            show WJ _ _ _ B3 [⟨some ⟨bv0, 0, none⟩, 2, 1, [.int .i64 0, .int .i64 0]⟩, ⟨a1_h28, c1_h28, 2, cs1_h28⟩] _ _ ⟨[(0, .v (.string (bs x0))), (3, .v (.pointer (some ⟨bv0, 0, none⟩))), (4, .v (.slice a1_h28 l1_h28.length c1_h28)), (5, .v (.int .i64 x5_h28)), (6, .v (.int .i64 x6_29))], [], true, 0⟩
            refine WJ.ci 206 hp rfl rfl rfl rfl rfl rfl rfl rfl rfl (fun hc33 hp => ?_) (fun hc33 hp => ?_)
            · refine WJ.sb 207 (j := 0) rfl rfl rfl rfl rfl rfl rfl rfl rfl rfl ?_
              subst hK28
              obtain rfl := endS (show some _ = some r from hp)
              exact WJ.rto 201 rfl (.tmp rfl (.cell 0 rfl rfl rfl .nil)) rfl (fun ids H' fr => ⟨fr.ext0, ⟨_, _, rfl, SlF.nil⟩⟩)
            · obtain ⟨s40, e40, hp⟩ := bindS hp
              refine WJ.hd (v := .string (bs s40)) 208 rfl rfl rfl rfl (fun ids H' fr => opD_slh rfl (evV_eq _ _ _ _ _ rfl) (evV_eq _ _ _ _ _ rfl) (evV_eq _ _ _ _ _ rfl) (sliceD_lh us9 e40)) rfl ?_
              obtain ⟨⟨⟨t42_0_At, t42_0_Words⟩, ⟨t42_1_Err, t42_1_At⟩⟩, e42, hp⟩ := bindS hp
              refine WJ.cl 201 (R := R_45_26 ⟨⟨t42_0_At, t42_0_Words⟩, ⟨t42_1_Err, t42_1_At⟩⟩) (fun hm h k => R_45_26.mono hm h k) rfl (fun ids H' fr => f30_ok e42) ?_
              rintro v B4 ⟨abB4, ivB4⟩ ⟨a_t42_0_Words, c_t42_0_Words, rfl, g_t42_0_Words⟩
              refine ⟨_, rfl, ?_⟩
              replace rn1 := rn1.mono (Nat.le_refl _) (abB4.le (Nat.zero_le _))
              replace r1_h28 := r1_h28.mono (Nat.le_refl _) (abB4.le (Nat.zero_le _))
              refine WJ.adv 4 rfl ?_
              refine WJ.liftS (loc := []) rfl rfl (fun bv1 => ?_)
              refine WJ.adv 1 rfl ?_
              refine WJ.liftS (loc := []) rfl rfl (fun bv2 => ?_)
              refine WJ.sb 200 (j := 2) rfl rfl rfl rfl rfl rfl rfl rfl rfl rfl ?_
              refine WJ.sb 200 (j := 3) rfl rfl rfl rfl rfl rfl rfl rfl rfl rfl ?_
              refine WJ.hd (v := .int .i64 t42_1_Err) 205 rfl rfl rfl rfl (fun ids H' fr => opD_load rfl (evV_eq _ _ _ _ _ rfl) (fr.ldOwn (j := 3) rfl rfl)) rfl ?_
              refine WJ.cn 200 hp rfl rfl rfl rfl rfl rfl rfl rfl rfl (fun hc47 hp => ?_) (fun hc47 hp => ?_)
              · refine WJ.dr 203 rfl gmix (by kernel_rfl) (by kernel_rfl) rfl ?_
                refine WD.hd (v := .agg ⟨[.int .i64 t42_1_Err, .int .i64 t42_1_At]⟩) rfl rfl rfl rfl (fun _ _ _ _ _ => side_no) (fun ids H' fr => opD_load rfl (evV_eq _ _ _ _ _ rfl) (fr.ldOwn (j := 3) rfl rfl)) rfl ?_
                refine WD.sb (j := 0) rfl rfl rfl rfl rfl rfl rfl rfl rfl rfl ?_
                refine WD.done rfl ?_
                subst hK28
                obtain rfl := endS (show some _ = some r from hp)
                exact WJ.rto 200 rfl (.tmp rfl (.cell 0 rfl rfl rfl .nil)) rfl (fun ids H' fr => ⟨fr.ext0, ⟨_, _, rfl, SlF.nil⟩⟩)
              · refine WJ.adv 5 rfl ?_
                obtain ⟨K30, hK30, hp⟩ : ∃ K, K = _ ∧ Option.bind _ K = some r := ⟨_, rfl, cutS hp⟩
                refine WJ.cut 2 (α := (List Row) × (Option Addr) × Nat × (List Value) × Hp) (fun y => [(0, .v (.string (bs x0))), (3, .v (.pointer (some ⟨bv0, 0, none⟩))), (4, .v (.slice y.2.1 y.1.length y.2.2.1)), (6, .v (.int .i64 x6_29))]) (fun y => []) (fun y => [⟨some ⟨bv0, 0, none⟩, 2, 1, [.int .i64 0, .int .i64 0]⟩, ⟨y.2.1, y.2.2.1, 2, y.2.2.2.1⟩, ⟨some ⟨bv1, 0, none⟩, 2, 1, [.int .i64 t42_0_At, .slice a_t42_0_Words t42_0_Words.length c_t42_0_Words]⟩, ⟨some ⟨bv2, 0, none⟩, 2, 1, [.int .i64 t42_1_Err, .int .i64 t42_1_At]⟩]) (fun y => y.2.2.2.2) (fun y => K30 ((y.1)) = some r ∧ RepL RowC H.next y.2.2.2.2 [] ([] : List Row) ∧ RepL RowC H.next y.2.2.2.2 cs1_h28 l1_h28 ∧ SlF H.next y.2.2.2.2 RowWordC a_t42_0_Words c_t42_0_Words t42_0_Words ∧ RepL RowC H.next y.2.2.2.2 y.2.2.2.1 y.1) ?_ (fun j30 => ?_)
                · rintro ⟨l1_30, a1_30, c1_30, cs1_30, B5⟩ ⟨hp, rn1, r1_h28, g_t42_0_Words, r1_30⟩
                  subst hK30
                  show WJ _ _ _ B5 [⟨some ⟨bv0, 0, none⟩, 2, 1, [.int .i64 0, .int .i64 0]⟩, ⟨a1_30, c1_30, 2, cs1_30⟩, ⟨some ⟨bv1, 0, none⟩, 2, 1, [.int .i64 t42_0_At, .slice a_t42_0_Words t42_0_Words.length c_t42_0_Words]⟩, ⟨some ⟨bv2, 0, none⟩, 2, 1, [.int .i64 t42_1_Err, .int .i64 t42_1_At]⟩] _ _ ⟨[(0, .v (.string (bs x0))), (3, .v (.pointer (some ⟨bv0, 0, none⟩))), (4, .v (.slice a1_30 l1_30.length c1_30)), (6, .v (.int .i64 x6_29))], [], true, 0⟩
                  exact WJ.ag 206 rfl (by exact ⟨rfl, rfl, rfl, rfl, trivial⟩) rfl rfl rfl (ih28 (n, l1_30, IntKind.i64.wrap (x6_29 + 1), a1_30, c1_30, cs1_30, B5) ⟨hp, rn1, r1_30⟩ (Nat.lt_succ_self _))
                · refine WJ.hd (v := .slice a_t42_0_Words t42_0_Words.length c_t42_0_Words) 202 rfl rfl rfl rfl (fun ids H' fr => opD_load rfl (evV_eq _ _ _ _ _ rfl) (fr.ldOwn (j := 2) rfl rfl)) rfl ?_
                  refine WJ.ci 201 hp rfl rfl rfl rfl rfl rfl rfl rfl rfl (fun hc52 hp => ?_) (fun hc52 hp => ?_)
                  · refine WJ.hd (v := .agg ⟨[.int .i64 t42_0_At, .slice a_t42_0_Words t42_0_Words.length c_t42_0_Words]⟩) 204 rfl rfl rfl rfl (fun ids H' fr => opD_load rfl (evV_eq _ _ _ _ _ rfl) (fr.ldOwn (j := 2) rfl rfl)) rfl ?_
                    refine WJ.bs (cs := [.int .i64 t42_0_At, .slice a_t42_0_Words t42_0_Words.length c_t42_0_Words]) (sz := 2) (pl := [(0, .agg ⟨[.int .i64 t42_0_At, .slice a_t42_0_Words t42_0_Words.length c_t42_0_Words]⟩)]) 200 rfl rfl rfl rfl rfl (fun _ _ => rfl) (fun _ => by rfl) rfl rfl ?_
                    intro b55
                    refine ⟨_, rfl, ?_⟩
                    obtain ⟨l56, e56, hp⟩ := bindS hp
                    obtain ⟨bd56, rfl⟩ := apd_some e56
                    refine WJ.apN (cs := cs1_h28) (new := [.int .i64 t42_0_At, .slice a_t42_0_Words t42_0_Words.length c_t42_0_Words]) (L := l1_h28) (L2 := ([(Row.mk t42_0_At t42_0_Words)] : List Row)) 200 1 rfl rfl rfl rfl rfl rfl rfl rfl r1_h28.len (el23 rfl) rfl rfl (fun ids H' fr => fr.srcBox (j := 4) rfl rfl (by decide)) rfl rfl bd56 ?_
                    intro a56 c56
                    refine ⟨_, rfl, ?_⟩
                    have rp56 : RepL RowC H.next B4 (cs1_h28 ++ [.int .i64 t42_0_At, .slice a_t42_0_Words t42_0_Words.length c_t42_0_Words]) (l1_h28 ++ ([(Row.mk t42_0_At t42_0_Words)] : List Row)) := r1_h28.append ⟨[.int .i64 t42_0_At, .slice a_t42_0_Words t42_0_Words.length c_t42_0_Words], [], rfl, ⟨_, _, rfl, g_t42_0_Words⟩, rfl⟩
                    refine WJ.pop [⟨some ⟨bv0, 0, none⟩, 2, 1, [.int .i64 0, .int .i64 0]⟩, ⟨a56, c56, 2, (cs1_h28 ++ [.int .i64 t42_0_At, .slice a_t42_0_Words t42_0_Words.length c_t42_0_Words])⟩, ⟨some ⟨bv1, 0, none⟩, 2, 1, [.int .i64 t42_0_At, .slice a_t42_0_Words t42_0_Words.length c_t42_0_Words]⟩, ⟨some ⟨bv2, 0, none⟩, 2, 1, [.int .i64 t42_1_Err, .int .i64 t42_1_At]⟩] rfl ?_
                    exact WJ.goto 2 (j30 ((l1_h28 ++ ([(Row.mk t42_0_At t42_0_Words)] : List Row)), a56, c56, (cs1_h28 ++ [.int .i64 t42_0_At, .slice a_t42_0_Words t42_0_Words.length c_t42_0_Words]), B4) ⟨hp, rn1, r1_h28, g_t42_0_Words, rp56⟩) rfl rfl (by exact ⟨rfl, rfl, rfl, rfl, trivial⟩) rfl rfl rfl
                  · exact WJ.goto 3 (j30 (l1_h28, a1_h28, c1_h28, cs1_h28, B4) ⟨hp, rn1, r1_h28, g_t42_0_Words, r1_h28⟩) rfl rfl (by exact ⟨rfl, rfl, rfl, rfl, trivial⟩) rfl rfl rfl
          · refine WJ.lp 200 (α := Nat × Int × Hp) (fun y => [(0, .v (.string (bs x0))), (3, .v (.pointer (some ⟨bv0, 0, none⟩))), (4, .v (.slice a1_h28 l1_h28.length c1_h28)), (5, .v (.int .i64 x5_h28)), (6, .v (.int .i64 y.2.1))]) (fun y => []) (fun y => [⟨some ⟨bv0, 0, none⟩, 2, 1, [.int .i64 0, .int .i64 0]⟩, ⟨a1_h28, c1_h28, 2, cs1_h28⟩]) (fun y => y.2.2) (fun y => y.1) (fun y => Option.bind (f10_l2 x0 y.1 y.2.1) K29 = some r ∧ RepL RowC H.next y.2.2 [] ([] : List Row) ∧ RepL RowC H.next y.2.2 cs1_h28 l1_h28) (k, x5_h28, B1) rfl ⟨hp, rn1, r1_h28⟩ (by exact ⟨rfl, rfl, rfl, rfl, rfl, trivial⟩) rfl rfl rfl ?_
            rintro ⟨n29, x6_h29, B2⟩ ⟨hp, rn1, r1_h28⟩ ih29
            show WJ _ _ _ B2 [⟨some ⟨bv0, 0, none⟩, 2, 1, [.int .i64 0, .int .i64 0]⟩, ⟨a1_h28, c1_h28, 2, cs1_h28⟩] _ _ ⟨[(0, .v (.string (bs x0))), (3, .v (.pointer (some ⟨bv0, 0, none⟩))), (4, .v (.slice a1_h28 l1_h28.length c1_h28)), (5, .v (.int .i64 x5_h28)), (6, .v (.int .i64 x6_h29))], [], true, 0⟩
            replace hp : Option.bind (f10_l2 x0 n29 x6_h29) K29 = some r := hp
            cases n29 with
            | zero => rw [f10_l2] at hp; exact (noS hp).elim
            | succ n29 =>
              rw [f10_l2] at hp
              refine WJ.ci 206 hp rfl rfl rfl rfl rfl rfl rfl rfl rfl (fun hc21 hp => ?_) (fun hc21 hp => ?_)
              · obtain ⟨b25, e25, hp⟩ := bindS hp
                refine WJ.hd (v := .int .u8 ((b25.toNat : Nat) : Int)) 203 rfl rfl rfl rfl (fun ids H' fr => opD_index rfl (evV_eq _ _ _ _ _ rfl) (evV_eq _ _ _ _ _ rfl) (sidx us9 e25)) rfl ?_
                refine WJ.cn 200 hp rfl rfl rfl rfl rfl rfl rfl rfl rfl (fun hc26 hp => ?_) (fun hc26 hp => ?_)
                · exact WJ.ag 211 rfl (by exact ⟨rfl, rfl, rfl, rfl, rfl, trivial⟩) rfl rfl rfl (ih29 (n29, IntKind.i64.wrap (x6_h29 + 1), B2) ⟨hp, rn1, r1_h28⟩ (Nat.lt_succ_self _))
                · exact WJ.goto 4 (j29 (x6_h29, B2) ⟨hp, rn1, r1_h28⟩) rfl rfl (by exact ⟨rfl, rfl, rfl, rfl, rfl, trivial⟩) rfl rfl rfl
              · exact WJ.goto 9 (j29 (x6_h29, B2) ⟨hp, rn1, r1_h28⟩) rfl rfl (by exact ⟨rfl, rfl, rfl, rfl, rfl, trivial⟩) rfl rfl rfl
        · exact WJ.goto 3 (j28 (l1_h28, a1_h28, c1_h28, cs1_h28, B1) ⟨hp, rn1, r1_h28⟩) rfl rfl (by exact ⟨rfl, rfl, trivial⟩) rfl rfl rfl
/-! 9 tipstaff/row.Rows -/
def f9_l2 (k : Nat) : Nat → (List RowWord) → Int → (List UInt8) → Option (((List RowWord) × Int × (List UInt8)) ⊕ (Int × (List UInt8) × (List RowWord) × Int × Int))
  | 0, _, _, _ => none
  | n + 1, l4_h113, v1_0_h113, v1_1_h113 =>
    if v1_1_h113 = ([] : List UInt8) then
      some (Sum.inl (l4_h113, v1_0_h113, v1_1_h113))
    else
      (rd v1_1_h113 0).bind fun b17u33 =>
      (f51 ((b17u33.toNat : Nat) : Int)).bind fun t18u33 =>
      if t18u33 then
        (sub v1_1_h113 1 (v1_1_h113.length : Int)).bind fun s17u41 =>
        f9_l2 k n l4_h113 (IntKind.i64.wrap (v1_0_h113 + 1)) s17u41
      else
        (rd v1_1_h113 0).bind fun b26u17 =>
        if ((b26u17.toNat : Nat) : Int) = 35 then
          some (Sum.inl (l4_h113, v1_0_h113, v1_1_h113))
        else
          ((rd v1_1_h113 0).bind fun b17u38 =>
          if ((b17u38.toNat : Nat) : Int) = 34 then
            (f31 k v1_1_h113).bind fun (t24u20_0, t24u20_1) =>
            (if t24u20_1 = 0 then
              some (Sum.inl ((v1_0_h113, v1_1_h113, v1_0_h113, 0, ([] : List UInt8), 0, false) : Int × (List UInt8) × Int × Int × (List UInt8) × Int × Bool))
            else
              if t24u20_1 < (v1_1_h113.length : Int) then
                (rd v1_1_h113 t24u20_1).bind fun b43u16 =>
                (f51 ((b43u16.toNat : Nat) : Int)).bind fun t44u16 =>
                if t44u16 then
                  some (Sum.inr ())
                else
                  some (Sum.inl ((v1_0_h113, v1_1_h113, v1_0_h113, 0, ([] : List UInt8), 0, false) : Int × (List UInt8) × Int × Int × (List UInt8) × Int × Bool))
              else
                some (Sum.inr ())).bind fun s => match s with
              | .inl st => some (st)
              | .inr _ => 
                (sub v1_1_h113 t24u20_1 (v1_1_h113.length : Int)).bind fun s17u39 =>
                some (((IntKind.i64.wrap (v1_0_h113 + t24u20_1), s17u39, v1_0_h113, 3, t24u20_0, 0, true) : Int × (List UInt8) × Int × Int × (List UInt8) × Int × Bool))
          else
            (f67 v1_1_h113 ([32, 9] : List UInt8)).bind fun t60u4 =>
            (if t60u4 < 0 then
              some ((v1_1_h113.length : Int))
            else
              some (t60u4)).bind fun x6_120 =>
              (sub v1_1_h113 0 x6_120).bind fun s73u4 =>
              (sub v1_1_h113 x6_120 (v1_1_h113.length : Int)).bind fun s17u40 =>
              (f16 k s73u4).bind fun t78u4 =>
              if t78u4 then
                some (((IntKind.i64.wrap (v1_0_h113 + x6_120), s17u40, v1_0_h113, 1, s73u4, 0, true) : Int × (List UInt8) × Int × Int × (List UInt8) × Int × Bool))
              else
                (f68 s73u4).bind fun (t86u4_0, t86u4_1) =>
                some (((IntKind.i64.wrap (v1_0_h113 + x6_120), s17u40, v1_0_h113, 2, ([] : List UInt8), t86u4_0, t86u4_1) : Int × (List UInt8) × Int × Int × (List UInt8) × Int × Bool))).bind fun (v1_0_118, v1_1_118, x34_118_0_0, x34_118_0_1, x34_118_0_2, x34_118_0_3, x34_118_1) =>
            if x34_118_1 then
              (apd 40 l4_h113 ([(RowWord.mk x34_118_0_0 x34_118_0_1 x34_118_0_2 x34_118_0_3)])).bind fun l44u17 =>
              f9_l2 k n l44u17 v1_0_118 v1_1_118
            else
              some (Sum.inr ((v1_0_118, v1_1_118, [], 3, v1_0_h113) : Int × (List UInt8) × (List RowWord) × Int × Int))

def f9_l1 (k : Nat) (t16 : List (List UInt8)) : Nat → (List Row) → Int → Int → Option (((List Row)) ⊕ ((List Row) × Fault))
  | 0, _, _, _ => none
  | n + 1, l1_h77, x5_h77, x18_h77 =>
    (some (decide (x18_h77 < (t16.length : Int)))).bind fun t19 =>
    if t19 then
      (rd t16 x18_h77).bind fun t20 =>
      if (t20.length : Int) > 1000 then
        some (Sum.inr (([], (Fault.mk 4 x5_h77)) : (List Row) × Fault))
      else
        ((f9_l2 k k ([]) x5_h77 t20).bind fun s => match s with
          | .inl (l4_113, v1_0_113, v1_1_113) => 
            some (((v1_0_113, v1_1_113, l4_113, 0, 0) : Int × (List UInt8) × (List RowWord) × Int × Int))
          | .inr st => some (st)).bind fun (v1_0_96, v1_1_96, x33_96_0, x33_96_1_0, x33_96_1_1) =>
          if x33_96_1_0 = 0 then
            (if (x33_96_0.length : Int) > 0 then
              (apd 32 l1_h77 ([(Row.mk x5_h77 x33_96_0)] : List Row)).bind fun l48u30 =>
              some (l48u30)
            else
              some (l1_h77)).bind fun l1_121 =>
              f9_l1 k t16 n l1_121 (IntKind.i64.wrap (x5_h77 + (IntKind.i64.wrap ((t20.length : Int) + 1)))) (IntKind.i64.wrap (x18_h77 + 1))
          else
            some (Sum.inr (([], (Fault.mk x33_96_1_0 x33_96_1_1)) : (List Row) × Fault))
    else
      some (Sum.inl l1_h77)

def f9 (k : Nat) (x0 : List UInt8) : Option ((List Row) × Fault) :=
  if (x0.length : Int) > 20000 then
    some ([], (Fault.mk 4 20000))
  else
    (f28 x0 ([10] : List UInt8)).bind fun t16 =>
    (f9_l1 k t16 k ([]) 0 0).bind fun s => match s with
      | .inl l1_77 => 
        some (l1_77, (Fault.mk 0 0))
      | .inr st => some st
set_option maxHeartbeats 3200000 in
set_option maxRecDepth 20000 in
theorem f9_ok {k : Nat} {H : Hp} {x0 : List UInt8} {r : (List Row) × Fault} (hp : f9 k x0 = some r) :
    SCall Tryz.prog 9 [.string (bs x0)] H (Ret fun v H' => Ext H H' ∧ R_23_26 r H.next H' v) := by
  unfold f9 at hp
  replace hp := topS hp
  refine SCall.g Tryz.func9 rfl rfl rfl rfl rfl (l := [(0, .v (.string (bs x0)))]) (fun _ => rfl) (fun B abB => ?_)
  refine WJ.adv 4 rfl ?_
  refine WJ.liftS (loc := []) rfl rfl (fun bv0 => ?_)
  refine WJ.ci 206 hp rfl rfl rfl rfl rfl rfl rfl rfl rfl (fun hc13 hp => ?_) (fun hc13 hp => ?_)
  · refine WJ.sb 206 (j := 0) rfl rfl rfl rfl rfl rfl rfl rfl rfl rfl ?_
    obtain rfl := endS (show some _ = some r from hp)
    exact WJ.rto 201 rfl (.tmp rfl (.cell 0 rfl rfl rfl .nil)) rfl (fun ids H' fr => ⟨fr.ext0, ⟨_, _, rfl, SlF.nil⟩⟩)
  · obtain ⟨t16, e16, hp⟩ := bindS hp
    refine WJ.cl 215 (R := R_37 t16) (fun hm h k => R_37.mono hm h k) rfl (fun ids H' fr => f28_ok e16) ?_
    rintro v B1 ⟨abB1, ivB1⟩ ⟨a_t16, c_t16, rfl, g_t16⟩
    refine ⟨_, rfl, ?_⟩
    refine WJ.adv 4 rfl ?_
    refine WJ.nw 2 ?_
    have rn1 : RepL RowC H.next B1 [] ([] : List Row) := rfl
    obtain ⟨K77, hK77, hp⟩ : ∃ K, K = _ ∧ Option.bind _ K = some r := ⟨_, rfl, cutS hp⟩
    refine WJ.cut 2 (α := (List Row) × (Option Addr) × Nat × (List Value) × Hp) (fun y => [(3, .v (.pointer (some ⟨bv0, 0, none⟩))), (4, .v (.slice y.2.1 y.1.length y.2.2.1))]) (fun y => []) (fun y => [⟨some ⟨bv0, 0, none⟩, 2, 1, [.int .i64 0, .int .i64 0]⟩, ⟨y.2.1, y.2.2.1, 2, y.2.2.2.1⟩]) (fun y => y.2.2.2.2) (fun y => K77 (Sum.inl y.1) = some r ∧ SlF H.next y.2.2.2.2 strC a_t16 c_t16 t16 ∧ RepL RowC H.next y.2.2.2.2 [] ([] : List Row) ∧ RepL RowC H.next y.2.2.2.2 y.2.2.2.1 y.1) ?_ (fun j77 => ?_)
    · rintro ⟨l1_77, a1_77, c1_77, cs1_77, B17⟩ ⟨hp, g_t16, rn1, r1_77⟩
      subst hK77
      show WJ _ _ _ B17 [⟨some ⟨bv0, 0, none⟩, 2, 1, [.int .i64 0, .int .i64 0]⟩, ⟨a1_77, c1_77, 2, cs1_77⟩] _ _ ⟨[(3, .v (.pointer (some ⟨bv0, 0, none⟩))), (4, .v (.slice a1_77 l1_77.length c1_77))], [], true, 0⟩
      refine WJ.sb 205 (j := 0) rfl rfl rfl rfl rfl rfl rfl rfl rfl rfl ?_
      obtain rfl := endS (show some _ = some r from hp)
      exact WJ.rto 201 rfl (.tmp rfl (.cell 0 rfl rfl rfl .nil)) rfl (fun ids H' fr => ⟨fr.ext0, ⟨_, _, rfl, (fr.slN (j := 1) rfl rfl rfl r1_77 (Nat.le_refl _))⟩⟩)
    · refine WJ.lp 200 (α := Nat × (List Row) × Int × Int × (Option Addr) × Nat × (List Value) × Hp) (fun y => [(3, .v (.pointer (some ⟨bv0, 0, none⟩))), (4, .v (.slice y.2.2.2.2.1 y.2.1.length y.2.2.2.2.2.1)), (5, .v (.int .i64 y.2.2.1)), (16, .v (.slice a_t16 t16.length c_t16)), (17, .v (.int .i64 ((t16.length : Nat) : Int))), (18, .v (.int .i64 y.2.2.2.1))]) (fun y => []) (fun y => [⟨some ⟨bv0, 0, none⟩, 2, 1, [.int .i64 0, .int .i64 0]⟩, ⟨y.2.2.2.2.1, y.2.2.2.2.2.1, 2, y.2.2.2.2.2.2.1⟩]) (fun y => y.2.2.2.2.2.2.2) (fun y => y.1) (fun y => Option.bind (f9_l1 k t16 y.1 y.2.1 y.2.2.1 y.2.2.2.1) K77 = some r ∧ SlF H.next y.2.2.2.2.2.2.2 strC a_t16 c_t16 t16 ∧ RepL RowC H.next y.2.2.2.2.2.2.2 [] ([] : List Row) ∧ RepL RowC H.next y.2.2.2.2.2.2.2 y.2.2.2.2.2.2.1 y.2.1) (k, ([] : List Row), 0, 0, none, 0, [], B1) rfl ⟨hp, g_t16, rn1, rn1⟩ (by exact ⟨rfl, rfl, rfl, rfl, rfl, rfl, trivial⟩) rfl rfl rfl ?_
      rintro ⟨n, l1_h77, x5_h77, x18_h77, a1_h77, c1_h77, cs1_h77, B2⟩ ⟨hp, g_t16, rn1, r1_h77⟩ ih77
      show WJ _ _ _ B2 [⟨some ⟨bv0, 0, none⟩, 2, 1, [.int .i64 0, .int .i64 0]⟩, ⟨a1_h77, c1_h77, 2, cs1_h77⟩] _ _ ⟨[(3, .v (.pointer (some ⟨bv0, 0, none⟩))), (4, .v (.slice a1_h77 l1_h77.length c1_h77)), (5, .v (.int .i64 x5_h77)), (16, .v (.slice a_t16 t16.length c_t16)), (17, .v (.int .i64 ((t16.length : Nat) : Int))), (18, .v (.int .i64 x18_h77))], [], true, 0⟩
      replace hp : Option.bind (f9_l1 k t16 n l1_h77 x5_h77 x18_h77) K77 = some r := hp
      cases n with
      | zero => rw [f9_l1] at hp; exact (noS hp).elim
      | succ n =>
        rw [f9_l1] at hp
        obtain ⟨t19, e19, hp⟩ := bindS hp
        refine WJ.cv 202 (b := t19) (H0 := ⟨.nil, 0, 0⟩) rfl rfl rfl rfl rfl rfl (by rw [← endS e19]; exact rfl) rfl ?_
        cases t19
        · replace hp := (itS hp).2 Bool.false_ne_true
          exact WJ.goto 4 (j77 (l1_h77, a1_h77, c1_h77, cs1_h77, B2) ⟨hp, g_t16, rn1, r1_h77⟩) rfl rfl (by exact ⟨rfl, rfl, trivial⟩) rfl rfl rfl
        · replace hp := (itS hp).1 rfl
          obtain ⟨t20, e20, hp⟩ := bindS hp
          obtain ⟨b20, o20, cs20, i20, rfl, p20⟩ := g_t16.at e20 u37 sz9
          refine WJ.hd (v := .pointer (some ⟨b20, o20, none⟩)) 208 rfl rfl rfl rfl (fun ids H' fr => opD_indexAddr rfl (evV_eq _ _ _ _ _ rfl) (evV_eq _ _ _ _ _ rfl) (i20 _)) rfl ?_
          refine WJ.hd (v := .string (bs t20)) 200 rfl rfl rfl rfl (fun ids H' fr => opD_load rfl (evV_eq _ _ _ _ _ rfl) ((p20.mono (Nat.zero_le _) (fr.abv.le (Nat.zero_le _))).load (d := 0) ag9 rfl)) rfl ?_
          refine WJ.ci 207 hp rfl rfl rfl rfl rfl rfl rfl rfl rfl (fun hc24 hp => ?_) (fun hc24 hp => ?_)
          · refine WJ.sb 207 (j := 0) rfl rfl rfl rfl rfl rfl rfl rfl rfl rfl ?_
            subst hK77
            obtain rfl := endS (show some _ = some r from hp)
            exact WJ.rto 201 rfl (.tmp rfl (.cell 0 rfl rfl rfl .nil)) rfl (fun ids H' fr => ⟨fr.ext0, ⟨_, _, rfl, SlF.nil⟩⟩)
          · refine WJ.adv 9 rfl ?_
            refine WJ.liftS (loc := []) rfl rfl (fun bv1 => ?_)
            obtain ⟨K96, hK96, hp⟩ : ∃ K, K = _ ∧ Option.bind _ K = some r := ⟨_, rfl, cutS hp⟩
            refine WJ.inlC 205 (α := Int × (List UInt8) × (List RowWord) × Int × Int × (Option Addr) × Nat × Hp) (fun y => [(3, .v (.pointer (some ⟨bv0, 0, none⟩))), (4, .v (.slice a1_h77 l1_h77.length c1_h77)), (5, .v (.int .i64 x5_h77)), (7, .v (.string (bs t20))), (16, .v (.slice a_t16 t16.length c_t16)), (17, .v (.int .i64 ((t16.length : Nat) : Int))), (18, .v (.int .i64 x18_h77)), (33, .v (.tuple ⟨[.slice y.2.2.2.2.2.1 y.2.2.1.length y.2.2.2.2.2.2.1, .agg ⟨[.int .i64 y.2.2.2.1, .int .i64 y.2.2.2.2.1]⟩]⟩))]) (fun y => [⟨some ⟨bv0, 0, none⟩, 2, 1, [.int .i64 0, .int .i64 0]⟩, ⟨a1_h77, c1_h77, 2, cs1_h77⟩, ⟨some ⟨bv1, 0, none⟩, 2, 1, [.int .i64 y.1, .string (bs y.2.1)]⟩]) (fun y => y.2.2.2.2.2.2.2) (fun y => K96 (((y.1, y.2.1, y.2.2.1, y.2.2.2.1, y.2.2.2.2.1))) = some r ∧ SlF H.next y.2.2.2.2.2.2.2 strC a_t16 c_t16 t16 ∧ RepL RowC H.next y.2.2.2.2.2.2.2 [] ([] : List Row) ∧ RepL RowC H.next y.2.2.2.2.2.2.2 cs1_h77 l1_h77 ∧ SlF H.next y.2.2.2.2.2.2.2 RowWordC y.2.2.2.2.2.1 y.2.2.2.2.2.2.1 y.2.2.1) rfl rfl Tryz.func29 rfl rfl rfl rfl rfl (lc := [(0, .v (.pointer (some ⟨bv1, 0, none⟩)))]) (fun _ => rfl) ?_ (fun j96 => ?_)
            · rintro ⟨v1_0_96, v1_1_96, x33_96_0, x33_96_1_0, x33_96_1_1, a_x33_96_0, c_x33_96_0, B15⟩ ⟨hp, g_t16, rn1, r1_h77, g_x33_96_0⟩
              subst hK96
              show WJ _ _ _ B15 [⟨some ⟨bv0, 0, none⟩, 2, 1, [.int .i64 0, .int .i64 0]⟩, ⟨a1_h77, c1_h77, 2, cs1_h77⟩, ⟨some ⟨bv1, 0, none⟩, 2, 1, [.int .i64 v1_0_96, .string (bs v1_1_96)]⟩] _ _ ⟨[(3, .v (.pointer (some ⟨bv0, 0, none⟩))), (4, .v (.slice a1_h77 l1_h77.length c1_h77)), (5, .v (.int .i64 x5_h77)), (7, .v (.string (bs t20))), (16, .v (.slice a_t16 t16.length c_t16)), (17, .v (.int .i64 ((t16.length : Nat) : Int))), (18, .v (.int .i64 x18_h77)), (33, .v (.tuple ⟨[.slice a_x33_96_0 x33_96_0.length c_x33_96_0, .agg ⟨[.int .i64 x33_96_1_0, .int .i64 x33_96_1_1]⟩]⟩))], [], true, 0⟩
              refine WJ.adv 4 rfl ?_
              refine WJ.liftS (loc := []) rfl rfl (fun bv2u3 => ?_)
              refine WJ.sb 201 (j := 3) rfl rfl rfl rfl rfl rfl rfl rfl rfl rfl ?_
              refine WJ.hd (v := .int .i64 x33_96_1_0) 205 rfl rfl rfl rfl (fun ids H' fr => opD_load rfl (evV_eq _ _ _ _ _ rfl) (fr.ldOwn (j := 3) rfl rfl)) rfl ?_
              refine WJ.cn 200 hp rfl rfl rfl rfl rfl rfl rfl rfl rfl (fun hc38u28 hp => ?_) (fun hc38u28 hp => ?_)
              · refine WJ.dr 203 rfl gmix (by kernel_rfl) (by kernel_rfl) rfl ?_
                refine WD.hd (v := .agg ⟨[.int .i64 x33_96_1_0, .int .i64 x33_96_1_1]⟩) rfl rfl rfl rfl (fun _ _ _ _ _ => side_no) (fun ids H' fr => opD_load rfl (evV_eq _ _ _ _ _ rfl) (fr.ldOwn (j := 3) rfl rfl)) rfl ?_
                refine WD.sb (j := 0) rfl rfl rfl rfl rfl rfl rfl rfl rfl rfl ?_
                refine WD.done rfl ?_
                subst hK77
                obtain rfl := endS (show some _ = some r from hp)
                exact WJ.rto 200 rfl (.tmp rfl (.cell 0 rfl rfl rfl .nil)) rfl (fun ids H' fr => ⟨fr.ext0, ⟨_, _, rfl, SlF.nil⟩⟩)
              · refine WJ.adv 5 rfl ?_
                obtain ⟨K121, hK121, hp⟩ : ∃ K, K = _ ∧ Option.bind _ K = some r := ⟨_, rfl, cutS hp⟩
                refine WJ.cut 2 (α := (List Row) × (Option Addr) × Nat × (List Value) × Hp) (fun y => [(3, .v (.pointer (some ⟨bv0, 0, none⟩))), (4, .v (.slice y.2.1 y.1.length y.2.2.1)), (5, .v (.int .i64 x5_h77)), (7, .v (.string (bs t20))), (16, .v (.slice a_t16 t16.length c_t16)), (17, .v (.int .i64 ((t16.length : Nat) : Int))), (18, .v (.int .i64 x18_h77))]) (fun y => []) (fun y => [⟨some ⟨bv0, 0, none⟩, 2, 1, [.int .i64 0, .int .i64 0]⟩, ⟨y.2.1, y.2.2.1, 2, y.2.2.2.1⟩, ⟨some ⟨bv1, 0, none⟩, 2, 1, [.int .i64 v1_0_96, .string (bs v1_1_96)]⟩, ⟨some ⟨bv2u3, 0, none⟩, 2, 1, [.int .i64 x33_96_1_0, .int .i64 x33_96_1_1]⟩]) (fun y => y.2.2.2.2) (fun y => K121 ((y.1)) = some r ∧ SlF H.next y.2.2.2.2 strC a_t16 c_t16 t16 ∧ RepL RowC H.next y.2.2.2.2 [] ([] : List Row) ∧ RepL RowC H.next y.2.2.2.2 cs1_h77 l1_h77 ∧ SlF H.next y.2.2.2.2 RowWordC a_x33_96_0 c_x33_96_0 x33_96_0 ∧ RepL RowC H.next y.2.2.2.2 y.2.2.2.1 y.1) ?_ (fun j121 => ?_)
                · rintro ⟨l1_121, a1_121, c1_121, cs1_121, B16⟩ ⟨hp, g_t16, rn1, r1_h77, g_x33_96_0, r1_121⟩
                  subst hK121
                  show WJ _ _ _ B16 [⟨some ⟨bv0, 0, none⟩, 2, 1, [.int .i64 0, .int .i64 0]⟩, ⟨a1_121, c1_121, 2, cs1_121⟩, ⟨some ⟨bv1, 0, none⟩, 2, 1, [.int .i64 v1_0_96, .string (bs v1_1_96)]⟩, ⟨some ⟨bv2u3, 0, none⟩, 2, 1, [.int .i64 x33_96_1_0, .int .i64 x33_96_1_1]⟩] _ _ ⟨[(3, .v (.pointer (some ⟨bv0, 0, none⟩))), (4, .v (.slice a1_121 l1_121.length c1_121)), (5, .v (.int .i64 x5_h77)), (7, .v (.string (bs t20))), (16, .v (.slice a_t16 t16.length c_t16)), (17, .v (.int .i64 ((t16.length : Nat) : Int))), (18, .v (.int .i64 x18_h77))], [], true, 0⟩
                  exact WJ.ag 213 rfl (by exact ⟨rfl, rfl, rfl, rfl, rfl, rfl, trivial⟩) rfl rfl rfl (ih77 (n, l1_121, IntKind.i64.wrap (x5_h77 + (IntKind.i64.wrap (((t20.length : Nat) : Int) + 1))), IntKind.i64.wrap (x18_h77 + 1), a1_121, c1_121, cs1_121, B16) ⟨hp, g_t16, rn1, r1_121⟩ (Nat.lt_succ_self _))
                · refine WJ.ci 203 hp rfl rfl rfl rfl rfl rfl rfl rfl rfl (fun hc42u18 hp => ?_) (fun hc42u18 hp => ?_)
                  · refine WJ.bs (cs := [.int .i64 x5_h77, .slice a_x33_96_0 x33_96_0.length c_x33_96_0]) (sz := 2) (pl := [(0, .agg ⟨[.int .i64 x5_h77, .slice a_x33_96_0 x33_96_0.length c_x33_96_0]⟩)]) 207 rfl rfl rfl rfl rfl (fun _ _ => rfl) (fun _ => by rfl) rfl rfl ?_
                    intro b47u60
                    refine ⟨_, rfl, ?_⟩
                    obtain ⟨l48u30, e48u30, hp⟩ := bindS hp
                    obtain ⟨bd48u30, rfl⟩ := apd_some e48u30
                    refine WJ.apN (cs := cs1_h77) (new := [.int .i64 x5_h77, .slice a_x33_96_0 x33_96_0.length c_x33_96_0]) (L := l1_h77) (L2 := ([(Row.mk x5_h77 x33_96_0)] : List Row)) 200 1 rfl rfl rfl rfl rfl rfl rfl rfl r1_h77.len (el23 rfl) rfl rfl (fun ids H' fr => fr.srcBox (j := 4) rfl rfl (by decide)) rfl rfl bd48u30 ?_
                    intro a48u30 c48u30
                    refine ⟨_, rfl, ?_⟩
                    have rp48u30 : RepL RowC H.next B15 (cs1_h77 ++ [.int .i64 x5_h77, .slice a_x33_96_0 x33_96_0.length c_x33_96_0]) (l1_h77 ++ ([(Row.mk x5_h77 x33_96_0)] : List Row)) := r1_h77.append ⟨[.int .i64 x5_h77, .slice a_x33_96_0 x33_96_0.length c_x33_96_0], [], rfl, ⟨_, _, rfl, g_x33_96_0⟩, rfl⟩
                    refine WJ.pop [⟨some ⟨bv0, 0, none⟩, 2, 1, [.int .i64 0, .int .i64 0]⟩, ⟨a48u30, c48u30, 2, (cs1_h77 ++ [.int .i64 x5_h77, .slice a_x33_96_0 x33_96_0.length c_x33_96_0])⟩, ⟨some ⟨bv1, 0, none⟩, 2, 1, [.int .i64 v1_0_96, .string (bs v1_1_96)]⟩, ⟨some ⟨bv2u3, 0, none⟩, 2, 1, [.int .i64 x33_96_1_0, .int .i64 x33_96_1_1]⟩] rfl ?_
                    exact WJ.goto 2 (j121 ((l1_h77 ++ ([(Row.mk x5_h77 x33_96_0)] : List Row)), a48u30, c48u30, (cs1_h77 ++ [.int .i64 x5_h77, .slice a_x33_96_0 x33_96_0.length c_x33_96_0]), B15) ⟨hp, g_t16, rn1, r1_h77, g_x33_96_0, rp48u30⟩) rfl rfl (by exact ⟨rfl, rfl, rfl, rfl, rfl, rfl, rfl, trivial⟩) rfl rfl rfl
                  · exact WJ.goto 3 (j121 (l1_h77, a1_h77, c1_h77, cs1_h77, B15) ⟨hp, g_t16, rn1, r1_h77, g_x33_96_0, r1_h77⟩) rfl rfl (by exact ⟨rfl, rfl, rfl, rfl, rfl, rfl, rfl, trivial⟩) rfl rfl rfl
            · refine WJ.adv 4 rfl ?_
              refine WJ.liftS (loc := []) rfl rfl (fun bv2u2 => ?_)
              refine WJ.adv 6 rfl ?_
              refine WJ.nw 4 ?_
              obtain ⟨K113, hK113, hp⟩ : ∃ K, K = _ ∧ Option.bind _ K = some r := ⟨_, rfl, cutS hp⟩
              refine WJ.cut 2 (α := (List RowWord) × Int × (List UInt8) × (Option Addr) × Nat × Hp) (fun y => [(2, .v (.slice y.2.2.2.1 y.1.length y.2.2.2.2.1)), (3, .v (.pointer (some ⟨bv2u2, 0, none⟩)))]) (fun y => []) (fun y => [⟨some ⟨bv0, 0, none⟩, 2, 1, [.int .i64 0, .int .i64 0]⟩, ⟨a1_h77, c1_h77, 2, cs1_h77⟩, ⟨some ⟨bv1, 0, none⟩, 2, 1, [.int .i64 y.2.1, .string (bs y.2.2.1)]⟩, ⟨some ⟨bv2u2, 0, none⟩, 2, 1, [.int .i64 0, .int .i64 0]⟩, ⟨y.2.2.2.1, y.2.2.2.2.1, 4, encL RowWord.cs y.1⟩]) (fun y => y.2.2.2.2.2) (fun y => K113 (Sum.inl (y.1, y.2.1, y.2.2.1)) = some r ∧ SlF H.next y.2.2.2.2.2 strC a_t16 c_t16 t16 ∧ RepL RowC H.next y.2.2.2.2.2 [] ([] : List Row) ∧ RepL RowC H.next y.2.2.2.2.2 cs1_h77 l1_h77) ?_ (fun j113 => ?_)
              · rintro ⟨l4_113, v1_0_113, v1_1_113, a4_113, c4_113, B13⟩ ⟨hp, g_t16, rn1, r1_h77⟩
                subst hK113
                show WJ _ _ _ B13 [⟨some ⟨bv0, 0, none⟩, 2, 1, [.int .i64 0, .int .i64 0]⟩, ⟨a1_h77, c1_h77, 2, cs1_h77⟩, ⟨some ⟨bv1, 0, none⟩, 2, 1, [.int .i64 v1_0_113, .string (bs v1_1_113)]⟩, ⟨some ⟨bv2u2, 0, none⟩, 2, 1, [.int .i64 0, .int .i64 0]⟩, ⟨a4_113, c4_113, 4, encL RowWord.cs l4_113⟩] _ _ ⟨[(2, .v (.slice a4_113 l4_113.length c4_113)), (3, .v (.pointer (some ⟨bv2u2, 0, none⟩)))], [], true, 0⟩
                refine WJ.dr 201 rfl gmix (by kernel_rfl) (by kernel_rfl) rfl ?_
                refine WD.hd (v := .agg ⟨[.int .i64 0, .int .i64 0]⟩) rfl rfl rfl rfl (fun _ _ _ _ _ => side_no) (fun ids H' fr => opD_load rfl (evV_eq _ _ _ _ _ rfl) (fr.ldOwn (j := 3) rfl rfl)) rfl ?_
                refine WD.sb (j := 3) rfl rfl rfl rfl rfl rfl rfl rfl rfl rfl ?_
                refine WD.done rfl ?_
                refine WJ.inlRo 200 rfl (.tmp rfl (.cell 3 rfl rfl rfl .nil)) rfl rfl ?_
                refine WJ.fz (c := RowWordC) (j := 4) rfl rfl rfl (repL_flat.2 rfl) ?_
                rintro B14 ⟨abB14, ivB14⟩ gz4
                replace g_t16 := g_t16.mono (Nat.le_refl _) (abB14.le (Nat.zero_le _))
                replace rn1 := rn1.mono (Nat.le_refl _) (abB14.le (Nat.zero_le _))
                replace r1_h77 := r1_h77.mono (Nat.le_refl _) (abB14.le (Nat.zero_le _))
                exact WJ.gotoO (j96 (v1_0_113, v1_1_113, l4_113, 0, 0, a4_113, c4_113, B14) ⟨hp, g_t16, rn1, r1_h77, gz4⟩) (by exact ⟨rfl, rfl, rfl, rfl, rfl, rfl, rfl, rfl, trivial⟩) rfl rfl
              · refine WJ.lp 200 (α := Nat × (List RowWord) × Int × (List UInt8) × (Option Addr) × Nat × Hp) (fun y => [(0, .v (.pointer (some ⟨bv1, 0, none⟩))), (2, .v (.slice y.2.2.2.2.1 y.2.1.length y.2.2.2.2.2.1)), (3, .v (.pointer (some ⟨bv2u2, 0, none⟩)))]) (fun y => []) (fun y => [⟨some ⟨bv0, 0, none⟩, 2, 1, [.int .i64 0, .int .i64 0]⟩, ⟨a1_h77, c1_h77, 2, cs1_h77⟩, ⟨some ⟨bv1, 0, none⟩, 2, 1, [.int .i64 y.2.2.1, .string (bs y.2.2.2.1)]⟩, ⟨some ⟨bv2u2, 0, none⟩, 2, 1, [.int .i64 0, .int .i64 0]⟩, ⟨y.2.2.2.2.1, y.2.2.2.2.2.1, 4, encL RowWord.cs y.2.1⟩]) (fun y => y.2.2.2.2.2.2) (fun y => y.1) (fun y => Option.bind (f9_l2 k y.1 y.2.1 y.2.2.1 y.2.2.2.1) K113 = some r ∧ SlF H.next y.2.2.2.2.2.2 strC a_t16 c_t16 t16 ∧ RepL RowC H.next y.2.2.2.2.2.2 [] ([] : List Row) ∧ RepL RowC H.next y.2.2.2.2.2.2 cs1_h77 l1_h77) (k, ([] : List RowWord), x5_h77, t20, none, 0, B2) rfl ⟨hp, g_t16, rn1, r1_h77⟩ (by exact ⟨rfl, rfl, rfl, trivial⟩) rfl rfl rfl ?_
                rintro ⟨n113, l4_h113, v1_0_h113, v1_1_h113, a4_h113, c4_h113, B3⟩ ⟨hp, g_t16, rn1, r1_h77⟩ ih113
                show WJ _ _ _ B3 [⟨some ⟨bv0, 0, none⟩, 2, 1, [.int .i64 0, .int .i64 0]⟩, ⟨a1_h77, c1_h77, 2, cs1_h77⟩, ⟨some ⟨bv1, 0, none⟩, 2, 1, [.int .i64 v1_0_h113, .string (bs v1_1_h113)]⟩, ⟨some ⟨bv2u2, 0, none⟩, 2, 1, [.int .i64 0, .int .i64 0]⟩, ⟨a4_h113, c4_h113, 4, encL RowWord.cs l4_h113⟩] _ _ ⟨[(0, .v (.pointer (some ⟨bv1, 0, none⟩))), (2, .v (.slice a4_h113 l4_h113.length c4_h113)), (3, .v (.pointer (some ⟨bv2u2, 0, none⟩)))], [], true, 0⟩
                replace hp : Option.bind (f9_l2 k n113 l4_h113 v1_0_h113 v1_1_h113) K113 = some r := hp
                cases n113 with
                | zero => rw [f9_l2] at hp; exact (noS hp).elim
                | succ n113 =>
                  rw [f9_l2] at hp
                  refine WJ.hd (v := .string (bs v1_1_h113)) 206 rfl rfl rfl rfl (fun ids H' fr => opD_load rfl (evV_eq _ _ _ _ _ rfl) (fr.ldOwn (j := 2) rfl rfl)) rfl ?_
                  refine WJ.cn 200 hp rfl rfl rfl rfl rfl rfl (opD_strne rfl rfl rfl) rfl rfl (fun hc11u33 hp => ?_) (fun hc11u33 hp => ?_)
                  · refine WJ.hd (v := .string (bs v1_1_h113)) 211 rfl rfl rfl rfl (fun ids H' fr => opD_load rfl (evV_eq _ _ _ _ _ rfl) (fr.ldOwn (j := 2) rfl rfl)) rfl ?_
                    obtain ⟨b17u33, e17u33, hp⟩ := bindS hp
                    refine WJ.hd (v := .int .u8 ((b17u33.toNat : Nat) : Int)) 200 rfl rfl rfl rfl (fun ids H' fr => opD_index rfl (evV_eq _ _ _ _ _ rfl) (evV_eq _ _ _ _ _ rfl) (sidx us9 e17u33)) rfl ?_
                    obtain ⟨t18u33, e18u33, hp⟩ := bindS hp
                    refine WJ.cl 200 (R := R_4 t18u33) (fun hm h k => R_4.mono hm h k) rfl (fun ids H' fr => f51_ok e18u33) ?_
                    rintro v B4 ⟨abB4, ivB4⟩ rfl
                    refine ⟨_, rfl, ?_⟩
                    replace g_t16 := g_t16.mono (Nat.le_refl _) (abB4.le (Nat.zero_le _))
                    replace rn1 := rn1.mono (Nat.le_refl _) (abB4.le (Nat.zero_le _))
                    replace r1_h77 := r1_h77.mono (Nat.le_refl _) (abB4.le (Nat.zero_le _))
                    cases t18u33
                    · replace hp := (itS hp).2 Bool.false_ne_true
                      refine WJ.hd (v := .string (bs v1_1_h113)) 208 rfl rfl rfl rfl (fun ids H' fr => opD_load rfl (evV_eq _ _ _ _ _ rfl) (fr.ldOwn (j := 2) rfl rfl)) rfl ?_
                      obtain ⟨b26u17, e26u17, hp⟩ := bindS hp
                      refine WJ.hd (v := .int .u8 ((b26u17.toNat : Nat) : Int)) 200 rfl rfl rfl rfl (fun ids H' fr => opD_index rfl (evV_eq _ _ _ _ _ rfl) (evV_eq _ _ _ _ _ rfl) (sidx us9 e26u17)) rfl ?_
                      refine WJ.ci 200 hp rfl rfl rfl rfl rfl rfl rfl rfl rfl (fun hc27u17 hp => ?_) (fun hc27u17 hp => ?_)
                      · exact WJ.goto 4 (j113 (l4_h113, v1_0_h113, v1_1_h113, a4_h113, c4_h113, B4) ⟨hp, g_t16, rn1, r1_h77⟩) rfl rfl (by exact ⟨rfl, rfl, trivial⟩) rfl rfl rfl
                      · refine WJ.hd (v := .int .i64 v1_0_h113) 210 rfl rfl rfl rfl (fun ids H' fr => opD_load rfl (evV_eq _ _ _ _ _ rfl) (fr.ldOwn (j := 2) rfl rfl)) rfl ?_
                        obtain ⟨K118, hK118, hp⟩ : ∃ K, K = _ ∧ Option.bind _ K = some r := ⟨_, rfl, cutS hp⟩
                        refine WJ.inlC 205 (α := Int × (List UInt8) × Int × Int × (List UInt8) × Int × Bool × Hp) (fun y => [(0, .v (.pointer (some ⟨bv1, 0, none⟩))), (2, .v (.slice a4_h113 l4_h113.length c4_h113)), (3, .v (.pointer (some ⟨bv2u2, 0, none⟩))), (4, .v (.int .i64 v1_0_h113)), (34, .v (.tuple ⟨[.agg ⟨[.int .i64 y.2.2.1, .int .i64 y.2.2.2.1, .string (bs y.2.2.2.2.1), .int .i64 y.2.2.2.2.2.1]⟩, .bool y.2.2.2.2.2.2.1]⟩))]) (fun y => [⟨some ⟨bv0, 0, none⟩, 2, 1, [.int .i64 0, .int .i64 0]⟩, ⟨a1_h77, c1_h77, 2, cs1_h77⟩, ⟨some ⟨bv1, 0, none⟩, 2, 1, [.int .i64 y.1, .string (bs y.2.1)]⟩, ⟨some ⟨bv2u2, 0, none⟩, 2, 1, [.int .i64 0, .int .i64 0]⟩, ⟨a4_h113, c4_h113, 4, encL RowWord.cs l4_h113⟩]) (fun y => y.2.2.2.2.2.2.2) (fun y => K118 (((y.1, y.2.1, y.2.2.1, y.2.2.2.1, y.2.2.2.2.1, y.2.2.2.2.2.1, y.2.2.2.2.2.2.1))) = some r ∧ SlF H.next y.2.2.2.2.2.2.2 strC a_t16 c_t16 t16 ∧ RepL RowC H.next y.2.2.2.2.2.2.2 [] ([] : List Row) ∧ RepL RowC H.next y.2.2.2.2.2.2.2 cs1_h77 l1_h77) rfl rfl Tryz.func53 rfl rfl rfl rfl rfl (lc := [(0, .v (.pointer (some ⟨bv1, 0, none⟩)))]) (fun _ => rfl) ?_ (fun j118 => ?_)
                        · rintro ⟨v1_0_118, v1_1_118, x34_118_0_0, x34_118_0_1, x34_118_0_2, x34_118_0_3, x34_118_1, B12⟩ ⟨hp, g_t16, rn1, r1_h77⟩
                          subst hK118
                          show WJ _ _ _ B12 [⟨some ⟨bv0, 0, none⟩, 2, 1, [.int .i64 0, .int .i64 0]⟩, ⟨a1_h77, c1_h77, 2, cs1_h77⟩, ⟨some ⟨bv1, 0, none⟩, 2, 1, [.int .i64 v1_0_118, .string (bs v1_1_118)]⟩, ⟨some ⟨bv2u2, 0, none⟩, 2, 1, [.int .i64 0, .int .i64 0]⟩, ⟨a4_h113, c4_h113, 4, encL RowWord.cs l4_h113⟩] _ _ ⟨[(0, .v (.pointer (some ⟨bv1, 0, none⟩))), (2, .v (.slice a4_h113 l4_h113.length c4_h113)), (3, .v (.pointer (some ⟨bv2u2, 0, none⟩))), (4, .v (.int .i64 v1_0_h113)), (34, .v (.tuple ⟨[.agg ⟨[.int .i64 x34_118_0_0, .int .i64 x34_118_0_1, .string (bs x34_118_0_2), .int .i64 x34_118_0_3]⟩, .bool x34_118_1]⟩))], [], true, 0⟩
                          refine WJ.adv 4 rfl ?_
                          refine WJ.liftS (loc := []) rfl rfl (fun bv3u19 => ?_)
                          refine WJ.sb 200 (j := 5) rfl rfl rfl rfl rfl rfl rfl rfl rfl rfl ?_
                          cases x34_118_1
                          · replace hp := (itS hp).2 Bool.false_ne_true
                            refine WJ.sb 214 (j := 3) rfl rfl rfl rfl rfl rfl rfl rfl rfl rfl ?_
                            refine WJ.inlRo 201 rfl (.tmp rfl (.cell 3 rfl rfl rfl .nil)) rfl rfl ?_
                            subst hK113
                            exact WJ.gotoO (j96 (v1_0_118, v1_1_118, ([] : List RowWord), 3, v1_0_h113, none, 0, B12) ⟨hp, g_t16, rn1, r1_h77, SlF.nil⟩) (by exact ⟨rfl, rfl, rfl, rfl, rfl, rfl, rfl, rfl, trivial⟩) rfl rfl
                          · replace hp := (itS hp).1 rfl
                            refine WJ.hd (v := .agg ⟨[.int .i64 x34_118_0_0, .int .i64 x34_118_0_1, .string (bs x34_118_0_2), .int .i64 x34_118_0_3]⟩) 212 rfl rfl rfl rfl (fun ids H' fr => opD_load rfl (evV_eq _ _ _ _ _ rfl) (fr.ldOwn (j := 5) rfl rfl)) rfl ?_
                            refine WJ.bs (cs := encL RowWord.cs [(RowWord.mk x34_118_0_0 x34_118_0_1 x34_118_0_2 x34_118_0_3)]) (sz := 4) (pl := [(0, .agg ⟨[.int .i64 x34_118_0_0, .int .i64 x34_118_0_1, .string (bs x34_118_0_2), .int .i64 x34_118_0_3]⟩)]) 200 rfl rfl rfl rfl rfl (fun _ _ => rfl) (fun _ => by rfl) rfl rfl ?_
                            intro b43u17
                            refine ⟨_, rfl, ?_⟩
                            obtain ⟨l44u17, e44u17, hp⟩ := bindS hp
                            obtain ⟨bd44u17, rfl⟩ := apd_some e44u17
                            refine WJ.ap (L := l4_h113) (L2 := [(RowWord.mk x34_118_0_0 x34_118_0_1 x34_118_0_2 x34_118_0_3)]) 200 4 rfl rfl rfl rfl rfl rfl rfl rfl (el43 rfl) rfl (fun _ => rfl) (fun _ => rfl) rfl (fun ids H' fr => fr.srcOwn (enc := RowWord.cs) (sz := 4) (j := 6) (fun _ => rfl) (by decide) rfl) bd44u17 ?_
                            intro a44u17 c44u17
                            refine ⟨_, rfl, ?_⟩
                            refine WJ.pop [⟨some ⟨bv0, 0, none⟩, 2, 1, [.int .i64 0, .int .i64 0]⟩, ⟨a1_h77, c1_h77, 2, cs1_h77⟩, ⟨some ⟨bv1, 0, none⟩, 2, 1, [.int .i64 v1_0_118, .string (bs v1_1_118)]⟩, ⟨some ⟨bv2u2, 0, none⟩, 2, 1, [.int .i64 0, .int .i64 0]⟩, ⟨a44u17, c44u17, 4, encL RowWord.cs (l4_h113 ++ ([(RowWord.mk x34_118_0_0 x34_118_0_1 x34_118_0_2 x34_118_0_3)]))⟩, ⟨some ⟨bv3u19, 0, none⟩, 4, 1, [.int .i64 x34_118_0_0, .int .i64 x34_118_0_1, .string (bs x34_118_0_2), .int .i64 x34_118_0_3]⟩] rfl ?_
                            exact WJ.ag 203 rfl (by exact ⟨rfl, rfl, rfl, trivial⟩) rfl rfl rfl (ih113 (n113, (l4_h113 ++ ([(RowWord.mk x34_118_0_0 x34_118_0_1 x34_118_0_2 x34_118_0_3)])), v1_0_118, v1_1_118, a44u17, c44u17, B12) ⟨hp, g_t16, rn1, r1_h77⟩ (Nat.lt_succ_self _))
                        · refine WJ.adv 3 rfl ?_
                          refine WJ.liftS (loc := []) rfl rfl (fun bv3u18 => ?_)
                          refine WJ.hd (v := .int .i64 v1_0_h113) 207 rfl rfl rfl rfl (fun ids H' fr => opD_load rfl (evV_eq _ _ _ _ _ rfl) (fr.ldOwn (j := 2) rfl rfl)) rfl ?_
                          refine WJ.sb 201 (j := 5) rfl rfl rfl rfl rfl rfl rfl rfl rfl rfl ?_
                          refine WJ.hd (v := .string (bs v1_1_h113)) 207 rfl rfl rfl rfl (fun ids H' fr => opD_load rfl (evV_eq _ _ _ _ _ rfl) (fr.ldOwn (j := 2) rfl rfl)) rfl ?_
                          obtain ⟨b17u38, e17u38, hp⟩ := bindS hp
                          refine WJ.hd (v := .int .u8 ((b17u38.toNat : Nat) : Int)) 200 rfl rfl rfl rfl (fun ids H' fr => opD_index rfl (evV_eq _ _ _ _ _ rfl) (evV_eq _ _ _ _ _ rfl) (sidx us9 e17u38)) rfl ?_
                          refine WJ.ci 200 hp rfl rfl rfl rfl rfl rfl rfl rfl rfl (fun hc18u38 hp => ?_) (fun hc18u38 hp => ?_)
                          · refine WJ.hd (v := .string (bs v1_1_h113)) 207 rfl rfl rfl rfl (fun ids H' fr => opD_load rfl (evV_eq _ _ _ _ _ rfl) (fr.ldOwn (j := 2) rfl rfl)) rfl ?_
                            obtain ⟨⟨t24u20_0, t24u20_1⟩, e24u20, hp⟩ := bindS hp
                            refine WJ.cl 200 (R := R_9_3 ⟨t24u20_0, t24u20_1⟩) (fun hm h k => R_9_3.mono hm h k) rfl (fun ids H' fr => f31_ok e24u20) ?_
                            rintro v B5 ⟨abB5, ivB5⟩ rfl
                            refine ⟨_, rfl, ?_⟩
                            replace g_t16 := g_t16.mono (Nat.le_refl _) (abB5.le (Nat.zero_le _))
                            replace rn1 := rn1.mono (Nat.le_refl _) (abB5.le (Nat.zero_le _))
                            replace r1_h77 := r1_h77.mono (Nat.le_refl _) (abB5.le (Nat.zero_le _))
                            refine WJ.adv 8 rfl ?_
                            obtain ⟨K119, hK119, hp⟩ : ∃ K, K = _ ∧ Option.bind _ K = some r := ⟨_, rfl, cutS hp⟩
                            refine WJ.cut 2 (α := Hp) (fun y => [(0, .v (.pointer (some ⟨bv1, 0, none⟩))), (2, .v (.pointer (some ⟨bv3u18, 0, none⟩))), (4, .v (.string (bs t24u20_0))), (5, .v (.int .i64 t24u20_1))]) (fun y => []) (fun y => [⟨some ⟨bv0, 0, none⟩, 2, 1, [.int .i64 0, .int .i64 0]⟩, ⟨a1_h77, c1_h77, 2, cs1_h77⟩, ⟨some ⟨bv1, 0, none⟩, 2, 1, [.int .i64 v1_0_h113, .string (bs v1_1_h113)]⟩, ⟨some ⟨bv2u2, 0, none⟩, 2, 1, [.int .i64 0, .int .i64 0]⟩, ⟨a4_h113, c4_h113, 4, encL RowWord.cs l4_h113⟩, ⟨some ⟨bv3u18, 0, none⟩, 4, 1, [.int .i64 v1_0_h113, .int .i64 0, .string (bs ([] : List UInt8)), .int .i64 0]⟩]) (fun y => y) (fun y => K119 ((Sum.inr ())) = some r ∧ SlF H.next y strC a_t16 c_t16 t16 ∧ RepL RowC H.next y [] ([] : List Row) ∧ RepL RowC H.next y cs1_h77 l1_h77) ?_ (fun j119 => ?_)
                            · rintro B7 ⟨hp, g_t16, rn1, r1_h77⟩
                              subst hK119
                              show WJ _ _ _ B7 [⟨some ⟨bv0, 0, none⟩, 2, 1, [.int .i64 0, .int .i64 0]⟩, ⟨a1_h77, c1_h77, 2, cs1_h77⟩, ⟨some ⟨bv1, 0, none⟩, 2, 1, [.int .i64 v1_0_h113, .string (bs v1_1_h113)]⟩, ⟨some ⟨bv2u2, 0, none⟩, 2, 1, [.int .i64 0, .int .i64 0]⟩, ⟨a4_h113, c4_h113, 4, encL RowWord.cs l4_h113⟩, ⟨some ⟨bv3u18, 0, none⟩, 4, 1, [.int .i64 v1_0_h113, .int .i64 0, .string (bs ([] : List UInt8)), .int .i64 0]⟩] _ _ ⟨[(0, .v (.pointer (some ⟨bv1, 0, none⟩))), (2, .v (.pointer (some ⟨bv3u18, 0, none⟩))), (4, .v (.string (bs t24u20_0))), (5, .v (.int .i64 t24u20_1))], [], true, 0⟩
                              refine WJ.sb 204 (j := 5) rfl rfl rfl rfl rfl rfl rfl rfl rfl rfl ?_
                              refine WJ.sb 201 (j := 5) rfl rfl rfl rfl rfl rfl rfl rfl rfl rfl ?_
                              refine WJ.inl 205 rfl rfl Tryz.func52 rfl rfl rfl rfl rfl (lc := [(0, .v (.pointer (some ⟨bv1, 0, none⟩))), (1, .v (.int .i64 t24u20_1))]) (fun _ => rfl) ?_
                              refine WJ.dr 200 rfl gmix (by kernel_rfl) (by kernel_rfl) rfl ?_
                              refine WD.hd (v := .int .i64 v1_0_h113) rfl rfl rfl rfl (fun _ _ _ _ _ => side_no) (fun ids H' fr => opD_load rfl (evV_eq _ _ _ _ _ rfl) (fr.ldOwn (j := 2) rfl rfl)) rfl ?_
                              refine WD.hd (v := .string (bs v1_1_h113)) rfl rfl rfl rfl (fun _ _ _ _ _ => side_no) (fun ids H' fr => opD_load rfl (evV_eq _ _ _ _ _ rfl) (fr.ldOwn (j := 2) rfl rfl)) rfl ?_
                              obtain ⟨s17u39, e17u39, hp⟩ := bindS hp
                              refine WD.hd (v := .string (bs s17u39)) rfl rfl rfl rfl (fun _ _ _ _ _ => side_no) (fun ids H' fr => opD_sl rfl (evV_eq _ _ _ _ _ rfl) (evV_eq _ _ _ _ _ rfl) (sliceD_l us9 e17u39)) rfl ?_
                              refine WD.sb (j := 2) rfl rfl rfl rfl rfl rfl rfl rfl rfl rfl ?_
                              refine WD.sb (j := 2) rfl rfl rfl rfl rfl rfl rfl rfl rfl rfl ?_
                              refine WD.done rfl ?_
                              refine WJ.inlN 200 rfl rfl rfl rfl ?_
                              refine WJ.hd (v := .agg ⟨[.int .i64 v1_0_h113, .int .i64 3, .string (bs t24u20_0), .int .i64 0]⟩) 203 rfl rfl rfl rfl (fun ids H' fr => opD_load rfl (evV_eq _ _ _ _ _ rfl) (fr.ldOwn (j := 5) rfl rfl)) rfl ?_
                              refine WJ.sb 200 (j := 5) rfl rfl rfl rfl rfl rfl rfl rfl rfl rfl ?_
                              refine WJ.inlRo 202 rfl (.cell 5 rfl rfl rfl (.tmp rfl .nil)) rfl rfl ?_
                              exact WJ.gotoO (j118 (IntKind.i64.wrap (v1_0_h113 + t24u20_1), s17u39, v1_0_h113, 3, t24u20_0, 0, true, B7) ⟨hp, g_t16, rn1, r1_h77⟩) (by exact ⟨rfl, rfl, rfl, rfl, rfl, trivial⟩) rfl rfl
                            · refine WJ.ci 202 hp rfl rfl rfl rfl rfl rfl rfl rfl rfl (fun hc28u20 hp => ?_) (fun hc28u20 hp => ?_)
                              · refine WJ.hd (v := .agg ⟨[.int .i64 v1_0_h113, .int .i64 0, .string (bs ([] : List UInt8)), .int .i64 0]⟩) 223 rfl rfl rfl rfl (fun ids H' fr => opD_load rfl (evV_eq _ _ _ _ _ rfl) (fr.ldOwn (j := 5) rfl rfl)) rfl ?_
                                refine WJ.sb 200 (j := 5) rfl rfl rfl rfl rfl rfl rfl rfl rfl rfl ?_
                                refine WJ.inlRo 202 rfl (.cell 5 rfl rfl rfl (.tmp rfl .nil)) rfl rfl ?_
                                subst hK119
                                exact WJ.gotoO (j118 (v1_0_h113, v1_1_h113, v1_0_h113, 0, ([] : List UInt8), 0, false, B5) ⟨hp, g_t16, rn1, r1_h77⟩) (by exact ⟨rfl, rfl, rfl, rfl, rfl, trivial⟩) rfl rfl
                              · refine WJ.hd (v := .string (bs v1_1_h113)) 205 rfl rfl rfl rfl (fun ids H' fr => opD_load rfl (evV_eq _ _ _ _ _ rfl) (fr.ldOwn (j := 2) rfl rfl)) rfl ?_
                                refine WJ.ci 201 hp rfl rfl rfl rfl rfl rfl rfl rfl rfl (fun hc36u18 hp => ?_) (fun hc36u18 hp => ?_)
                                · refine WJ.hd (v := .string (bs v1_1_h113)) 204 rfl rfl rfl rfl (fun ids H' fr => opD_load rfl (evV_eq _ _ _ _ _ rfl) (fr.ldOwn (j := 2) rfl rfl)) rfl ?_
                                  obtain ⟨b43u16, e43u16, hp⟩ := bindS hp
                                  refine WJ.hd (v := .int .u8 ((b43u16.toNat : Nat) : Int)) 201 rfl rfl rfl rfl (fun ids H' fr => opD_index rfl (evV_eq _ _ _ _ _ rfl) (evV_eq _ _ _ _ _ rfl) (sidx us9 e43u16)) rfl ?_
                                  obtain ⟨t44u16, e44u16, hp⟩ := bindS hp
                                  refine WJ.cl 200 (R := R_4 t44u16) (fun hm h k => R_4.mono hm h k) rfl (fun ids H' fr => f51_ok e44u16) ?_
                                  rintro v B6 ⟨abB6, ivB6⟩ rfl
                                  refine ⟨_, rfl, ?_⟩
                                  replace g_t16 := g_t16.mono (Nat.le_refl _) (abB6.le (Nat.zero_le _))
                                  replace rn1 := rn1.mono (Nat.le_refl _) (abB6.le (Nat.zero_le _))
                                  replace r1_h77 := r1_h77.mono (Nat.le_refl _) (abB6.le (Nat.zero_le _))
                                  cases t44u16
                                  · replace hp := (itS hp).2 Bool.false_ne_true
                                    refine WJ.hd (v := .agg ⟨[.int .i64 v1_0_h113, .int .i64 0, .string (bs ([] : List UInt8)), .int .i64 0]⟩) 207 rfl rfl rfl rfl (fun ids H' fr => opD_load rfl (evV_eq _ _ _ _ _ rfl) (fr.ldOwn (j := 5) rfl rfl)) rfl ?_
                                    refine WJ.sb 200 (j := 5) rfl rfl rfl rfl rfl rfl rfl rfl rfl rfl ?_
                                    refine WJ.inlRo 202 rfl (.cell 5 rfl rfl rfl (.tmp rfl .nil)) rfl rfl ?_
                                    subst hK119
                                    exact WJ.gotoO (j118 (v1_0_h113, v1_1_h113, v1_0_h113, 0, ([] : List UInt8), 0, false, B6) ⟨hp, g_t16, rn1, r1_h77⟩) (by exact ⟨rfl, rfl, rfl, rfl, rfl, trivial⟩) rfl rfl
                                  · replace hp := (itS hp).1 rfl
                                    exact WJ.goto 6 (j119 B6 ⟨hp, g_t16, rn1, r1_h77⟩) rfl rfl (by exact ⟨rfl, rfl, rfl, rfl, trivial⟩) rfl rfl rfl
                                · exact WJ.goto 14 (j119 B5 ⟨hp, g_t16, rn1, r1_h77⟩) rfl rfl (by exact ⟨rfl, rfl, rfl, rfl, trivial⟩) rfl rfl rfl
                          · refine WJ.hd (v := .string (bs v1_1_h113)) 208 rfl rfl rfl rfl (fun ids H' fr => opD_load rfl (evV_eq _ _ _ _ _ rfl) (fr.ldOwn (j := 2) rfl rfl)) rfl ?_
                            obtain ⟨t60u4, e60u4, hp⟩ := bindS hp
                            refine WJ.cl 200 (R := R_3 t60u4) (fun hm h k => R_3.mono hm h k) rfl (fun ids H' fr => f67_ok e60u4) ?_
                            rintro v B8 ⟨abB8, ivB8⟩ rfl
                            refine ⟨_, rfl, ?_⟩
                            replace g_t16 := g_t16.mono (Nat.le_refl _) (abB8.le (Nat.zero_le _))
                            replace rn1 := rn1.mono (Nat.le_refl _) (abB8.le (Nat.zero_le _))
                            replace r1_h77 := r1_h77.mono (Nat.le_refl _) (abB8.le (Nat.zero_le _))
                            refine WJ.adv 4 rfl ?_
                            obtain ⟨K120, hK120, hp⟩ : ∃ K, K = _ ∧ Option.bind _ K = some r := ⟨_, rfl, cutS hp⟩
                            refine WJ.cut 2 (α := Int × Hp) (fun y => [(0, .v (.pointer (some ⟨bv1, 0, none⟩))), (2, .v (.pointer (some ⟨bv3u18, 0, none⟩))), (6, .v (.int .i64 y.1))]) (fun y => []) (fun y => [⟨some ⟨bv0, 0, none⟩, 2, 1, [.int .i64 0, .int .i64 0]⟩, ⟨a1_h77, c1_h77, 2, cs1_h77⟩, ⟨some ⟨bv1, 0, none⟩, 2, 1, [.int .i64 v1_0_h113, .string (bs v1_1_h113)]⟩, ⟨some ⟨bv2u2, 0, none⟩, 2, 1, [.int .i64 0, .int .i64 0]⟩, ⟨a4_h113, c4_h113, 4, encL RowWord.cs l4_h113⟩, ⟨some ⟨bv3u18, 0, none⟩, 4, 1, [.int .i64 v1_0_h113, .int .i64 0, .string (bs ([] : List UInt8)), .int .i64 0]⟩]) (fun y => y.2) (fun y => K120 ((y.1)) = some r ∧ SlF H.next y.2 strC a_t16 c_t16 t16 ∧ RepL RowC H.next y.2 [] ([] : List Row) ∧ RepL RowC H.next y.2 cs1_h77 l1_h77) ?_ (fun j120 => ?_)
                            · rintro ⟨x6_120, B9⟩ ⟨hp, g_t16, rn1, r1_h77⟩
                              subst hK120
                              show WJ _ _ _ B9 [⟨some ⟨bv0, 0, none⟩, 2, 1, [.int .i64 0, .int .i64 0]⟩, ⟨a1_h77, c1_h77, 2, cs1_h77⟩, ⟨some ⟨bv1, 0, none⟩, 2, 1, [.int .i64 v1_0_h113, .string (bs v1_1_h113)]⟩, ⟨some ⟨bv2u2, 0, none⟩, 2, 1, [.int .i64 0, .int .i64 0]⟩, ⟨a4_h113, c4_h113, 4, encL RowWord.cs l4_h113⟩, ⟨some ⟨bv3u18, 0, none⟩, 4, 1, [.int .i64 v1_0_h113, .int .i64 0, .string (bs ([] : List UInt8)), .int .i64 0]⟩] _ _ ⟨[(0, .v (.pointer (some ⟨bv1, 0, none⟩))), (2, .v (.pointer (some ⟨bv3u18, 0, none⟩))), (6, .v (.int .i64 x6_120))], [], true, 0⟩
                              refine WJ.hd (v := .string (bs v1_1_h113)) 205 rfl rfl rfl rfl (fun ids H' fr => opD_load rfl (evV_eq _ _ _ _ _ rfl) (fr.ldOwn (j := 2) rfl rfl)) rfl ?_
                              obtain ⟨s73u4, e73u4, hp⟩ := bindS hp
                              refine WJ.hd (v := .string (bs s73u4)) 201 rfl rfl rfl rfl (fun ids H' fr => opD_sh rfl (evV_eq _ _ _ _ _ rfl) (evV_eq _ _ _ _ _ rfl) (sliceD_h us9 e73u4)) rfl ?_
                              refine WJ.inl 206 rfl rfl Tryz.func52 rfl rfl rfl rfl rfl (lc := [(0, .v (.pointer (some ⟨bv1, 0, none⟩))), (1, .v (.int .i64 x6_120))]) (fun _ => rfl) ?_
                              refine WJ.dr 200 rfl gmix (by kernel_rfl) (by kernel_rfl) rfl ?_
                              refine WD.hd (v := .int .i64 v1_0_h113) rfl rfl rfl rfl (fun _ _ _ _ _ => side_no) (fun ids H' fr => opD_load rfl (evV_eq _ _ _ _ _ rfl) (fr.ldOwn (j := 2) rfl rfl)) rfl ?_
                              refine WD.hd (v := .string (bs v1_1_h113)) rfl rfl rfl rfl (fun _ _ _ _ _ => side_no) (fun ids H' fr => opD_load rfl (evV_eq _ _ _ _ _ rfl) (fr.ldOwn (j := 2) rfl rfl)) rfl ?_
                              obtain ⟨s17u40, e17u40, hp⟩ := bindS hp
                              refine WD.hd (v := .string (bs s17u40)) rfl rfl rfl rfl (fun _ _ _ _ _ => side_no) (fun ids H' fr => opD_sl rfl (evV_eq _ _ _ _ _ rfl) (evV_eq _ _ _ _ _ rfl) (sliceD_l us9 e17u40)) rfl ?_
                              refine WD.sb (j := 2) rfl rfl rfl rfl rfl rfl rfl rfl rfl rfl ?_
                              refine WD.sb (j := 2) rfl rfl rfl rfl rfl rfl rfl rfl rfl rfl ?_
                              refine WD.done rfl ?_
                              refine WJ.inlN 200 rfl rfl rfl rfl ?_
                              obtain ⟨t78u4, e78u4, hp⟩ := bindS hp
                              refine WJ.cl 205 (R := R_4 t78u4) (fun hm h k => R_4.mono hm h k) rfl (fun ids H' fr => f16_ok e78u4) ?_
                              rintro v B10 ⟨abB10, ivB10⟩ rfl
                              refine ⟨_, rfl, ?_⟩
                              replace g_t16 := g_t16.mono (Nat.le_refl _) (abB10.le (Nat.zero_le _))
                              replace rn1 := rn1.mono (Nat.le_refl _) (abB10.le (Nat.zero_le _))
                              replace r1_h77 := r1_h77.mono (Nat.le_refl _) (abB10.le (Nat.zero_le _))
                              cases t78u4
                              · replace hp := (itS hp).2 Bool.false_ne_true
                                refine WJ.sb 206 (j := 5) rfl rfl rfl rfl rfl rfl rfl rfl rfl rfl ?_
                                obtain ⟨⟨t86u4_0, t86u4_1⟩, e86u4, hp⟩ := bindS hp
                                refine WJ.cl 204 (R := R_3_4 ⟨t86u4_0, t86u4_1⟩) (fun hm h k => R_3_4.mono hm h k) rfl (fun ids H' fr => f68_ok e86u4) ?_
                                rintro v B11 ⟨abB11, ivB11⟩ rfl
                                refine ⟨_, rfl, ?_⟩
                                replace g_t16 := g_t16.mono (Nat.le_refl _) (abB11.le (Nat.zero_le _))
                                replace rn1 := rn1.mono (Nat.le_refl _) (abB11.le (Nat.zero_le _))
                                replace r1_h77 := r1_h77.mono (Nat.le_refl _) (abB11.le (Nat.zero_le _))
                                refine WJ.sb 204 (j := 5) rfl rfl rfl rfl rfl rfl rfl rfl rfl rfl ?_
                                refine WJ.hd (v := .agg ⟨[.int .i64 v1_0_h113, .int .i64 2, .string (bs ([] : List UInt8)), .int .i64 t86u4_0]⟩) 204 rfl rfl rfl rfl (fun ids H' fr => opD_load rfl (evV_eq _ _ _ _ _ rfl) (fr.ldOwn (j := 5) rfl rfl)) rfl ?_
                                refine WJ.sb 201 (j := 5) rfl rfl rfl rfl rfl rfl rfl rfl rfl rfl ?_
                                refine WJ.inlRo 202 rfl (.cell 5 rfl rfl rfl (.tmp rfl .nil)) rfl rfl ?_
                                exact WJ.gotoO (j118 (IntKind.i64.wrap (v1_0_h113 + x6_120), s17u40, v1_0_h113, 2, ([] : List UInt8), t86u4_0, t86u4_1, B11) ⟨hp, g_t16, rn1, r1_h77⟩) (by exact ⟨rfl, rfl, rfl, rfl, rfl, trivial⟩) rfl rfl
                              · replace hp := (itS hp).1 rfl
                                refine WJ.sb 206 (j := 5) rfl rfl rfl rfl rfl rfl rfl rfl rfl rfl ?_
                                refine WJ.sb 201 (j := 5) rfl rfl rfl rfl rfl rfl rfl rfl rfl rfl ?_
                                refine WJ.hd (v := .agg ⟨[.int .i64 v1_0_h113, .int .i64 1, .string (bs s73u4), .int .i64 0]⟩) 203 rfl rfl rfl rfl (fun ids H' fr => opD_load rfl (evV_eq _ _ _ _ _ rfl) (fr.ldOwn (j := 5) rfl rfl)) rfl ?_
                                refine WJ.sb 200 (j := 5) rfl rfl rfl rfl rfl rfl rfl rfl rfl rfl ?_
                                refine WJ.inlRo 202 rfl (.cell 5 rfl rfl rfl (.tmp rfl .nil)) rfl rfl ?_
                                exact WJ.gotoO (j118 (IntKind.i64.wrap (v1_0_h113 + x6_120), s17u40, v1_0_h113, 1, s73u4, 0, true, B10) ⟨hp, g_t16, rn1, r1_h77⟩) (by exact ⟨rfl, rfl, rfl, rfl, rfl, trivial⟩) rfl rfl
                            · refine WJ.ci 202 hp rfl rfl rfl rfl rfl rfl rfl rfl rfl (fun hc62u4 hp => ?_) (fun hc62u4 hp => ?_)
                              · refine WJ.hd (v := .string (bs v1_1_h113)) 206 rfl rfl rfl rfl (fun ids H' fr => opD_load rfl (evV_eq _ _ _ _ _ rfl) (fr.ldOwn (j := 2) rfl rfl)) rfl ?_
                                exact WJ.goto 3 (j120 (((v1_1_h113.length : Nat) : Int), B8) ⟨hp, g_t16, rn1, r1_h77⟩) rfl rfl (by exact ⟨rfl, rfl, rfl, trivial⟩) rfl rfl rfl
                              · exact WJ.goto 3 (j120 (t60u4, B8) ⟨hp, g_t16, rn1, r1_h77⟩) rfl rfl (by exact ⟨rfl, rfl, rfl, trivial⟩) rfl rfl rfl
                    · replace hp := (itS hp).1 rfl
                      refine WJ.inl 206 rfl rfl Tryz.func52 rfl rfl rfl rfl rfl (lc := [(0, .v (.pointer (some ⟨bv1, 0, none⟩))), (1, .v (.int .i64 1))]) (fun _ => rfl) ?_
                      refine WJ.dr 200 rfl gmix (by kernel_rfl) (by kernel_rfl) rfl ?_
                      refine WD.hd (v := .int .i64 v1_0_h113) rfl rfl rfl rfl (fun _ _ _ _ _ => side_no) (fun ids H' fr => opD_load rfl (evV_eq _ _ _ _ _ rfl) (fr.ldOwn (j := 2) rfl rfl)) rfl ?_
                      refine WD.hd (v := .string (bs v1_1_h113)) rfl rfl rfl rfl (fun _ _ _ _ _ => side_no) (fun ids H' fr => opD_load rfl (evV_eq _ _ _ _ _ rfl) (fr.ldOwn (j := 2) rfl rfl)) rfl ?_
                      obtain ⟨s17u41, e17u41, hp⟩ := bindS hp
                      refine WD.hd (v := .string (bs s17u41)) rfl rfl rfl rfl (fun _ _ _ _ _ => side_no) (fun ids H' fr => opD_sl rfl (evV_eq _ _ _ _ _ rfl) (evV_eq _ _ _ _ _ rfl) (sliceD_l us9 e17u41)) rfl ?_
                      refine WD.sb (j := 2) rfl rfl rfl rfl rfl rfl rfl rfl rfl rfl ?_
                      refine WD.sb (j := 2) rfl rfl rfl rfl rfl rfl rfl rfl rfl rfl ?_
                      refine WD.done rfl ?_
                      refine WJ.inlN 200 rfl rfl rfl rfl ?_
                      exact WJ.ag 202 rfl (by exact ⟨rfl, rfl, rfl, trivial⟩) rfl rfl rfl (ih113 (n113, l4_h113, IntKind.i64.wrap (v1_0_h113 + 1), s17u41, a4_h113, c4_h113, B4) ⟨hp, g_t16, rn1, r1_h77⟩ (Nat.lt_succ_self _))
                  · exact WJ.goto 3 (j113 (l4_h113, v1_0_h113, v1_1_h113, a4_h113, c4_h113, B3) ⟨hp, g_t16, rn1, r1_h77⟩) rfl rfl (by exact ⟨rfl, rfl, trivial⟩) rfl rfl rfl
/-! 22 tipstaff/row.Sound -/
def f22 (k : Nat) (x0 : RowWord) : Option Int :=
  (if x0.Kind = 1 then
    (f16 k x0.Name).bind fun t10 =>
    if t10 then
      (some (x0.N == 0)).bind fun t14 =>
      some (Sum.inl t14)
    else
      some (Sum.inl false)
  else
    if x0.Kind = 2 then
      if x0.Name = ([] : List UInt8) then
        if x0.N ≥ (-1099511627776) then
          (some (decide (x0.N ≤ 1099511627776))).bind fun t29 =>
          some (Sum.inl t29)
        else
          some (Sum.inl false)
      else
        some (Sum.inl false)
    else
      if x0.Kind = 3 then
        (some (x0.N == 0)).bind fun t35 =>
        some (Sum.inl t35)
      else
        some (Sum.inr (11 : Int))).bind fun s => match s with
    | .inl x3_122 => 
      if x3_122 then
        some 0
      else
        some 3
    | .inr st => some st
set_option maxRecDepth 20000 in
theorem f22_ok {k : Nat} {H : Hp} {x0 : RowWord} {r : Int} (hp : f22 k x0 = some r) :
    SCall Tryz.prog 22 [.agg ⟨[.int .i64 x0.At, .int .i64 x0.Kind, .string (bs x0.Name), .int .i64 x0.N]⟩] H (Ret fun v H' => Ext H H' ∧ R_24 r H.next H' v) := by
  obtain ⟨x0_At, x0_Kind, x0_Name, x0_N⟩ := x0
  unfold f22 at hp
  replace hp := topS hp
  refine SCall.g Tryz.func22 rfl rfl rfl rfl rfl (l := [(0, .v (.agg ⟨[.int .i64 x0_At, .int .i64 x0_Kind, .string (bs x0_Name), .int .i64 x0_N]⟩))]) (fun _ => rfl) (fun B abB => ?_)
  refine WJ.adv 17 rfl ?_
  obtain ⟨K122, hK122, hp⟩ : ∃ K, K = _ ∧ Option.bind _ K = some r := ⟨_, rfl, cutS hp⟩
  refine WJ.cut 3 (α := Bool × Hp) (fun y => [(3, .v (.bool y.1))]) (fun y => [[.int .i64 x0_At, .int .i64 x0_Kind, .string (bs x0_Name), .int .i64 x0_N]]) (fun y => []) (fun y => y.2) (fun y => K122 ((Sum.inl y.1)) = some r) ?_ (fun j122 => ?_)
  · rintro ⟨x3_122, B2⟩ hp
    subst hK122
    show WJ _ _ _ B2 [] _ _ ⟨[(3, .v (.bool x3_122))], [[.int .i64 x0_At, .int .i64 x0_Kind, .string (bs x0_Name), .int .i64 x0_N]], true, 0⟩
    cases x3_122
    · replace hp := (itS hp).2 Bool.false_ne_true
      obtain rfl := endS (show some _ = some r from hp)
      exact WJ.rt 211 rfl rfl rfl (fun ids H' fr => ⟨fr.ext0, rfl⟩)
    · replace hp := (itS hp).1 rfl
      obtain rfl := endS (show some _ = some r from hp)
      exact WJ.rt 212 rfl rfl rfl (fun ids H' fr => ⟨fr.ext0, rfl⟩)
  · refine WJ.ci 201 hp rfl rfl rfl rfl rfl rfl rfl rfl rfl (fun hc7 hp => ?_) (fun hc7 hp => ?_)
    · obtain ⟨t10, e10, hp⟩ := bindS hp
      refine WJ.cl 206 (R := R_4 t10) (fun hm h k => R_4.mono hm h k) rfl (fun ids H' fr => f16_ok e10) ?_
      rintro v B1 ⟨abB1, ivB1⟩ rfl
      refine ⟨_, rfl, ?_⟩
      cases t10
      · replace hp := (itS hp).2 Bool.false_ne_true
        exact WJ.goto 8 (j122 (false, B1) hp) rfl rfl (by exact ⟨rfl, trivial⟩) rfl rfl rfl
      · replace hp := (itS hp).1 rfl
        obtain ⟨t14, e14, hp⟩ := bindS hp
        refine WJ.cv 203 (b := t14) (H0 := ⟨.nil, 0, 0⟩) rfl rfl rfl rfl rfl rfl (by rw [← endS e14]; exact rfl) rfl ?_
        exact WJ.goto 4 (j122 (t14, B1) hp) rfl rfl (by exact ⟨rfl, trivial⟩) rfl rfl rfl
    · refine WJ.ci 205 hp rfl rfl rfl rfl rfl rfl rfl rfl rfl (fun hc17 hp => ?_) (fun hc17 hp => ?_)
      · refine WJ.ci 206 hp rfl rfl rfl rfl rfl rfl (opD_streq rfl rfl rfl) rfl rfl (fun hc20 hp => ?_) (fun hc20 hp => ?_)
        · refine WJ.ci 203 hp rfl rfl rfl rfl rfl rfl rfl rfl rfl (fun hc24 hp => ?_) (fun hc24 hp => ?_)
          · obtain ⟨t29, e29, hp⟩ := bindS hp
            refine WJ.cv 204 (b := t29) (H0 := ⟨.nil, 0, 0⟩) rfl rfl rfl rfl rfl rfl (by rw [← endS e29]; exact rfl) rfl ?_
            exact WJ.goto 4 (j122 (t29, B) hp) rfl rfl (by exact ⟨rfl, trivial⟩) rfl rfl rfl
          · exact WJ.goto 9 (j122 (false, B) hp) rfl rfl (by exact ⟨rfl, trivial⟩) rfl rfl rfl
        · exact WJ.goto 13 (j122 (false, B) hp) rfl rfl (by exact ⟨rfl, trivial⟩) rfl rfl rfl
      · refine WJ.ci 205 hp rfl rfl rfl rfl rfl rfl rfl rfl rfl (fun hc32 hp => ?_) (fun hc32 hp => ?_)
        · obtain ⟨t35, e35, hp⟩ := bindS hp
          refine WJ.cv 206 (b := t35) (H0 := ⟨.nil, 0, 0⟩) rfl rfl rfl rfl rfl rfl (by rw [← endS e35]; exact rfl) rfl ?_
          exact WJ.goto 3 (j122 (t35, B) hp) rfl rfl (by exact ⟨rfl, trivial⟩) rfl rfl rfl
        · subst hK122
          obtain rfl := endS (show some _ = some r from hp)
          exact WJ.rt 207 rfl rfl rfl (fun ids H' fr => ⟨fr.ext0, rfl⟩)
/-! 34 unicode/utf8.RuneLen -/
def f34 (x0 : Int) : Option Int :=
  if x0 < 0 then
    some (-1)
  else
    if x0 ≤ 127 then
      some 1
    else
      if x0 ≤ 2047 then
        some 2
      else
        (if 55296 ≤ x0 then
          if x0 ≤ 57343 then
            some (Sum.inl ((-1) : Int))
          else
            if x0 ≤ 65535 then
              some (Sum.inl (3 : Int))
            else
              if x0 ≤ 1114111 then
                some (Sum.inl (4 : Int))
              else
                some (Sum.inr ())
        else
          if x0 ≤ 65535 then
            some (Sum.inl (3 : Int))
          else
            if x0 ≤ 1114111 then
              some (Sum.inl (4 : Int))
            else
              some (Sum.inr ())).bind fun s => match s with
          | .inl st => some st
          | .inr _ => 
            some (-1)
set_option maxRecDepth 20000 in
theorem f34_ok {H : Hp} {x0 : Int} {r : Int} (hp : f34 x0 = some r) :
    SCall Tryz.prog 34 [.int .i32 x0] H (Ret fun v H' => Ext H H' ∧ R_3 r H.next H' v) := by
  unfold f34 at hp
  replace hp := topS hp
  refine SCall.g Tryz.func34 rfl rfl rfl rfl rfl (l := [(0, .v (.int .i32 x0))]) (fun _ => rfl) (fun B abB => ?_)
  refine WJ.ci 209 hp rfl rfl rfl rfl rfl rfl rfl rfl rfl (fun hc5 hp => ?_) (fun hc5 hp => ?_)
  · obtain rfl := endS (show some _ = some r from hp)
    exact WJ.rt 207 rfl rfl rfl (fun ids H' fr => ⟨fr.ext0, rfl⟩)
  · refine WJ.ci 206 hp rfl rfl rfl rfl rfl rfl rfl rfl rfl (fun hc8 hp => ?_) (fun hc8 hp => ?_)
    · obtain rfl := endS (show some _ = some r from hp)
      exact WJ.rt 207 rfl rfl rfl (fun ids H' fr => ⟨fr.ext0, rfl⟩)
    · refine WJ.ci 206 hp rfl rfl rfl rfl rfl rfl rfl rfl rfl (fun hc11 hp => ?_) (fun hc11 hp => ?_)
      · obtain rfl := endS (show some _ = some r from hp)
        exact WJ.rt 207 rfl rfl rfl (fun ids H' fr => ⟨fr.ext0, rfl⟩)
      · refine WJ.adv 4 rfl ?_
        obtain ⟨K123, hK123, hp⟩ : ∃ K, K = _ ∧ Option.bind _ K = some r := ⟨_, rfl, cutS hp⟩
        refine WJ.cut 3 (α := Unit) (fun y => []) (fun y => []) (fun y => []) (fun y => B) (fun y => K123 ((Sum.inr ())) = some r) ?_ (fun j123 => ?_)
        · rintro u hp
          subst hK123
          show WJ _ _ _ B [] _ _ ⟨[], [], true, 0⟩
          obtain rfl := endS (show some _ = some r from hp)
          exact WJ.rt 204 rfl rfl rfl (fun ids H' fr => ⟨fr.ext0, rfl⟩)
        · refine WJ.ci 202 hp rfl rfl rfl rfl rfl rfl rfl rfl rfl (fun hc14 hp => ?_) (fun hc14 hp => ?_)
          · refine WJ.ci 202 hp rfl rfl rfl rfl rfl rfl rfl rfl rfl (fun hc17 hp => ?_) (fun hc17 hp => ?_)
            · subst hK123
              obtain rfl := endS (show some _ = some r from hp)
              exact WJ.rt 208 rfl rfl rfl (fun ids H' fr => ⟨fr.ext0, rfl⟩)
            · refine WJ.ci 207 hp rfl rfl rfl rfl rfl rfl rfl rfl rfl (fun hc21 hp => ?_) (fun hc21 hp => ?_)
              · subst hK123
                obtain rfl := endS (show some _ = some r from hp)
                exact WJ.rt 207 rfl rfl rfl (fun ids H' fr => ⟨fr.ext0, rfl⟩)
              · refine WJ.ci 206 hp rfl rfl rfl rfl rfl rfl rfl rfl rfl (fun hc24 hp => ?_) (fun hc24 hp => ?_)
                · subst hK123
                  obtain rfl := endS (show some _ = some r from hp)
                  exact WJ.rt 207 rfl rfl rfl (fun ids H' fr => ⟨fr.ext0, rfl⟩)
                · exact WJ.goto 5 (j123 () hp) rfl rfl (by exact trivial) rfl rfl rfl
          · refine WJ.ci 210 hp rfl rfl rfl rfl rfl rfl rfl rfl rfl (fun hc21 hp => ?_) (fun hc21 hp => ?_)
            · subst hK123
              obtain rfl := endS (show some _ = some r from hp)
              exact WJ.rt 207 rfl rfl rfl (fun ids H' fr => ⟨fr.ext0, rfl⟩)
            · refine WJ.ci 206 hp rfl rfl rfl rfl rfl rfl rfl rfl rfl (fun hc24 hp => ?_) (fun hc24 hp => ?_)
              · subst hK123
                obtain rfl := endS (show some _ = some r from hp)
                exact WJ.rt 207 rfl rfl rfl (fun ids H' fr => ⟨fr.ext0, rfl⟩)
              · exact WJ.goto 5 (j123 () hp) rfl rfl (by exact trivial) rfl rfl rfl
/-! 14 tipstaff/row.Quote -/
def f14_l2 (l33 : List Int) : Nat → (List UInt8) → Int → Nat → Option ((List UInt8) × Nat)
  | 0, _, _, _ => none
  | n + 1, l1_h129, x35_h129, p0_h129 =>
    (some (decide (x35_h129 < (l33.length : Int)))).bind fun t36u1 =>
    if t36u1 then
      (rd l33 x35_h129).bind fun t37u1 =>
      (sub ([48, 49, 50, 51, 52, 53, 54, 55, 56, 57, 97, 98, 99, 100, 101, 102] : List UInt8) (gshr .u8 t37u1 4) (IntKind.u8.wrap ((gshr .u8 t37u1 4) + 1))).bind fun s44u1 =>
      (scat ([92, 120] : List UInt8) s44u1).bind fun s45u1 =>
      (sub ([48, 49, 50, 51, 52, 53, 54, 55, 56, 57, 97, 98, 99, 100, 101, 102] : List UInt8) (bits .and .u8 t37u1 15) (IntKind.u8.wrap ((bits .and .u8 t37u1 15) + 1))).bind fun s51u1 =>
      (scat s45u1 s51u1).bind fun s52u1 =>
      (apd 1 l1_h129 s52u1).bind fun lB53u1 =>
      f14_l2 l33 n lB53u1 (IntKind.i64.wrap (x35_h129 + 1)) p0_h129
    else
      some ((l1_h129, p0_h129))

def f14_l1 (k : Nat) (x0 : List UInt8) : Nat → (List UInt8) → Nat → Option ((List UInt8))
  | 0, _, _ => none
  | n + 1, l1_h126, p0_h126 =>
    if p0_h126 < x0.length then
      (f34 (decL x0 p0_h126)).bind fun t17u1 =>
      (if (decL x0 p0_h126) = 65533 then
        (sub x0 ((p0_h126 : Nat) : Int) (x0.length : Int)).bind fun s23u1 =>
        (f35 s23u1).bind fun (t24u1_0, t24u1_1) =>
        some ((t24u1_1, (p0_h126 + decN x0 p0_h126)))
      else
        some ((t17u1, (p0_h126 + decN x0 p0_h126)))).bind fun (x6_127, p0_127) =>
        if (decL x0 p0_h126) = 34 then
          (c8 92).bind fun uB62u1 =>
          (apd 1 l1_h126 ([uB62u1])).bind fun lB62u1 =>
          (c7 (decL x0 p0_h126)).bind fun uB64u1 =>
          (apd 1 lB62u1 ([uB64u1])).bind fun lB64u1 =>
          f14_l1 k x0 n lB64u1 p0_127
        else
          if (decL x0 p0_h126) = 92 then
            (c8 92).bind fun uB62u2 =>
            (apd 1 l1_h126 ([uB62u2])).bind fun lB62u2 =>
            (c7 (decL x0 p0_h126)).bind fun uB64u2 =>
            (apd 1 lB62u2 ([uB64u2])).bind fun lB64u2 =>
            f14_l1 k x0 n lB64u2 p0_127
          else
            (f37 (decL x0 p0_h126) x6_127).bind fun t68 =>
            if t68 then
              (sub x0 ((p0_h126 : Nat) : Int) (IntKind.i64.wrap (((p0_h126 : Nat) : Int) + x6_127))).bind fun s74 =>
              (apd 1 l1_h126 s74).bind fun lB75 =>
              f14_l1 k x0 n lB75 p0_127
            else
              (sub x0 ((p0_h126 : Nat) : Int) (IntKind.i64.wrap (((p0_h126 : Nat) : Int) + x6_127))).bind fun s32 =>
              (ne8 s32).bind fun l33 =>
              (f14_l2 l33 k l1_h126 0 p0_127).bind fun st =>
                f14_l1 k x0 n st.1 st.2
    else
      some (l1_h126)

def f14 (k : Nat) (x0 : List UInt8) : Option (List UInt8) :=
  (c8 34).bind fun uB9 =>
  (apd 1 ([] : List UInt8) ([uB9])).bind fun lB9 =>
  (f14_l1 k x0 k lB9 0).bind fun l1_126 =>
    (c8 34).bind fun uB76 =>
    (apd 1 l1_126 ([uB76])).bind fun lB76 =>
    (apd 1 lB76 ([] : List UInt8)).bind fun lB77 =>
    some lB76
set_option maxHeartbeats 3200000 in
set_option maxRecDepth 20000 in
theorem f14_ok {k : Nat} {H : Hp} {x0 : List UInt8} {r : List UInt8} (hp : f14 k x0 = some r) :
    SCall Tryz.prog 14 [.string (bs x0)] H (Ret fun v H' => Ext H H' ∧ R_9 r H.next H' v) := by
  unfold f14 at hp
  replace hp := topS hp
  refine SCall.g Tryz.func14 rfl rfl rfl rfl rfl (l := [(0, .v (.string (bs x0)))]) (fun _ => rfl) (fun B abB => ?_)
  refine WJ.nb (U := 5) 206 rfl rfl rfl rfl rfl bzero bis rfl rfl ?_
  intro bw3
  refine ⟨_, rfl, ?_⟩
  obtain ⟨uB9, euB9, hp⟩ := bindS hp
  obtain ⟨lB9, eB9, hp⟩ := bindS hp
  obtain ⟨bdB9, rfl⟩ := apd_some eB9
  refine WJ.bw 203 (s := [uB9]) 0 rfl (wb_ok euB9) (fun _ => rfl) rfl rfl rfl bdB9 ?_
  intro aB9
  refine ⟨_, rfl, ?_⟩
  refine WJ.rg 205 rfl rfl rfl rfl rfl us9 rfl ?_
  rintro b11 B1 ⟨abB1, ivB1⟩ h011 it11
  refine ⟨_, rfl, ?_⟩
  refine WJ.adv 2 rfl ?_
  obtain ⟨K126, hK126, hp⟩ : ∃ K, K = _ ∧ Option.bind _ K = some r := ⟨_, rfl, cutS hp⟩
  refine WJ.cut 2 (α := (List UInt8) × (Option Addr) × Nat × Hp) (fun y => [(3, .v (.pointer (some ⟨bw3, 0, none⟩)))]) (fun y => []) (fun y => [bldS 63 bw3 y.2.1 y.1, bldB 5 y.2.1 y.1]) (fun y => y.2.2.2) (fun y => K126 (y.1) = some r) ?_ (fun j126 => ?_)
  · rintro ⟨l1_126, a1_126, c1_126, B9⟩ hp
    subst hK126
    show WJ _ _ _ B9 [bldS 63 bw3 a1_126 l1_126, bldB 5 a1_126 l1_126] _ _ ⟨[(3, .v (.pointer (some ⟨bw3, 0, none⟩)))], [], true, 0⟩
    obtain ⟨uB76, euB76, hp⟩ := bindS hp
    obtain ⟨lB76, eB76, hp⟩ := bindS hp
    obtain ⟨bdB76, rfl⟩ := apd_some eB76
    refine WJ.bw 202 (s := [uB76]) 0 rfl (wb_ok euB76) (fun _ => rfl) rfl rfl rfl bdB76 ?_
    intro aB76
    refine ⟨_, rfl, ?_⟩
    obtain ⟨lB77, eB77, hp⟩ := bindS hp
    obtain ⟨bdB77, rfl⟩ := apd_some eB77
    refine WJ.bg 203 0 rfl st_ok (fun _ => rfl) rfl rfl rfl (by simpa using bdB77) ?_
    refine ⟨_, rfl, ?_⟩
    obtain rfl := endS (show some _ = some r from hp)
    exact WJ.rt 202 rfl rfl rfl (fun ids H' fr => ⟨fr.ext0, rfl⟩)
  · refine WJ.lp 200 (α := Nat × (List UInt8) × Nat × (Option Addr) × Nat × Hp) (fun y => [(0, .v (.string (bs x0))), (3, .v (.pointer (some ⟨bw3, 0, none⟩))), (11, .v (.pointer (some ⟨b11, 0, none⟩)))]) (fun y => []) (fun y => [bldS 63 bw3 y.2.2.2.1 y.2.1, bldB 5 y.2.2.2.1 y.2.1]) (fun y => y.2.2.2.2.2) (fun y => y.1) (fun y => Option.bind (f14_l1 k x0 y.1 y.2.1 y.2.2.1) K126 = some r ∧ y.2.2.2.2.2.get b11 = some (.iter (bs x0) y.2.2.1)) (k, (([] : List UInt8) ++ ([uB9])), 0, aB9, 0, B1) rfl ⟨hp, it11⟩ (by exact ⟨rfl, rfl, rfl, trivial⟩) rfl rfl rfl ?_
    rintro ⟨n, l1_h126, p0_h126, a1_h126, c1_h126, B2⟩ ⟨hp, it11⟩ ih126
    show WJ _ _ _ B2 [bldS 63 bw3 a1_h126 l1_h126, bldB 5 a1_h126 l1_h126] _ _ ⟨[(0, .v (.string (bs x0))), (3, .v (.pointer (some ⟨bw3, 0, none⟩))), (11, .v (.pointer (some ⟨b11, 0, none⟩)))], [], true, 0⟩
    replace hp : Option.bind (f14_l1 k x0 n l1_h126 p0_h126) K126 = some r := hp
    cases n with
    | zero => rw [f14_l1] at hp; exact (noS hp).elim
    | succ n =>
      rw [f14_l1] at hp
      refine WJ.nx 202 hp rfl rfl rfl rfl rfl rfl it11 h011 rfl rfl (fun hp B3 abB3 neB3 it_new => ?_) (fun hp => ?_)
      · replace it11 := it_new
        obtain ⟨t17u1, e17u1, hp⟩ := bindS hp
        refine WJ.cl 216 (R := R_3 t17u1) (fun hm h k => R_3.mono hm h k) rfl (fun ids H' fr => f34_ok e17u1) ?_
        rintro v B4 ⟨abB4, ivB4⟩ rfl
        refine ⟨_, rfl, ?_⟩
        replace it11 := ivB4 _ _ it11
        refine WJ.adv 4 rfl ?_
        obtain ⟨K127, hK127, hp⟩ : ∃ K, K = _ ∧ Option.bind _ K = some r := ⟨_, rfl, cutS hp⟩
        refine WJ.cut 2 (α := Int × Nat × Hp) (fun y => [(0, .v (.string (bs x0))), (3, .v (.pointer (some ⟨bw3, 0, none⟩))), (4, .v (.int .i64 ((p0_h126 : Nat) : Int))), (5, .v (.int .i32 (decL x0 p0_h126))), (6, .v (.int .i64 y.1)), (11, .v (.pointer (some ⟨b11, 0, none⟩)))]) (fun y => []) (fun y => [bldS 63 bw3 a1_h126 l1_h126, bldB 5 a1_h126 l1_h126]) (fun y => y.2.2) (fun y => K127 (((y.1, y.2.1))) = some r ∧ y.2.2.get b11 = some (.iter (bs x0) y.2.1)) ?_ (fun j127 => ?_)
        · rintro ⟨x6_127, p0_127, B6⟩ ⟨hp, it11⟩
          subst hK127
          show WJ _ _ _ B6 [bldS 63 bw3 a1_h126 l1_h126, bldB 5 a1_h126 l1_h126] _ _ ⟨[(0, .v (.string (bs x0))), (3, .v (.pointer (some ⟨bw3, 0, none⟩))), (4, .v (.int .i64 ((p0_h126 : Nat) : Int))), (5, .v (.int .i32 (decL x0 p0_h126))), (6, .v (.int .i64 x6_127)), (11, .v (.pointer (some ⟨b11, 0, none⟩)))], [], true, 0⟩
          refine WJ.ci 204 hp rfl rfl rfl rfl rfl rfl rfl rfl rfl (fun hc57u1 hp => ?_) (fun hc57u1 hp => ?_)
          · obtain ⟨uB62u1, euB62u1, hp⟩ := bindS hp
            obtain ⟨lB62u1, eB62u1, hp⟩ := bindS hp
            obtain ⟨bdB62u1, rfl⟩ := apd_some eB62u1
            refine WJ.bw 209 (s := [uB62u1]) 0 rfl (wb_ok euB62u1) (fun _ => rfl) rfl rfl rfl bdB62u1 ?_
            intro aB62u1
            refine ⟨_, rfl, ?_⟩
            obtain ⟨uB64u1, euB64u1, hp⟩ := bindS hp
            obtain ⟨lB64u1, eB64u1, hp⟩ := bindS hp
            obtain ⟨bdB64u1, rfl⟩ := apd_some eB64u1
            refine WJ.bw 203 (s := [uB64u1]) 0 rfl (wr_ok euB64u1) (fun _ => rfl) rfl rfl rfl bdB64u1 ?_
            intro aB64u1
            refine ⟨_, rfl, ?_⟩
            exact WJ.ag 203 rfl (by exact ⟨rfl, rfl, rfl, trivial⟩) rfl rfl rfl (ih126 (n, ((l1_h126 ++ ([uB62u1])) ++ ([uB64u1])), p0_127, aB64u1, 0, B6) ⟨hp, it11⟩ (Nat.lt_succ_self _))
          · refine WJ.ci 202 hp rfl rfl rfl rfl rfl rfl rfl rfl rfl (fun hc60 hp => ?_) (fun hc60 hp => ?_)
            · obtain ⟨uB62u2, euB62u2, hp⟩ := bindS hp
              obtain ⟨lB62u2, eB62u2, hp⟩ := bindS hp
              obtain ⟨bdB62u2, rfl⟩ := apd_some eB62u2
              refine WJ.bw 206 (s := [uB62u2]) 0 rfl (wb_ok euB62u2) (fun _ => rfl) rfl rfl rfl bdB62u2 ?_
              intro aB62u2
              refine ⟨_, rfl, ?_⟩
              obtain ⟨uB64u2, euB64u2, hp⟩ := bindS hp
              obtain ⟨lB64u2, eB64u2, hp⟩ := bindS hp
              obtain ⟨bdB64u2, rfl⟩ := apd_some eB64u2
              refine WJ.bw 203 (s := [uB64u2]) 0 rfl (wr_ok euB64u2) (fun _ => rfl) rfl rfl rfl bdB64u2 ?_
              intro aB64u2
              refine ⟨_, rfl, ?_⟩
              exact WJ.ag 203 rfl (by exact ⟨rfl, rfl, rfl, trivial⟩) rfl rfl rfl (ih126 (n, ((l1_h126 ++ ([uB62u2])) ++ ([uB64u2])), p0_127, aB64u2, 0, B6) ⟨hp, it11⟩ (Nat.lt_succ_self _))
            · obtain ⟨t68, e68, hp⟩ := bindS hp
              refine WJ.cl 208 (R := R_4 t68) (fun hm h k => R_4.mono hm h k) rfl (fun ids H' fr => f37_ok e68) ?_
              rintro v B7 ⟨abB7, ivB7⟩ rfl
              refine ⟨_, rfl, ?_⟩
              replace it11 := ivB7 _ _ it11
              cases t68
              · replace hp := (itS hp).2 Bool.false_ne_true
                obtain ⟨s32, e32, hp⟩ := bindS hp
                refine WJ.hd (v := .string (bs s32)) 210 rfl rfl rfl rfl (fun ids H' fr => opD_slh rfl (evV_eq _ _ _ _ _ rfl) (evV_eq _ _ _ _ _ rfl) (evV_eq _ _ _ _ _ rfl) (sliceD_lh us9 e32)) rfl ?_
                obtain ⟨l33, e33, hp⟩ := bindS hp
                refine WJ.cb 200 (L := l33) rfl rfl rfl rfl rfl rfl us9 u61 u8_5 e33 ?_
                intro b33
                refine ⟨_, rfl, ?_⟩
                refine WJ.adv 4 rfl ?_
                obtain ⟨K129, hK129, hp⟩ : ∃ K, K = _ ∧ Option.bind _ K = some r := ⟨_, rfl, cutS hp⟩
                refine WJ.lp 200 (α := Nat × (List UInt8) × Int × Nat × (Option Addr) × Nat × Hp) (fun y => [(0, .v (.string (bs x0))), (3, .v (.pointer (some ⟨bw3, 0, none⟩))), (11, .v (.pointer (some ⟨b11, 0, none⟩))), (33, .v (.slice (some ⟨b33, 0, none⟩) l33.length LOOSE)), (34, .v (.int .i64 ((l33.length : Nat) : Int))), (35, .v (.int .i64 y.2.2.1))]) (fun y => []) (fun y => [bldS 63 bw3 y.2.2.2.2.1 y.2.1, bldB 5 y.2.2.2.2.1 y.2.1, ⟨(some ⟨b33, 0, none⟩), LOOSE, 1, encL (kE .u8) l33⟩]) (fun y => y.2.2.2.2.2.2) (fun y => y.1) (fun y => Option.bind (f14_l2 l33 y.1 y.2.1 y.2.2.1 y.2.2.2.1) K129 = some r ∧ y.2.2.2.2.2.2.get b11 = some (.iter (bs x0) y.2.2.2.1)) (k, l1_h126, 0, p0_127, a1_h126, 0, B7) rfl ⟨hp, it11⟩ (by exact ⟨rfl, rfl, rfl, rfl, rfl, rfl, trivial⟩) rfl rfl rfl ?_
                rintro ⟨n129, l1_h129, x35_h129, p0_h129, a1_h129, c1_h129, B8⟩ ⟨hp, it11⟩ ih129
                show WJ _ _ _ B8 [bldS 63 bw3 a1_h129 l1_h129, bldB 5 a1_h129 l1_h129, ⟨(some ⟨b33, 0, none⟩), LOOSE, 1, encL (kE .u8) l33⟩] _ _ ⟨[(0, .v (.string (bs x0))), (3, .v (.pointer (some ⟨bw3, 0, none⟩))), (11, .v (.pointer (some ⟨b11, 0, none⟩))), (33, .v (.slice (some ⟨b33, 0, none⟩) l33.length LOOSE)), (34, .v (.int .i64 ((l33.length : Nat) : Int))), (35, .v (.int .i64 x35_h129))], [], true, 0⟩
                replace hp : Option.bind (f14_l2 l33 n129 l1_h129 x35_h129 p0_h129) K129 = some r := hp
                cases n129 with
                | zero => rw [f14_l2] at hp; exact (noS hp).elim
                | succ n129 =>
                  rw [f14_l2] at hp
                  obtain ⟨t36u1, e36u1, hp⟩ := bindS hp
                  refine WJ.cv 202 (b := t36u1) (H0 := ⟨.nil, 0, 0⟩) rfl rfl rfl rfl rfl rfl (by rw [← endS e36u1]; exact rfl) rfl ?_
                  cases t36u1
                  · replace hp := (itS hp).2 Bool.false_ne_true
                    subst hK129
                    exact WJ.ag 206 rfl (by exact ⟨rfl, rfl, rfl, trivial⟩) rfl rfl rfl (ih126 (n, l1_h129, p0_h129, a1_h129, 0, B8) ⟨hp, it11⟩ (Nat.lt_succ_self _))
                  · replace hp := (itS hp).1 rfl
                    obtain ⟨t37u1, e37u1, hp⟩ := bindS hp
                    refine WJ.ownAddr (enc := (kE .u8)) (sz := 1) 2 (fun _ => rfl) rfl rfl e37u1 (fun b37u1 hb37u1 => ?_)
                    refine WJ.hd (v := .pointer (some ⟨b37u1, (x35_h129 : Int).toNat * 1, none⟩)) 208 rfl rfl rfl rfl (fun ids H' fr => opD_indexAddr rfl (evV_eq _ _ _ _ _ rfl) (evV_eq _ _ _ _ _ rfl) (ownIdx hb37u1 e37u1 u61 sz5)) rfl ?_
                    refine WJ.hd (v := .int .u8 t37u1) 200 rfl rfl rfl rfl (fun ids H' fr => opD_load rfl (evV_eq _ _ _ _ _ rfl) ((fr.ownEl (enc := (kE .u8)) (sz := 1) (j := 2) (fun _ => rfl) rfl hb37u1 e37u1).load (d := 0) ag5 rfl)) rfl ?_
                    refine WJ.dr 202 rfl gmix (by kernel_rfl) (by kernel_rfl) rfl ?_
                    refine WD.hd (v := .int .u8 (gshr .u8 t37u1 4)) rfl rfl rfl rfl (fun _ _ _ _ _ => side_no) (fun ids H' fr => opD_bin rfl (evV_eq _ _ _ _ _ rfl) (evV_eq _ _ _ _ _ rfl) (bin_shr (by decide))) rfl ?_
                    refine WD.hd (v := .int .u8 (gshr .u8 t37u1 4)) rfl rfl rfl rfl (fun _ _ _ _ _ => side_no) (fun ids H' fr => opD_bin rfl (evV_eq _ _ _ _ _ rfl) (evV_eq _ _ _ _ _ rfl) (bin_shr (by decide))) rfl ?_
                    obtain ⟨s44u1, e44u1, hp⟩ := bindS hp
                    refine WD.hd (v := .string (bs s44u1)) rfl rfl rfl rfl (fun _ _ _ _ _ => side_no) (fun ids H' fr => opD_slh rfl (evV_eq _ _ _ _ _ rfl) (evV_eq _ _ _ _ _ rfl) (evV_eq _ _ _ _ _ rfl) (sliceD_lh us9 e44u1)) rfl ?_
                    obtain ⟨s45u1, e45u1, hp⟩ := bindS hp
                    refine WD.hd (v := .string (bs s45u1)) rfl rfl rfl rfl (fun _ _ _ _ _ => side_no) (fun ids H' fr => opD_bin rfl (evV_eq _ _ _ _ _ rfl) (evV_eq _ _ _ _ _ rfl) (bin_sadd e45u1)) rfl ?_
                    obtain ⟨s51u1, e51u1, hp⟩ := bindS hp
                    refine WD.hd (v := .string (bs s51u1)) rfl rfl rfl rfl (fun _ _ _ _ _ => side_no) (fun ids H' fr => opD_slh rfl (evV_eq _ _ _ _ _ rfl) (evV_eq _ _ _ _ _ rfl) (evV_eq _ _ _ _ _ rfl) (sliceD_lh us9 e51u1)) rfl ?_
                    obtain ⟨s52u1, e52u1, hp⟩ := bindS hp
                    refine WD.hd (v := .string (bs s52u1)) rfl rfl rfl rfl (fun _ _ _ _ _ => side_no) (fun ids H' fr => opD_bin rfl (evV_eq _ _ _ _ _ rfl) (evV_eq _ _ _ _ _ rfl) (bin_sadd e52u1)) rfl ?_
                    obtain ⟨lB53u1, eB53u1, hp⟩ := bindS hp
                    obtain ⟨bdB53u1, rfl⟩ := apd_some eB53u1
                    refine WD.bw (s := s52u1) 0 rfl (ws_ok s52u1) (fun _ => rfl) rfl rfl rfl bdB53u1 ?_
                    intro aB53u1
                    refine ⟨_, rfl, ?_⟩
                    refine WD.done rfl ?_
                    exact WJ.ag 205 rfl (by exact ⟨rfl, rfl, rfl, rfl, rfl, rfl, trivial⟩) rfl rfl rfl (ih129 (n129, (l1_h129 ++ s52u1), IntKind.i64.wrap (x35_h129 + 1), p0_h129, aB53u1, 0, B8) ⟨hp, it11⟩ (Nat.lt_succ_self _))
              · replace hp := (itS hp).1 rfl
                obtain ⟨s74, e74, hp⟩ := bindS hp
                refine WJ.hd (v := .string (bs s74)) 209 rfl rfl rfl rfl (fun ids H' fr => opD_slh rfl (evV_eq _ _ _ _ _ rfl) (evV_eq _ _ _ _ _ rfl) (evV_eq _ _ _ _ _ rfl) (sliceD_lh us9 e74)) rfl ?_
                obtain ⟨lB75, eB75, hp⟩ := bindS hp
                obtain ⟨bdB75, rfl⟩ := apd_some eB75
                refine WJ.bw 200 (s := s74) 0 rfl (ws_ok s74) (fun _ => rfl) rfl rfl rfl bdB75 ?_
                intro aB75
                refine ⟨_, rfl, ?_⟩
                exact WJ.ag 203 rfl (by exact ⟨rfl, rfl, rfl, trivial⟩) rfl rfl rfl (ih126 (n, (l1_h126 ++ s74), p0_127, aB75, 0, B7) ⟨hp, it11⟩ (Nat.lt_succ_self _))
        · refine WJ.ci 202 hp rfl rfl rfl rfl rfl rfl rfl rfl rfl (fun hc19u1 hp => ?_) (fun hc19u1 hp => ?_)
          · obtain ⟨s23u1, e23u1, hp⟩ := bindS hp
            refine WJ.hd (v := .string (bs s23u1)) 205 rfl rfl rfl rfl (fun ids H' fr => opD_sl rfl (evV_eq _ _ _ _ _ rfl) (evV_eq _ _ _ _ _ rfl) (sliceD_l us9 e23u1)) rfl ?_
            obtain ⟨⟨t24u1_0, t24u1_1⟩, e24u1, hp⟩ := bindS hp
            refine WJ.cl 200 (R := R_21_3 ⟨t24u1_0, t24u1_1⟩) (fun hm h k => R_21_3.mono hm h k) rfl (fun ids H' fr => f35_ok e24u1) ?_
            rintro v B5 ⟨abB5, ivB5⟩ rfl
            refine ⟨_, rfl, ?_⟩
            replace it11 := ivB5 _ _ it11
            exact WJ.goto 5 (j127 (t24u1_1, (p0_h126 + decN x0 p0_h126), B5) ⟨hp, it11⟩) rfl rfl (by exact ⟨rfl, rfl, rfl, rfl, rfl, rfl, trivial⟩) rfl rfl rfl
          · exact WJ.goto 3 (j127 (t17u1, (p0_h126 + decN x0 p0_h126), B4) ⟨hp, it11⟩) rfl rfl (by exact ⟨rfl, rfl, rfl, rfl, rfl, rfl, trivial⟩) rfl rfl rfl
      · exact WJ.goto 5 (j126 (l1_h126, a1_h126, 0, B2) hp) rfl rfl (by exact ⟨rfl, trivial⟩) rfl rfl rfl
/-! 46 tipstaff/row.spell -/
def f46 (k : Nat) (x0 : RowWord) : Option (List UInt8) :=
  if x0.Kind = 1 then
    some x0.Name
  else
    if x0.Kind = 2 then
      (f61 x0.N).bind fun t13 =>
      some t13
    else
      (f14 k x0.Name).bind fun t16 =>
      some t16
set_option maxRecDepth 20000 in
theorem f46_ok {k : Nat} {H : Hp} {x0 : RowWord} {r : List UInt8} (hp : f46 k x0 = some r) :
    SCall Tryz.prog 46 [.agg ⟨[.int .i64 x0.At, .int .i64 x0.Kind, .string (bs x0.Name), .int .i64 x0.N]⟩] H (Ret fun v H' => Ext H H' ∧ R_9 r H.next H' v) := by
  obtain ⟨x0_At, x0_Kind, x0_Name, x0_N⟩ := x0
  unfold f46 at hp
  replace hp := topS hp
  refine SCall.g Tryz.func46 rfl rfl rfl rfl rfl (l := [(0, .v (.agg ⟨[.int .i64 x0_At, .int .i64 x0_Kind, .string (bs x0_Name), .int .i64 x0_N]⟩))]) (fun _ => rfl) (fun B abB => ?_)
  refine WJ.ci 214 hp rfl rfl rfl rfl rfl rfl rfl rfl rfl (fun hc6 hp => ?_) (fun hc6 hp => ?_)
  · obtain rfl := endS (show some _ = some r from hp)
    exact WJ.rt 209 rfl rfl rfl (fun ids H' fr => ⟨fr.ext0, rfl⟩)
  · refine WJ.ci 205 hp rfl rfl rfl rfl rfl rfl rfl rfl rfl (fun hc10 hp => ?_) (fun hc10 hp => ?_)
    · obtain ⟨t13, e13, hp⟩ := bindS hp
      refine WJ.cl 207 (R := R_9 t13) (fun hm h k => R_9.mono hm h k) rfl (fun ids H' fr => f61_ok e13) ?_
      rintro v B1 ⟨abB1, ivB1⟩ rfl
      refine ⟨_, rfl, ?_⟩
      obtain rfl := endS (show some _ = some r from hp)
      exact WJ.rt 202 rfl rfl rfl (fun ids H' fr => ⟨fr.ext0, rfl⟩)
    · obtain ⟨t16, e16, hp⟩ := bindS hp
      refine WJ.cl 209 (R := R_9 t16) (fun hm h k => R_9.mono hm h k) rfl (fun ids H' fr => f14_ok e16) ?_
      rintro v B2 ⟨abB2, ivB2⟩ rfl
      refine ⟨_, rfl, ?_⟩
      obtain rfl := endS (show some _ = some r from hp)
      exact WJ.rt 202 rfl rfl rfl (fun ids H' fr => ⟨fr.ext0, rfl⟩)
/-! 24 tipstaff/row.Text -/
def f24_l2 (k : Nat) (t16u1_Words : List RowWord) : Nat → (List (List UInt8)) → Int → Option (((List (List UInt8))) ⊕ ((List UInt8) × Int))
  | 0, _, _ => none
  | n + 1, l3_h133, x25_h133 =>
    (some (decide (x25_h133 < (t16u1_Words.length : Int)))).bind fun t26u1 =>
    if t26u1 then
      (rd t16u1_Words x25_h133).bind fun t27u1 =>
      (f22 k (RowWord.mk t27u1.At t27u1.Kind t27u1.Name t27u1.N)).bind fun t30u1 =>
      if t30u1 = 0 then
        (f46 k (RowWord.mk t27u1.At t27u1.Kind t27u1.Name t27u1.N)).bind fun t36u1 =>
        (apd 16 l3_h133 ([t36u1] : List (List UInt8))).bind fun l38u1 =>
        f24_l2 k t16u1_Words n l38u1 (IntKind.i64.wrap (x25_h133 + 1))
      else
        some (Sum.inr ((([] : List UInt8), t30u1) : (List UInt8) × Int))
    else
      some (Sum.inl l3_h133)

def f24_l1 (k : Nat) (x0 : List Row) : Nat → (List UInt8) → Int → Option (((List UInt8)) ⊕ ((List UInt8) × Int))
  | 0, _, _ => none
  | n + 1, l1_h132, x14_h132 =>
    (some (decide (x14_h132 < (x0.length : Int)))).bind fun t15u1 =>
    if t15u1 then
      (rd x0 x14_h132).bind fun t16u1 =>
      if (t16u1.Words.length : Int) = 0 then
        some (Sum.inr ((([] : List UInt8), 3) : (List UInt8) × Int))
      else
        (f24_l2 k t16u1.Words k ([]) 0).bind fun s => match s with
          | .inl l3_133 => 
            (f47 l3_133 ([32] : List UInt8)).bind fun t41u1 =>
            if (t41u1.length : Int) > 1000 then
              some (Sum.inr ((([] : List UInt8), 4) : (List UInt8) × Int))
            else
              (apd 1 l1_h132 ([] : List UInt8)).bind fun lB46u1 =>
              if (IntKind.i64.wrap ((IntKind.i64.wrap ((l1_h132.length : Int) + (t41u1.length : Int))) + 1)) > 20000 then
                some (Sum.inr ((([] : List UInt8), 4) : (List UInt8) × Int))
              else
                (scat t41u1 ([10] : List UInt8)).bind fun s54u1 =>
                (apd 1 lB46u1 s54u1).bind fun lB55u1 =>
                f24_l1 k x0 n lB55u1 (IntKind.i64.wrap (x14_h132 + 1))
          | .inr st => some (Sum.inr st)
    else
      some (Sum.inl l1_h132)

def f24 (k : Nat) (x0 : List Row) : Option ((List UInt8) × Int) :=
  (f24_l1 k x0 k ([]) 0).bind fun s => match s with
    | .inl l1_132 => 
      (apd 1 l1_132 ([] : List UInt8)).bind fun lB57 =>
      some (l1_132, 0)
    | .inr st => some st
set_option maxHeartbeats 3200000 in
set_option maxRecDepth 20000 in
theorem f24_ok {k : Nat} {H : Hp} {a_x0 : Option Addr} {c_x0 : Nat} {x0 : List Row} {r : (List UInt8) × Int} (g_x0 : SlF 0 H RowC a_x0 c_x0 x0) (hp : f24 k x0 = some r) :
    SCall Tryz.prog 24 [.slice a_x0 x0.length c_x0] H (Ret fun v H' => Ext H H' ∧ R_9_24 r H.next H' v) := by
  unfold f24 at hp
  replace hp := topS hp
  refine SCall.g Tryz.func24 rfl rfl rfl rfl rfl (l := [(0, .v (.slice a_x0 x0.length c_x0))]) (fun _ => rfl) (fun B abB => ?_)
  have gbg_x0 := g_x0.mono (Nat.le_refl _) abB
  refine WJ.nb (U := 5) 207 rfl rfl rfl rfl rfl bzero bis rfl rfl ?_
  intro bw4
  refine ⟨_, rfl, ?_⟩
  refine WJ.adv 9 rfl ?_
  obtain ⟨K132, hK132, hp⟩ : ∃ K, K = _ ∧ Option.bind _ K = some r := ⟨_, rfl, cutS hp⟩
  refine WJ.cut 2 (α := (List UInt8) × (Option Addr) × Nat × Hp) (fun y => [(4, .v (.pointer (some ⟨bw4, 0, none⟩)))]) (fun y => []) (fun y => [bldS 63 bw4 y.2.1 y.1, bldB 5 y.2.1 y.1]) (fun y => y.2.2.2) (fun y => K132 (Sum.inl y.1) = some r ∧ SlF 0 y.2.2.2 RowC a_x0 c_x0 x0) ?_ (fun j132 => ?_)
  · rintro ⟨l1_132, a1_132, c1_132, B7⟩ ⟨hp, gbg_x0⟩
    subst hK132
    show WJ _ _ _ B7 [bldS 63 bw4 a1_132 l1_132, bldB 5 a1_132 l1_132] _ _ ⟨[(4, .v (.pointer (some ⟨bw4, 0, none⟩)))], [], true, 0⟩
    obtain ⟨lB57, eB57, hp⟩ := bindS hp
    obtain ⟨bdB57, rfl⟩ := apd_some eB57
    refine WJ.bg 202 0 rfl st_ok (fun _ => rfl) rfl rfl rfl (by simpa using bdB57) ?_
    refine ⟨_, rfl, ?_⟩
    obtain rfl := endS (show some _ = some r from hp)
    exact WJ.rt 203 rfl rfl rfl (fun ids H' fr => ⟨fr.ext0, rfl⟩)
  · refine WJ.lp 200 (α := Nat × (List UInt8) × Int × (Option Addr) × Nat × Hp) (fun y => [(4, .v (.pointer (some ⟨bw4, 0, none⟩))), (12, .v (.slice a_x0 x0.length c_x0)), (13, .v (.int .i64 ((x0.length : Nat) : Int))), (14, .v (.int .i64 y.2.2.1))]) (fun y => []) (fun y => [bldS 63 bw4 y.2.2.2.1 y.2.1, bldB 5 y.2.2.2.1 y.2.1]) (fun y => y.2.2.2.2.2) (fun y => y.1) (fun y => Option.bind (f24_l1 k x0 y.1 y.2.1 y.2.2.1) K132 = some r ∧ SlF 0 y.2.2.2.2.2 RowC a_x0 c_x0 x0) (k, ([] : List UInt8), 0, none, 0, B) rfl ⟨hp, gbg_x0⟩ (by exact ⟨rfl, rfl, rfl, rfl, trivial⟩) rfl rfl rfl ?_
    rintro ⟨n, l1_h132, x14_h132, a1_h132, c1_h132, B1⟩ ⟨hp, gbg_x0⟩ ih132
    show WJ _ _ _ B1 [bldS 63 bw4 a1_h132 l1_h132, bldB 5 a1_h132 l1_h132] _ _ ⟨[(4, .v (.pointer (some ⟨bw4, 0, none⟩))), (12, .v (.slice a_x0 x0.length c_x0)), (13, .v (.int .i64 ((x0.length : Nat) : Int))), (14, .v (.int .i64 x14_h132))], [], true, 0⟩
    replace hp : Option.bind (f24_l1 k x0 n l1_h132 x14_h132) K132 = some r := hp
    cases n with
    | zero => rw [f24_l1] at hp; exact (noS hp).elim
    | succ n =>
      rw [f24_l1] at hp
      obtain ⟨t15u1, e15u1, hp⟩ := bindS hp
      refine WJ.cv 202 (b := t15u1) (H0 := ⟨.nil, 0, 0⟩) rfl rfl rfl rfl rfl rfl (by rw [← endS e15u1]; exact rfl) rfl ?_
      cases t15u1
      · replace hp := (itS hp).2 Bool.false_ne_true
        exact WJ.goto 4 (j132 (l1_h132, a1_h132, 0, B1) ⟨hp, gbg_x0⟩) rfl rfl (by exact ⟨rfl, trivial⟩) rfl rfl rfl
      · replace hp := (itS hp).1 rfl
        obtain ⟨⟨t16u1_At, t16u1_Words⟩, e16u1, hp⟩ := bindS hp
        obtain ⟨b16u1, o16u1, cs16u1, i16u1, ⟨a_t16u1_Words, c_t16u1_Words, rfl, g_t16u1_Words⟩, p16u1⟩ := gbg_x0.at e16u1 u23 sz45
        refine WJ.hd (v := .pointer (some ⟨b16u1, o16u1, none⟩)) 208 rfl rfl rfl rfl (fun ids H' fr => opD_indexAddr rfl (evV_eq _ _ _ _ _ rfl) (evV_eq _ _ _ _ _ rfl) (i16u1 _)) rfl ?_
        refine WJ.hd (v := .agg ⟨[.int .i64 t16u1_At, .slice a_t16u1_Words t16u1_Words.length c_t16u1_Words]⟩) 200 rfl rfl rfl rfl (fun ids H' fr => opD_load rfl (evV_eq _ _ _ _ _ rfl) ((p16u1.mono (Nat.zero_le _) (fr.abv.le (Nat.zero_le _))).loadN (d := 0) ag45 sz45 rfl rfl)) rfl ?_
        refine WJ.adv 1 rfl ?_
        refine WJ.liftS (loc := []) rfl rfl (fun bv0u1 => ?_)
        refine WJ.sb 200 (j := 2) rfl rfl rfl rfl rfl rfl rfl rfl rfl rfl ?_
        refine WJ.hd (v := .slice a_t16u1_Words t16u1_Words.length c_t16u1_Words) 205 rfl rfl rfl rfl (fun ids H' fr => opD_load rfl (evV_eq _ _ _ _ _ rfl) (fr.ldOwn (j := 2) rfl rfl)) rfl ?_
        refine WJ.ci 201 hp rfl rfl rfl rfl rfl rfl rfl rfl rfl (fun hc21u1 hp => ?_) (fun hc21u1 hp => ?_)
        · subst hK132
          obtain rfl := endS (show some _ = some r from hp)
          exact WJ.rt 207 rfl rfl rfl (fun ids H' fr => ⟨fr.ext0, rfl⟩)
        · refine WJ.hd (v := .slice a_t16u1_Words t16u1_Words.length c_t16u1_Words) 211 rfl rfl rfl rfl (fun ids H' fr => opD_load rfl (evV_eq _ _ _ _ _ rfl) (fr.ldOwn (j := 2) rfl rfl)) rfl ?_
          refine WJ.adv 4 rfl ?_
          refine WJ.nw 1 ?_
          obtain ⟨K133, hK133, hp⟩ : ∃ K, K = _ ∧ Option.bind _ K = some r := ⟨_, rfl, cutS hp⟩
          refine WJ.cut 2 (α := (List (List UInt8)) × (Option Addr) × Nat × Hp) (fun y => [(4, .v (.pointer (some ⟨bw4, 0, none⟩))), (7, .v (.slice y.2.1 y.1.length y.2.2.1)), (12, .v (.slice a_x0 x0.length c_x0)), (13, .v (.int .i64 ((x0.length : Nat) : Int))), (14, .v (.int .i64 x14_h132))]) (fun y => []) (fun y => [bldS 63 bw4 a1_h132 l1_h132, bldB 5 a1_h132 l1_h132, ⟨some ⟨bv0u1, 0, none⟩, 2, 1, [.int .i64 t16u1_At, .slice a_t16u1_Words t16u1_Words.length c_t16u1_Words]⟩, ⟨y.2.1, y.2.2.1, 1, encL sE y.1⟩]) (fun y => y.2.2.2) (fun y => K133 (Sum.inl y.1) = some r ∧ SlF 0 y.2.2.2 RowC a_x0 c_x0 x0 ∧ SlF 0 y.2.2.2 RowWordC a_t16u1_Words c_t16u1_Words t16u1_Words) ?_ (fun j133 => ?_)
          · rintro ⟨l3_133, a3_133, c3_133, B5⟩ ⟨hp, gbg_x0, g_t16u1_Words⟩
            subst hK133
            show WJ _ _ _ B5 [bldS 63 bw4 a1_h132 l1_h132, bldB 5 a1_h132 l1_h132, ⟨some ⟨bv0u1, 0, none⟩, 2, 1, [.int .i64 t16u1_At, .slice a_t16u1_Words t16u1_Words.length c_t16u1_Words]⟩, ⟨a3_133, c3_133, 1, encL sE l3_133⟩] _ _ ⟨[(4, .v (.pointer (some ⟨bw4, 0, none⟩))), (7, .v (.slice a3_133 l3_133.length c3_133)), (12, .v (.slice a_x0 x0.length c_x0)), (13, .v (.int .i64 ((x0.length : Nat) : Int))), (14, .v (.int .i64 x14_h132))], [], true, 0⟩
            obtain ⟨t41u1, e41u1, hp⟩ := bindS hp
            refine WJ.cl 203 (R := R_9 t41u1) (fun hm h k => R_9.mono hm h k) rfl (fun ids H' fr => f47_ok (fr.slOwn (j := 3) rfl rfl (Nat.zero_le _)) e41u1) ?_
            rintro v B6 ⟨abB6, ivB6⟩ rfl
            refine ⟨_, rfl, ?_⟩
            replace gbg_x0 := gbg_x0.mono (Nat.le_refl _) (abB6.le (Nat.zero_le _))
            replace g_t16u1_Words := g_t16u1_Words.mono (Nat.le_refl _) (abB6.le (Nat.zero_le _))
            refine WJ.ci 207 hp rfl rfl rfl rfl rfl rfl rfl rfl rfl (fun hc44u1 hp => ?_) (fun hc44u1 hp => ?_)
            · subst hK132
              obtain rfl := endS (show some _ = some r from hp)
              exact WJ.rt 215 rfl rfl rfl (fun ids H' fr => ⟨fr.ext0, rfl⟩)
            · obtain ⟨lB46u1, eB46u1, hp⟩ := bindS hp
              obtain ⟨bdB46u1, rfl⟩ := apd_some eB46u1
              refine WJ.bw 201 (s := ([] : List UInt8)) 0 rfl ln_ok (fun _ => rfl) rfl rfl rfl bdB46u1 ?_
              intro aB46u1
              refine ⟨_, rfl, ?_⟩
              refine WJ.ci 204 hp rfl rfl rfl rfl rfl rfl rfl rfl rfl (fun hc51u1 hp => ?_) (fun hc51u1 hp => ?_)
              · subst hK132
                obtain rfl := endS (show some _ = some r from hp)
                exact WJ.rt 208 rfl rfl rfl (fun ids H' fr => ⟨fr.ext0, rfl⟩)
              · obtain ⟨s54u1, e54u1, hp⟩ := bindS hp
                refine WJ.hd (v := .string (bs s54u1)) 206 rfl rfl rfl rfl (fun ids H' fr => opD_bin rfl (evV_eq _ _ _ _ _ rfl) (evV_eq _ _ _ _ _ rfl) (bin_sadd e54u1)) rfl ?_
                obtain ⟨lB55u1, eB55u1, hp⟩ := bindS hp
                obtain ⟨bdB55u1, rfl⟩ := apd_some eB55u1
                refine WJ.bw 200 (s := s54u1) 0 rfl (ws_ok s54u1) (fun _ => rfl) rfl rfl rfl bdB55u1 ?_
                intro aB55u1
                refine ⟨_, rfl, ?_⟩
                exact WJ.ag 206 rfl (by exact ⟨rfl, rfl, rfl, rfl, trivial⟩) rfl rfl rfl (ih132 (n, ((l1_h132 ++ ([] : List UInt8)) ++ s54u1), IntKind.i64.wrap (x14_h132 + 1), aB55u1, 0, B6) ⟨hp, gbg_x0⟩ (Nat.lt_succ_self _))
          · refine WJ.lp 200 (α := Nat × (List (List UInt8)) × Int × (Option Addr) × Nat × Hp) (fun y => [(4, .v (.pointer (some ⟨bw4, 0, none⟩))), (7, .v (.slice y.2.2.2.1 y.2.1.length y.2.2.2.2.1)), (12, .v (.slice a_x0 x0.length c_x0)), (13, .v (.int .i64 ((x0.length : Nat) : Int))), (14, .v (.int .i64 x14_h132)), (23, .v (.slice a_t16u1_Words t16u1_Words.length c_t16u1_Words)), (24, .v (.int .i64 ((t16u1_Words.length : Nat) : Int))), (25, .v (.int .i64 y.2.2.1))]) (fun y => []) (fun y => [bldS 63 bw4 a1_h132 l1_h132, bldB 5 a1_h132 l1_h132, ⟨some ⟨bv0u1, 0, none⟩, 2, 1, [.int .i64 t16u1_At, .slice a_t16u1_Words t16u1_Words.length c_t16u1_Words]⟩, ⟨y.2.2.2.1, y.2.2.2.2.1, 1, encL sE y.2.1⟩]) (fun y => y.2.2.2.2.2) (fun y => y.1) (fun y => Option.bind (f24_l2 k t16u1_Words y.1 y.2.1 y.2.2.1) K133 = some r ∧ SlF 0 y.2.2.2.2.2 RowC a_x0 c_x0 x0 ∧ SlF 0 y.2.2.2.2.2 RowWordC a_t16u1_Words c_t16u1_Words t16u1_Words) (k, ([] : List (List UInt8)), 0, none, 0, B1) rfl ⟨hp, gbg_x0, g_t16u1_Words⟩ (by exact ⟨rfl, rfl, rfl, rfl, rfl, rfl, rfl, rfl, trivial⟩) rfl rfl rfl ?_
            rintro ⟨n133, l3_h133, x25_h133, a3_h133, c3_h133, B2⟩ ⟨hp, gbg_x0, g_t16u1_Words⟩ ih133
            show WJ _ _ _ B2 [bldS 63 bw4 a1_h132 l1_h132, bldB 5 a1_h132 l1_h132, ⟨some ⟨bv0u1, 0, none⟩, 2, 1, [.int .i64 t16u1_At, .slice a_t16u1_Words t16u1_Words.length c_t16u1_Words]⟩, ⟨a3_h133, c3_h133, 1, encL sE l3_h133⟩] _ _ ⟨[(4, .v (.pointer (some ⟨bw4, 0, none⟩))), (7, .v (.slice a3_h133 l3_h133.length c3_h133)), (12, .v (.slice a_x0 x0.length c_x0)), (13, .v (.int .i64 ((x0.length : Nat) : Int))), (14, .v (.int .i64 x14_h132)), (23, .v (.slice a_t16u1_Words t16u1_Words.length c_t16u1_Words)), (24, .v (.int .i64 ((t16u1_Words.length : Nat) : Int))), (25, .v (.int .i64 x25_h133))], [], true, 0⟩
            replace hp : Option.bind (f24_l2 k t16u1_Words n133 l3_h133 x25_h133) K133 = some r := hp
            cases n133 with
            | zero => rw [f24_l2] at hp; exact (noS hp).elim
            | succ n133 =>
              rw [f24_l2] at hp
              obtain ⟨t26u1, e26u1, hp⟩ := bindS hp
              refine WJ.cv 202 (b := t26u1) (H0 := ⟨.nil, 0, 0⟩) rfl rfl rfl rfl rfl rfl (by rw [← endS e26u1]; exact rfl) rfl ?_
              cases t26u1
              · replace hp := (itS hp).2 Bool.false_ne_true
                exact WJ.goto 4 (j133 (l3_h133, a3_h133, c3_h133, B2) ⟨hp, gbg_x0, g_t16u1_Words⟩) rfl rfl (by exact ⟨rfl, rfl, rfl, rfl, rfl, trivial⟩) rfl rfl rfl
              · replace hp := (itS hp).1 rfl
                obtain ⟨⟨t27u1_At, t27u1_Kind, t27u1_Name, t27u1_N⟩, e27u1, hp⟩ := bindS hp
                obtain ⟨b27u1, o27u1, cs27u1, i27u1, rfl, p27u1⟩ := g_t16u1_Words.at e27u1 u43 sz36
                refine WJ.hd (v := .pointer (some ⟨b27u1, o27u1, none⟩)) 208 rfl rfl rfl rfl (fun ids H' fr => opD_indexAddr rfl (evV_eq _ _ _ _ _ rfl) (evV_eq _ _ _ _ _ rfl) (i27u1 _)) rfl ?_
                refine WJ.hd (v := .agg ⟨[.int .i64 t27u1_At, .int .i64 t27u1_Kind, .string (bs t27u1_Name), .int .i64 t27u1_N]⟩) 200 rfl rfl rfl rfl (fun ids H' fr => opD_load rfl (evV_eq _ _ _ _ _ rfl) ((p27u1.mono (Nat.zero_le _) (fr.abv.le (Nat.zero_le _))).loadN (d := 0) ag36 sz36 rfl rfl)) rfl ?_
                refine WJ.adv 1 rfl ?_
                refine WJ.liftS (loc := []) rfl rfl (fun bv1u1 => ?_)
                refine WJ.sb 200 (j := 4) rfl rfl rfl rfl rfl rfl rfl rfl rfl rfl ?_
                refine WJ.hd (v := .agg ⟨[.int .i64 t27u1_At, .int .i64 t27u1_Kind, .string (bs t27u1_Name), .int .i64 t27u1_N]⟩) 204 rfl rfl rfl rfl (fun ids H' fr => opD_load rfl (evV_eq _ _ _ _ _ rfl) (fr.ldOwn (j := 4) rfl rfl)) rfl ?_
                obtain ⟨t30u1, e30u1, hp⟩ := bindS hp
                refine WJ.cl 200 (R := R_24 t30u1) (fun hm h k => R_24.mono hm h k) rfl (fun ids H' fr => f22_ok (x0 := (RowWord.mk t27u1_At t27u1_Kind t27u1_Name t27u1_N)) e30u1) ?_
                rintro v B3 ⟨abB3, ivB3⟩ rfl
                refine ⟨_, rfl, ?_⟩
                replace gbg_x0 := gbg_x0.mono (Nat.le_refl _) (abB3.le (Nat.zero_le _))
                replace g_t16u1_Words := g_t16u1_Words.mono (Nat.le_refl _) (abB3.le (Nat.zero_le _))
                replace p27u1 := p27u1.mono (Nat.le_refl _) (abB3.le (Nat.zero_le _))
                refine WJ.cn 205 hp rfl rfl rfl rfl rfl rfl rfl rfl rfl (fun hc32u1 hp => ?_) (fun hc32u1 hp => ?_)
                · subst hK133
                  subst hK132
                  obtain rfl := endS (show some _ = some r from hp)
                  exact WJ.rt 208 rfl rfl rfl (fun ids H' fr => ⟨fr.ext0, rfl⟩)
                · refine WJ.hd (v := .agg ⟨[.int .i64 t27u1_At, .int .i64 t27u1_Kind, .string (bs t27u1_Name), .int .i64 t27u1_N]⟩) 205 rfl rfl rfl rfl (fun ids H' fr => opD_load rfl (evV_eq _ _ _ _ _ rfl) (fr.ldOwn (j := 4) rfl rfl)) rfl ?_
                  obtain ⟨t36u1, e36u1, hp⟩ := bindS hp
                  refine WJ.cl 200 (R := R_9 t36u1) (fun hm h k => R_9.mono hm h k) rfl (fun ids H' fr => f46_ok (x0 := (RowWord.mk t27u1_At t27u1_Kind t27u1_Name t27u1_N)) e36u1) ?_
                  rintro v B4 ⟨abB4, ivB4⟩ rfl
                  refine ⟨_, rfl, ?_⟩
                  replace gbg_x0 := gbg_x0.mono (Nat.le_refl _) (abB4.le (Nat.zero_le _))
                  replace g_t16u1_Words := g_t16u1_Words.mono (Nat.le_refl _) (abB4.le (Nat.zero_le _))
                  replace p27u1 := p27u1.mono (Nat.le_refl _) (abB4.le (Nat.zero_le _))
                  refine WJ.bs (cs := encL sE ([t36u1] : List (List UInt8))) (sz := 1) (pl := [(0, .string (bs t36u1))]) 200 rfl rfl rfl rfl rfl (fun _ _ => rfl) (fun _ => by rfl) rfl rfl ?_
                  intro b37u1
                  refine ⟨_, rfl, ?_⟩
                  obtain ⟨l38u1, e38u1, hp⟩ := bindS hp
                  obtain ⟨bd38u1, rfl⟩ := apd_some e38u1
                  refine WJ.ap (L := l3_h133) (L2 := ([t36u1] : List (List UInt8))) 200 3 rfl rfl rfl rfl rfl rfl rfl rfl (el37 rfl) rfl (fun _ => rfl) (fun _ => rfl) rfl (fun ids H' fr => fr.srcOwn (enc := sE) (sz := 1) (j := 5) (fun _ => rfl) (by decide) rfl) bd38u1 ?_
                  intro a38u1 c38u1
                  refine ⟨_, rfl, ?_⟩
                  refine WJ.pop [bldS 63 bw4 a1_h132 l1_h132, bldB 5 a1_h132 l1_h132, ⟨some ⟨bv0u1, 0, none⟩, 2, 1, [.int .i64 t16u1_At, .slice a_t16u1_Words t16u1_Words.length c_t16u1_Words]⟩, ⟨a38u1, c38u1, 1, encL sE (l3_h133 ++ ([t36u1] : List (List UInt8)))⟩, ⟨some ⟨bv1u1, 0, none⟩, 4, 1, [.int .i64 t27u1_At, .int .i64 t27u1_Kind, .string (bs t27u1_Name), .int .i64 t27u1_N]⟩] rfl ?_
                  exact WJ.ag 207 rfl (by exact ⟨rfl, rfl, rfl, rfl, rfl, rfl, rfl, rfl, trivial⟩) rfl rfl rfl (ih133 (n133, (l3_h133 ++ ([t36u1] : List (List UInt8))), IntKind.i64.wrap (x25_h133 + 1), a38u1, c38u1, B4) ⟨hp, gbg_x0, g_t16u1_Words⟩ (Nat.lt_succ_self _))
/-! 11 tipstaff/tipstafflaw03.sameRows -/
def f11_l2 (x0 : List Row) (x1 : List Row) (x2 : Bool) (x7 : Int) : Nat → Int → Option ((Bool) ⊕ (Unit))
  | 0, _ => none
  | n + 1, x8 =>
    (rd x0 x7).bind fun t54 =>
    if x8 < (t54.Words.length : Int) then
      (rd x0 x7).bind fun t63 =>
      (rd t63.Words x8).bind fun t67 =>
      (rd x1 x7).bind fun t71 =>
      (rd t71.Words x8).bind fun t75 =>
      if x2 then
        if (RowWord.mk t67.At t67.Kind t67.Name t67.N) = (RowWord.mk t75.At t75.Kind t75.Name t75.N) then
          f11_l2 x0 x1 x2 x7 n (IntKind.i64.wrap (x8 + 1))
        else
          some (Sum.inl (false : Bool))
      else
        if (RowWord.mk 0 t67.Kind t67.Name t67.N) = (RowWord.mk 0 t75.Kind t75.Name t75.N) then
          f11_l2 x0 x1 x2 x7 n (IntKind.i64.wrap (x8 + 1))
        else
          some (Sum.inl (false : Bool))
    else
      some (Sum.inr ())

def f11_l1 (k : Nat) (x0 : List Row) (x1 : List Row) (x2 : Bool) : Nat → Int → Option ((Bool) ⊕ (Unit))
  | 0, _ => none
  | n + 1, x7 =>
    if x7 < (x0.length : Int) then
      (if x2 then
        (rd x0 x7).bind fun t26 =>
        (rd x1 x7).bind fun t31 =>
        if t26.At = t31.At then
          (rd x0 x7).bind fun t39 =>
          (rd x1 x7).bind fun t45 =>
          if (t39.Words.length : Int) = (t45.Words.length : Int) then
            some (Sum.inr ())
          else
            some (Sum.inl (false : Bool))
        else
          some (Sum.inl (false : Bool))
      else
        (rd x0 x7).bind fun t39 =>
        (rd x1 x7).bind fun t45 =>
        if (t39.Words.length : Int) = (t45.Words.length : Int) then
          some (Sum.inr ())
        else
          some (Sum.inl (false : Bool))).bind fun s => match s with
        | .inl st => some (Sum.inl st)
        | .inr _ => 
          (f11_l2 x0 x1 x2 x7 k 0).bind fun s => match s with
            | .inl st => some (Sum.inl st)
            | .inr _ => 
              f11_l1 k x0 x1 x2 n (IntKind.i64.wrap (x7 + 1))
    else
      some (Sum.inr ())

def f11 (k : Nat) (x0 : List Row) (x1 : List Row) (x2 : Bool) : Option Bool :=
  if (x0.length : Int) = (x1.length : Int) then
    (f11_l1 k x0 x1 x2 k 0).bind fun s => match s with
      | .inl st => some st
      | .inr _ => 
        some true
  else
    some false
set_option maxRecDepth 20000 in
theorem f11_ok {k : Nat} {H : Hp} {a_x0 : Option Addr} {c_x0 : Nat} {a_x1 : Option Addr} {c_x1 : Nat} {x0 : List Row} {x1 : List Row} {x2 : Bool} {r : Bool} (g_x0 : SlF 0 H RowC a_x0 c_x0 x0) (g_x1 : SlF 0 H RowC a_x1 c_x1 x1) (hp : f11 k x0 x1 x2 = some r) :
    SCall Tryz.prog 11 [.slice a_x0 x0.length c_x0, .slice a_x1 x1.length c_x1, .bool x2] H (Ret fun v H' => Ext H H' ∧ R_4 r H.next H' v) := by
  unfold f11 at hp
  replace hp := topS hp
  refine SCall.g Tryz.func11 rfl rfl rfl rfl rfl (l := [(0, .v (.slice a_x0 x0.length c_x0)), (1, .v (.slice a_x1 x1.length c_x1)), (2, .v (.bool x2))]) (fun _ => rfl) (fun B abB => ?_)
  refine WJ.cn 211 hp rfl rfl rfl rfl rfl rfl rfl rfl rfl (fun hc15 hp => ?_) (fun hc15 hp => ?_)
  · obtain rfl := endS (show some _ = some r from hp)
    exact WJ.rt 206 rfl rfl rfl (fun ids H' fr => ⟨fr.ext0, rfl⟩)
  · refine WJ.adv 9 rfl ?_
    obtain ⟨K134, hK134, hp⟩ : ∃ K, K = _ ∧ Option.bind _ K = some r := ⟨_, rfl, cutS hp⟩
    refine WJ.cut 2 (α := Unit) (fun y => []) (fun y => []) (fun y => []) (fun y => B) (fun y => K134 (Sum.inr ()) = some r) ?_ (fun j134 => ?_)
    · rintro u hp
      subst hK134
      show WJ _ _ _ B [] _ _ ⟨[], [], true, 0⟩
      obtain rfl := endS (show some _ = some r from hp)
      exact WJ.rt 204 rfl rfl rfl (fun ids H' fr => ⟨fr.ext0, rfl⟩)
    · refine WJ.lp 200 (α := Nat × Int) (fun y => [(0, .v (.slice a_x0 x0.length c_x0)), (1, .v (.slice a_x1 x1.length c_x1)), (2, .v (.bool x2)), (7, .v (.int .i64 y.2))]) (fun y => []) (fun y => []) (fun y => B) (fun y => y.1) (fun y => Option.bind (f11_l1 k x0 x1 x2 y.1 y.2) K134 = some r) (k, 0) rfl hp (by exact ⟨rfl, rfl, rfl, rfl, trivial⟩) rfl rfl rfl ?_
      rintro ⟨n, x7⟩ hp ih134
      show WJ _ _ _ B [] _ _ ⟨[(0, .v (.slice a_x0 x0.length c_x0)), (1, .v (.slice a_x1 x1.length c_x1)), (2, .v (.bool x2)), (7, .v (.int .i64 x7))], [], true, 0⟩
      replace hp : Option.bind (f11_l1 k x0 x1 x2 n x7) K134 = some r := hp
      cases n with
      | zero => rw [f11_l1] at hp; exact (noS hp).elim
      | succ n =>
        rw [f11_l1] at hp
        refine WJ.ci 206 hp rfl rfl rfl rfl rfl rfl rfl rfl rfl (fun hc19 hp => ?_) (fun hc19 hp => ?_)
        · refine WJ.adv 7 rfl ?_
          obtain ⟨K135, hK135, hp⟩ : ∃ K, K = _ ∧ Option.bind _ K = some r := ⟨_, rfl, cutS hp⟩
          refine WJ.cut 2 (α := Unit) (fun y => [(0, .v (.slice a_x0 x0.length c_x0)), (1, .v (.slice a_x1 x1.length c_x1)), (2, .v (.bool x2)), (7, .v (.int .i64 x7))]) (fun y => []) (fun y => []) (fun y => B) (fun y => K135 ((Sum.inr ())) = some r) ?_ (fun j135 => ?_)
          · rintro u hp
            subst hK135
            show WJ _ _ _ B [] _ _ ⟨[(0, .v (.slice a_x0 x0.length c_x0)), (1, .v (.slice a_x1 x1.length c_x1)), (2, .v (.bool x2)), (7, .v (.int .i64 x7))], [], true, 0⟩
            refine WJ.adv 5 rfl ?_
            obtain ⟨K136, hK136, hp⟩ : ∃ K, K = _ ∧ Option.bind _ K = some r := ⟨_, rfl, cutS hp⟩
            refine WJ.cut 3 (α := Unit) (fun y => [(0, .v (.slice a_x0 x0.length c_x0)), (1, .v (.slice a_x1 x1.length c_x1)), (2, .v (.bool x2)), (7, .v (.int .i64 x7))]) (fun y => []) (fun y => []) (fun y => B) (fun y => K136 (Sum.inr ()) = some r) ?_ (fun j136 => ?_)
            · rintro u hp
              subst hK136
              show WJ _ _ _ B [] _ _ ⟨[(0, .v (.slice a_x0 x0.length c_x0)), (1, .v (.slice a_x1 x1.length c_x1)), (2, .v (.bool x2)), (7, .v (.int .i64 x7))], [], true, 0⟩
              exact WJ.ag 205 rfl (by exact ⟨rfl, rfl, rfl, rfl, trivial⟩) rfl rfl rfl (ih134 (n, IntKind.i64.wrap (x7 + 1)) hp (Nat.lt_succ_self _))
            · refine WJ.lp 200 (α := Nat × Int) (fun y => [(0, .v (.slice a_x0 x0.length c_x0)), (1, .v (.slice a_x1 x1.length c_x1)), (2, .v (.bool x2)), (7, .v (.int .i64 x7)), (8, .v (.int .i64 y.2))]) (fun y => []) (fun y => []) (fun y => B) (fun y => y.1) (fun y => Option.bind (f11_l2 x0 x1 x2 x7 y.1 y.2) K136 = some r) (k, 0) rfl hp (by exact ⟨rfl, rfl, rfl, rfl, rfl, trivial⟩) rfl rfl rfl ?_
              rintro ⟨n136, x8⟩ hp ih136
              show WJ _ _ _ B [] _ _ ⟨[(0, .v (.slice a_x0 x0.length c_x0)), (1, .v (.slice a_x1 x1.length c_x1)), (2, .v (.bool x2)), (7, .v (.int .i64 x7)), (8, .v (.int .i64 x8))], [], true, 0⟩
              replace hp : Option.bind (f11_l2 x0 x1 x2 x7 n136 x8) K136 = some r := hp
              cases n136 with
              | zero => rw [f11_l2] at hp; exact (noS hp).elim
              | succ n136 =>
                rw [f11_l2] at hp
                obtain ⟨⟨t54_At, t54_Words⟩, e54, hp⟩ := bindS hp
                obtain ⟨b54, o54, cs54, i54, ⟨a_t54_Words, c_t54_Words, rfl, g_t54_Words⟩, p54⟩ := g_x0.at e54 u23 sz45
                refine WJ.hd (v := .pointer (some ⟨b54, o54, none⟩)) 206 rfl rfl rfl rfl (fun ids H' fr => opD_indexAddr rfl (evV_eq _ _ _ _ _ rfl) (evV_eq _ _ _ _ _ rfl) (i54 _)) rfl ?_
                refine WJ.hd (v := .slice a_t54_Words t54_Words.length c_t54_Words) 201 rfl rfl rfl rfl (fun ids H' fr => opD_load rfl (evV_eq _ _ _ _ _ rfl) ((p54.mono (Nat.zero_le _) fr.ext0.abv).load (d := 1) ag43 rfl)) rfl ?_
                refine WJ.ci 201 hp rfl rfl rfl rfl rfl rfl rfl rfl rfl (fun hc58 hp => ?_) (fun hc58 hp => ?_)
                · refine WJ.drF 206 rfl gmix (by kernel_rfl) (by kernel_rfl) rfl (fun D1 eD1 abD1 => ?_)
                  obtain ⟨⟨t63_At, t63_Words⟩, e63, hp⟩ := bindS hp
                  obtain ⟨b63, o63, cs63, i63, ⟨a_t63_Words, c_t63_Words, rfl, g_t63_Words⟩, p63⟩ := g_x0.at e63 u23 sz45
                  have lt63 := Nat.lt_of_lt_of_le p63.2.1 eD1.next
                  refine WD.hd (v := .pointer (some ⟨b63, o63, none⟩)) rfl rfl rfl rfl (fun ids H' s0 h0 f => side_pure rfl rfl h0 f) (fun ids H' fr => opD_indexAddr rfl (evV_eq _ _ _ _ _ rfl) (evV_eq _ _ _ _ _ rfl) (i63 _)) rfl ?_
                  refine WD.hd (v := .slice a_t63_Words t63_Words.length c_t63_Words) rfl rfl rfl rfl (fun ids H' s0 h0 f => side_load rfl rfl rfl lt63 h0 f) (fun ids H' fr => opD_load rfl (evV_eq _ _ _ _ _ rfl) ((p63.mono (Nat.zero_le _) fr.ext0.abv).load (d := 1) ag43 rfl)) rfl ?_
                  obtain ⟨⟨t67_At, t67_Kind, t67_Name, t67_N⟩, e67, hp⟩ := bindS hp
                  obtain ⟨b67, o67, cs67, i67, rfl, p67⟩ := g_t63_Words.at e67 u43 sz36
                  have lt67 := Nat.lt_of_lt_of_le p67.2.1 eD1.next
                  refine WD.hd (v := .pointer (some ⟨b67, o67, none⟩)) rfl rfl rfl rfl (fun ids H' s0 h0 f => side_pure rfl rfl h0 f) (fun ids H' fr => opD_indexAddr rfl (evV_eq _ _ _ _ _ rfl) (evV_eq _ _ _ _ _ rfl) (i67 _)) rfl ?_
                  refine WD.hd (v := .agg ⟨[.int .i64 t67_At, .int .i64 t67_Kind, .string (bs t67_Name), .int .i64 t67_N]⟩) rfl rfl rfl rfl (fun ids H' s0 h0 f => side_load rfl rfl rfl lt67 h0 f) (fun ids H' fr => opD_load rfl (evV_eq _ _ _ _ _ rfl) ((p67.mono (Nat.zero_le _) fr.ext0.abv).loadN (d := 0) ag36 sz36 rfl rfl)) rfl ?_
                  obtain ⟨⟨t71_At, t71_Words⟩, e71, hp⟩ := bindS hp
                  obtain ⟨b71, o71, cs71, i71, ⟨a_t71_Words, c_t71_Words, rfl, g_t71_Words⟩, p71⟩ := g_x1.at e71 u23 sz45
                  have lt71 := Nat.lt_of_lt_of_le p71.2.1 eD1.next
                  refine WD.hd (v := .pointer (some ⟨b71, o71, none⟩)) rfl rfl rfl rfl (fun ids H' s0 h0 f => side_pure rfl rfl h0 f) (fun ids H' fr => opD_indexAddr rfl (evV_eq _ _ _ _ _ rfl) (evV_eq _ _ _ _ _ rfl) (i71 _)) rfl ?_
                  refine WD.hd (v := .slice a_t71_Words t71_Words.length c_t71_Words) rfl rfl rfl rfl (fun ids H' s0 h0 f => side_load rfl rfl rfl lt71 h0 f) (fun ids H' fr => opD_load rfl (evV_eq _ _ _ _ _ rfl) ((p71.mono (Nat.zero_le _) fr.ext0.abv).load (d := 1) ag43 rfl)) rfl ?_
                  obtain ⟨⟨t75_At, t75_Kind, t75_Name, t75_N⟩, e75, hp⟩ := bindS hp
                  obtain ⟨b75, o75, cs75, i75, rfl, p75⟩ := g_t71_Words.at e75 u43 sz36
                  have lt75 := Nat.lt_of_lt_of_le p75.2.1 eD1.next
                  refine WD.hd (v := .pointer (some ⟨b75, o75, none⟩)) rfl rfl rfl rfl (fun ids H' s0 h0 f => side_pure rfl rfl h0 f) (fun ids H' fr => opD_indexAddr rfl (evV_eq _ _ _ _ _ rfl) (evV_eq _ _ _ _ _ rfl) (i75 _)) rfl ?_
                  refine WD.hd (v := .agg ⟨[.int .i64 t75_At, .int .i64 t75_Kind, .string (bs t75_Name), .int .i64 t75_N]⟩) rfl rfl rfl rfl (fun ids H' s0 h0 f => side_load rfl rfl rfl lt75 h0 f) (fun ids H' fr => opD_load rfl (evV_eq _ _ _ _ _ rfl) ((p75.mono (Nat.zero_le _) fr.ext0.abv).loadN (d := 0) ag36 sz36 rfl rfl)) rfl ?_
                  refine WD.done rfl ?_
                  cases x2
                  · replace hp := (itS hp).2 Bool.false_ne_true
                    refine WJ.cn 217 hp rfl rfl rfl rfl rfl rfl (opD_neS rfl rfl rfl rfl gd36 (eq36 0 t67_Kind t67_Name t67_N 0 t75_Kind t75_Name t75_N)) rfl rfl (fun hc83 hp => ?_) (fun hc83 hp => ?_)
                    · subst hK136
                      subst hK134
                      obtain rfl := endS (show some _ = some r from hp)
                      exact WJ.rt 206 rfl rfl rfl (fun ids H' fr => ⟨fr.ext0, rfl⟩)
                    · exact WJ.ag 209 rfl (by exact ⟨rfl, rfl, rfl, rfl, rfl, trivial⟩) rfl rfl rfl (ih136 (n136, IntKind.i64.wrap (x8 + 1)) hp (Nat.lt_succ_self _))
                  · replace hp := (itS hp).1 rfl
                    refine WJ.cn 212 hp rfl rfl rfl rfl rfl rfl (opD_neS rfl rfl rfl rfl gd36 (eq36 t67_At t67_Kind t67_Name t67_N t75_At t75_Kind t75_Name t75_N)) rfl rfl (fun hc83 hp => ?_) (fun hc83 hp => ?_)
                    · subst hK136
                      subst hK134
                      obtain rfl := endS (show some _ = some r from hp)
                      exact WJ.rt 206 rfl rfl rfl (fun ids H' fr => ⟨fr.ext0, rfl⟩)
                    · exact WJ.ag 209 rfl (by exact ⟨rfl, rfl, rfl, rfl, rfl, trivial⟩) rfl rfl rfl (ih136 (n136, IntKind.i64.wrap (x8 + 1)) hp (Nat.lt_succ_self _))
                · exact WJ.goto 4 (j136 () hp) rfl rfl (by exact ⟨rfl, rfl, rfl, rfl, trivial⟩) rfl rfl rfl
          · refine WJ.dr 200 rfl gmix (by kernel_rfl) (by kernel_rfl) rfl ?_
            cases x2
            · replace hp := (itS hp).2 Bool.false_ne_true
              obtain ⟨⟨t39_At, t39_Words⟩, e39, hp⟩ := bindS hp
              obtain ⟨b39, o39, cs39, i39, ⟨a_t39_Words, c_t39_Words, rfl, g_t39_Words⟩, p39⟩ := g_x0.at e39 u23 sz45
              refine WD.hd (v := .pointer (some ⟨b39, o39, none⟩)) rfl rfl rfl rfl (fun _ _ _ _ _ => side_no) (fun ids H' fr => opD_indexAddr rfl (evV_eq _ _ _ _ _ rfl) (evV_eq _ _ _ _ _ rfl) (i39 _)) rfl ?_
              refine WD.hd (v := .slice a_t39_Words t39_Words.length c_t39_Words) rfl rfl rfl rfl (fun _ _ _ _ _ => side_no) (fun ids H' fr => opD_load rfl (evV_eq _ _ _ _ _ rfl) ((p39.mono (Nat.zero_le _) fr.ext0.abv).load (d := 1) ag43 rfl)) rfl ?_
              obtain ⟨⟨t45_At, t45_Words⟩, e45, hp⟩ := bindS hp
              obtain ⟨b45, o45, cs45, i45, ⟨a_t45_Words, c_t45_Words, rfl, g_t45_Words⟩, p45⟩ := g_x1.at e45 u23 sz45
              refine WD.hd (v := .pointer (some ⟨b45, o45, none⟩)) rfl rfl rfl rfl (fun _ _ _ _ _ => side_no) (fun ids H' fr => opD_indexAddr rfl (evV_eq _ _ _ _ _ rfl) (evV_eq _ _ _ _ _ rfl) (i45 _)) rfl ?_
              refine WD.hd (v := .slice a_t45_Words t45_Words.length c_t45_Words) rfl rfl rfl rfl (fun _ _ _ _ _ => side_no) (fun ids H' fr => opD_load rfl (evV_eq _ _ _ _ _ rfl) ((p45.mono (Nat.zero_le _) fr.ext0.abv).load (d := 1) ag43 rfl)) rfl ?_
              refine WD.cn hp rfl rfl rfl rfl rfl rfl rfl rfl rfl (fun hc49 hp => ?_) (fun hc49 hp => ?_)
              · refine WD.done rfl ?_
                subst hK135
                subst hK134
                obtain rfl := endS (show some _ = some r from hp)
                exact WJ.rt 205 rfl rfl rfl (fun ids H' fr => ⟨fr.ext0, rfl⟩)
              · refine WD.done rfl ?_
                exact WJ.goto 2 (j135 () hp) rfl rfl (by exact ⟨rfl, rfl, rfl, rfl, trivial⟩) rfl rfl rfl
            · replace hp := (itS hp).1 rfl
              obtain ⟨⟨t26_At, t26_Words⟩, e26, hp⟩ := bindS hp
              obtain ⟨b26, o26, cs26, i26, ⟨a_t26_Words, c_t26_Words, rfl, g_t26_Words⟩, p26⟩ := g_x0.at e26 u23 sz45
              refine WD.hd (v := .pointer (some ⟨b26, o26, none⟩)) rfl rfl rfl rfl (fun _ _ _ _ _ => side_no) (fun ids H' fr => opD_indexAddr rfl (evV_eq _ _ _ _ _ rfl) (evV_eq _ _ _ _ _ rfl) (i26 _)) rfl ?_
              refine WD.hd (v := .int .i64 t26_At) rfl rfl rfl rfl (fun _ _ _ _ _ => side_no) (fun ids H' fr => opD_load rfl (evV_eq _ _ _ _ _ rfl) ((p26.mono (Nat.zero_le _) fr.ext0.abv).load (d := 0) ag3 rfl)) rfl ?_
              obtain ⟨⟨t31_At, t31_Words⟩, e31, hp⟩ := bindS hp
              obtain ⟨b31, o31, cs31, i31, ⟨a_t31_Words, c_t31_Words, rfl, g_t31_Words⟩, p31⟩ := g_x1.at e31 u23 sz45
              refine WD.hd (v := .pointer (some ⟨b31, o31, none⟩)) rfl rfl rfl rfl (fun _ _ _ _ _ => side_no) (fun ids H' fr => opD_indexAddr rfl (evV_eq _ _ _ _ _ rfl) (evV_eq _ _ _ _ _ rfl) (i31 _)) rfl ?_
              refine WD.hd (v := .int .i64 t31_At) rfl rfl rfl rfl (fun _ _ _ _ _ => side_no) (fun ids H' fr => opD_load rfl (evV_eq _ _ _ _ _ rfl) ((p31.mono (Nat.zero_le _) fr.ext0.abv).load (d := 0) ag3 rfl)) rfl ?_
              refine WD.cn hp rfl rfl rfl rfl rfl rfl rfl rfl rfl (fun hc34 hp => ?_) (fun hc34 hp => ?_)
              · refine WD.done rfl ?_
                subst hK135
                subst hK134
                obtain rfl := endS (show some _ = some r from hp)
                exact WJ.rt 205 rfl rfl rfl (fun ids H' fr => ⟨fr.ext0, rfl⟩)
              · obtain ⟨⟨t39_At, t39_Words⟩, e39, hp⟩ := bindS hp
                obtain ⟨b39, o39, cs39, i39, ⟨a_t39_Words, c_t39_Words, rfl, g_t39_Words⟩, p39⟩ := g_x0.at e39 u23 sz45
                refine WD.hd (v := .pointer (some ⟨b39, o39, none⟩)) rfl rfl rfl rfl (fun _ _ _ _ _ => side_no) (fun ids H' fr => opD_indexAddr rfl (evV_eq _ _ _ _ _ rfl) (evV_eq _ _ _ _ _ rfl) (i39 _)) rfl ?_
                refine WD.hd (v := .slice a_t39_Words t39_Words.length c_t39_Words) rfl rfl rfl rfl (fun _ _ _ _ _ => side_no) (fun ids H' fr => opD_load rfl (evV_eq _ _ _ _ _ rfl) ((p39.mono (Nat.zero_le _) fr.ext0.abv).load (d := 1) ag43 rfl)) rfl ?_
                obtain ⟨⟨t45_At, t45_Words⟩, e45, hp⟩ := bindS hp
                obtain ⟨b45, o45, cs45, i45, ⟨a_t45_Words, c_t45_Words, rfl, g_t45_Words⟩, p45⟩ := g_x1.at e45 u23 sz45
                refine WD.hd (v := .pointer (some ⟨b45, o45, none⟩)) rfl rfl rfl rfl (fun _ _ _ _ _ => side_no) (fun ids H' fr => opD_indexAddr rfl (evV_eq _ _ _ _ _ rfl) (evV_eq _ _ _ _ _ rfl) (i45 _)) rfl ?_
                refine WD.hd (v := .slice a_t45_Words t45_Words.length c_t45_Words) rfl rfl rfl rfl (fun _ _ _ _ _ => side_no) (fun ids H' fr => opD_load rfl (evV_eq _ _ _ _ _ rfl) ((p45.mono (Nat.zero_le _) fr.ext0.abv).load (d := 1) ag43 rfl)) rfl ?_
                refine WD.cn hp rfl rfl rfl rfl rfl rfl rfl rfl rfl (fun hc49 hp => ?_) (fun hc49 hp => ?_)
                · refine WD.done rfl ?_
                  subst hK135
                  subst hK134
                  obtain rfl := endS (show some _ = some r from hp)
                  exact WJ.rt 205 rfl rfl rfl (fun ids H' fr => ⟨fr.ext0, rfl⟩)
                · refine WD.done rfl ?_
                  exact WJ.goto 2 (j135 () hp) rfl rfl (by exact ⟨rfl, rfl, rfl, rfl, trivial⟩) rfl rfl rfl
        · exact WJ.goto 3 (j134 () hp) rfl rfl (by exact trivial) rfl rfl rfl
/-! 7 tipstaff/tipstafflaw03.RowAgain -/
def f7 (k : Nat) (x0 : List UInt8) : Option Bool :=
  if (x0.length : Int) > 1000 then
    (f8).bind fun t12 =>
    some t12
  else
    (f9 k x0).bind fun (t15_0, t15_1) =>
    if t15_1.Err = 0 then
      (f24 k t15_0).bind fun (t29_0, t29_1) =>
      if t29_1 = 0 then
        (f9 k t29_0).bind fun (t41_0, t41_1) =>
        if (Fault.mk t41_1.Err t41_1.At) = (Fault.mk 0 0) then
          (f11 k t15_0 t41_0 false).bind fun t50 =>
          if t50 then
            (f8).bind fun t53 =>
            some t53
          else
            some false
        else
          some false
      else
        if t29_1 = 4 then
          (f8).bind fun t37 =>
          some t37
        else
          some false
    else
      if (t15_0.length : Int) = 0 then
        (f8).bind fun t25 =>
        some t25
      else
        some false
set_option maxRecDepth 20000 in
theorem f7_ok {k : Nat} {H : Hp} {x0 : List UInt8} {r : Bool} (hp : f7 k x0 = some r) :
    SCall Tryz.prog 7 [.string (bs x0)] H (Ret fun v H' => Ext H H' ∧ R_4 r H.next H' v) := by
  unfold f7 at hp
  replace hp := topS hp
  refine SCall.g Tryz.func7 rfl rfl rfl rfl rfl (l := [(0, .v (.string (bs x0)))]) (fun _ => rfl) (fun B abB => ?_)
  refine WJ.ci 209 hp rfl rfl rfl rfl rfl rfl rfl rfl rfl (fun hc11 hp => ?_) (fun hc11 hp => ?_)
  · obtain ⟨t12, e12, hp⟩ := bindS hp
    refine WJ.cl 204 (R := R_4 t12) (fun hm h k => R_4.mono hm h k) rfl (fun ids H' fr => f8_ok e12) ?_
    rintro v B1 ⟨abB1, ivB1⟩ rfl
    refine ⟨_, rfl, ?_⟩
    obtain rfl := endS (show some _ = some r from hp)
    exact WJ.rt 202 rfl rfl rfl (fun ids H' fr => ⟨fr.ext0, rfl⟩)
  · obtain ⟨⟨t15_0, ⟨t15_1_Err, t15_1_At⟩⟩, e15, hp⟩ := bindS hp
    refine WJ.cl 206 (R := R_23_26 ⟨t15_0, ⟨t15_1_Err, t15_1_At⟩⟩) (fun hm h k => R_23_26.mono hm h k) rfl (fun ids H' fr => f9_ok e15) ?_
    rintro v B2 ⟨abB2, ivB2⟩ ⟨a_t15_0, c_t15_0, rfl, g_t15_0⟩
    refine ⟨_, rfl, ?_⟩
    refine WJ.cn 212 hp rfl rfl rfl rfl rfl rfl rfl rfl rfl (fun hc20 hp => ?_) (fun hc20 hp => ?_)
    · refine WJ.ci 206 hp rfl rfl rfl rfl rfl rfl rfl rfl rfl (fun hc23 hp => ?_) (fun hc23 hp => ?_)
      · obtain ⟨t25, e25, hp⟩ := bindS hp
        refine WJ.cl 201 (R := R_4 t25) (fun hm h k => R_4.mono hm h k) rfl (fun ids H' fr => f8_ok e25) ?_
        rintro v B3 ⟨abB3, ivB3⟩ rfl
        refine ⟨_, rfl, ?_⟩
        replace g_t15_0 := g_t15_0.mono (Nat.le_refl _) (abB3.le (Nat.zero_le _))
        obtain rfl := endS (show some _ = some r from hp)
        exact WJ.rt 203 rfl rfl rfl (fun ids H' fr => ⟨fr.ext0, rfl⟩)
      · obtain rfl := endS (show some _ = some r from hp)
        exact WJ.rt 205 rfl rfl rfl (fun ids H' fr => ⟨fr.ext0, rfl⟩)
    · obtain ⟨⟨t29_0, t29_1⟩, e29, hp⟩ := bindS hp
      refine WJ.cl 206 (R := R_9_24 ⟨t29_0, t29_1⟩) (fun hm h k => R_9_24.mono hm h k) rfl (fun ids H' fr => f24_ok (g_t15_0.mono (Nat.zero_le _) (fr.abv.le (Nat.zero_le _))) e29) ?_
      rintro v B4 ⟨abB4, ivB4⟩ rfl
      refine ⟨_, rfl, ?_⟩
      replace g_t15_0 := g_t15_0.mono (Nat.le_refl _) (abB4.le (Nat.zero_le _))
      refine WJ.cn 210 hp rfl rfl rfl rfl rfl rfl rfl rfl rfl (fun hc33 hp => ?_) (fun hc33 hp => ?_)
      · refine WJ.ci 205 hp rfl rfl rfl rfl rfl rfl rfl rfl rfl (fun hc35 hp => ?_) (fun hc35 hp => ?_)
        · obtain ⟨t37, e37, hp⟩ := bindS hp
          refine WJ.cl 201 (R := R_4 t37) (fun hm h k => R_4.mono hm h k) rfl (fun ids H' fr => f8_ok e37) ?_
          rintro v B5 ⟨abB5, ivB5⟩ rfl
          refine ⟨_, rfl, ?_⟩
          replace g_t15_0 := g_t15_0.mono (Nat.le_refl _) (abB5.le (Nat.zero_le _))
          obtain rfl := endS (show some _ = some r from hp)
          exact WJ.rt 203 rfl rfl rfl (fun ids H' fr => ⟨fr.ext0, rfl⟩)
        · obtain rfl := endS (show some _ = some r from hp)
          exact WJ.rt 205 rfl rfl rfl (fun ids H' fr => ⟨fr.ext0, rfl⟩)
      · obtain ⟨⟨t41_0, ⟨t41_1_Err, t41_1_At⟩⟩, e41, hp⟩ := bindS hp
        refine WJ.cl 206 (R := R_23_26 ⟨t41_0, ⟨t41_1_Err, t41_1_At⟩⟩) (fun hm h k => R_23_26.mono hm h k) rfl (fun ids H' fr => f9_ok e41) ?_
        rintro v B6 ⟨abB6, ivB6⟩ ⟨a_t41_0, c_t41_0, rfl, g_t41_0⟩
        refine ⟨_, rfl, ?_⟩
        replace g_t15_0 := g_t15_0.mono (Nat.le_refl _) (abB6.le (Nat.zero_le _))
        refine WJ.ci 211 hp rfl rfl rfl rfl rfl rfl (opD_eqS rfl rfl rfl rfl gd26 (eq26 t41_1_Err t41_1_At 0 0)) rfl rfl (fun hc46 hp => ?_) (fun hc46 hp => ?_)
        · obtain ⟨t50, e50, hp⟩ := bindS hp
          refine WJ.cl 203 (R := R_4 t50) (fun hm h k => R_4.mono hm h k) rfl (fun ids H' fr => f11_ok (g_t15_0.mono (Nat.zero_le _) (fr.abv.le (Nat.zero_le _))) (g_t41_0.mono (Nat.zero_le _) (fr.abv.le (Nat.zero_le _))) e50) ?_
          rintro v B7 ⟨abB7, ivB7⟩ rfl
          refine ⟨_, rfl, ?_⟩
          replace g_t15_0 := g_t15_0.mono (Nat.le_refl _) (abB7.le (Nat.zero_le _))
          replace g_t41_0 := g_t41_0.mono (Nat.le_refl _) (abB7.le (Nat.zero_le _))
          cases t50
          · replace hp := (itS hp).2 Bool.false_ne_true
            obtain rfl := endS (show some _ = some r from hp)
            exact WJ.rt 206 rfl rfl rfl (fun ids H' fr => ⟨fr.ext0, rfl⟩)
          · replace hp := (itS hp).1 rfl
            obtain ⟨t53, e53, hp⟩ := bindS hp
            refine WJ.cl 202 (R := R_4 t53) (fun hm h k => R_4.mono hm h k) rfl (fun ids H' fr => f8_ok e53) ?_
            rintro v B8 ⟨abB8, ivB8⟩ rfl
            refine ⟨_, rfl, ?_⟩
            replace g_t15_0 := g_t15_0.mono (Nat.le_refl _) (abB8.le (Nat.zero_le _))
            replace g_t41_0 := g_t41_0.mono (Nat.le_refl _) (abB8.le (Nat.zero_le _))
            obtain rfl := endS (show some _ = some r from hp)
            exact WJ.rt 203 rfl rfl rfl (fun ids H' fr => ⟨fr.ext0, rfl⟩)
        · obtain rfl := endS (show some _ = some r from hp)
          exact WJ.rt 210 rfl rfl rfl (fun ids H' fr => ⟨fr.ext0, rfl⟩)
end
end Go.Proofs.YtgmejigjajcbfaaGreatDoor

set_option linter.unusedVariables false
namespace Go.Proofs.YtgmejigjajcbfaaGreatDoor
open Go Go.Det Go.RowKit
theorem ul9 : Tryz.prog.underlying 9 = some .string := by kernel_rfl
def ok9 (x : List UInt8) : Prop := x.length ≤ reachBytes
theorem rd9 {H : Hp} {cs : List Value} (h : Rd Tryz.prog H 9 cs) : ∃ x : List UInt8, Cod.rep strC 0 H cs x ∧ ok9 x := by
  obtain ⟨x, rfl, hx⟩ := h.str_inv ul9
  exact ⟨x, rfl, hx⟩
def Pure7 : Prop := ∀ (x0 : List UInt8), ok9 x0 → ∃ k : Nat, f7 k x0 = some true
theorem law7 (hp : Pure7) (H : Hp) (args : List Value) (_ : Tryz.prog.globals.size ≤ H.next) (h : RdArgs Tryz.prog H Tryz.f7.params.toList args) : SCall Tryz.prog 7 args H (fun e _ => e = .ret (.bool true)) := by
  replace h : RdArgs Tryz.prog H [9] args := h
  obtain ⟨v0, args0, ea0, h0, h⟩ := h.scal (by kernel_rfl)
  obtain ⟨x0, e0, k0⟩ := rd9 h0
  obtain rfl := (List.cons.inj e0).1
  obtain rfl := h.nil_inv
  subst ea0
  obtain ⟨k, hk⟩ := hp x0 k0
  exact (f7_ok hk).mono fun e H' ⟨v, h1, _, h2⟩ => by rw [h1, h2]
end Go.Proofs.YtgmejigjajcbfaaGreatDoor
