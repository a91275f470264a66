import Derived.Test.YtgmejigjajcbfaaGreatDoorSM
import Derived.Test.YtgmejigjajcbfaaGreatDoorST
import Derived.Test.YtgmejigjajcbfaaGreatDoorD51
set_option linter.unusedVariables false
set_option linter.unusedSimpArgs false
namespace Go.Proofs.YtgmejigjajcbfaaGreatDoor
open Go Go.Det Go.RowKit
noncomputable section
/-! 51 tipstaff/row.blank -/
def f51 (x0 : Int) : Option Bool :=
  if x0 = 32 then
    some true
  else
    (some (x0 == 9)).bind fun t7 =>
    some t7
set_option maxRecDepth 20000 in
theorem f51_ok {H : Hp} {x0 : Int} {r : Bool} (hp : f51 x0 = some r) :
    SCall Tryz.prog 51 [.int .u8 x0] H (Ret fun v H' => Ext H H' ∧ R_4 r H.next H' v) := by
  unfold f51 at hp
  replace hp := topS hp
  refine SCall.g Tryz.func51 rfl rfl rfl rfl rfl (l := [(0, .v (.int .u8 x0))]) (fun _ => rfl) (fun B abB => ?_)
  refine WJ.ci 207 hp rfl rfl rfl rfl rfl rfl rfl rfl rfl (fun hc4 hp => ?_) (fun hc4 hp => ?_)
  · obtain rfl := endS (show some _ = some r from hp)
    exact WJ.rt 206 rfl rfl rfl (fun ids H' fr => ⟨fr.ext0, rfl⟩)
  · obtain ⟨t7, e7, hp⟩ := bindS hp
    refine WJ.cv 202 (b := t7) (H0 := ⟨.nil, 0, 0⟩) rfl rfl rfl rfl rfl rfl (by rw [← endS e7]; exact rfl) rfl ?_
    obtain rfl := endS (show some _ = some r from hp)
    exact WJ.rt 203 rfl rfl rfl (fun ids H' fr => ⟨fr.ext0, rfl⟩)
/-! 42 tipstaff/row.letter -/
def f42 (x0 : Int) : Option Bool :=
  if x0 ≥ 97 then
    if x0 ≤ 122 then
      some true
    else
      if x0 ≥ 65 then
        (some (decide (x0 ≤ 90))).bind fun t14 =>
        some t14
      else
        some false
  else
    if x0 ≥ 65 then
      (some (decide (x0 ≤ 90))).bind fun t14 =>
      some t14
    else
      some false
set_option maxRecDepth 20000 in
theorem f42_ok {H : Hp} {x0 : Int} {r : Bool} (hp : f42 x0 = some r) :
    SCall Tryz.prog 42 [.int .i32 x0] H (Ret fun v H' => Ext H H' ∧ R_4 r H.next H' v) := by
  unfold f42 at hp
  replace hp := topS hp
  refine SCall.g Tryz.func42 rfl rfl rfl rfl rfl (l := [(0, .v (.int .i32 x0))]) (fun _ => rfl) (fun B abB => ?_)
  refine WJ.ci 207 hp rfl rfl rfl rfl rfl rfl rfl rfl rfl (fun hc4 hp => ?_) (fun hc4 hp => ?_)
  · refine WJ.ci 202 hp rfl rfl rfl rfl rfl rfl rfl rfl rfl (fun hc7 hp => ?_) (fun hc7 hp => ?_)
    · obtain rfl := endS (show some _ = some r from hp)
      exact WJ.rt 211 rfl rfl rfl (fun ids H' fr => ⟨fr.ext0, rfl⟩)
    · refine WJ.ci 203 hp rfl rfl rfl rfl rfl rfl rfl rfl rfl (fun hc11 hp => ?_) (fun hc11 hp => ?_)
      · obtain ⟨t14, e14, hp⟩ := bindS hp
        refine WJ.cv 202 (b := t14) (H0 := ⟨.nil, 0, 0⟩) rfl rfl rfl rfl rfl rfl (by rw [← endS e14]; exact rfl) rfl ?_
        obtain rfl := endS (show some _ = some r from hp)
        exact WJ.rt 204 rfl rfl rfl (fun ids H' fr => ⟨fr.ext0, rfl⟩)
      · obtain rfl := endS (show some _ = some r from hp)
        exact WJ.rt 207 rfl rfl rfl (fun ids H' fr => ⟨fr.ext0, rfl⟩)
  · refine WJ.ci 206 hp rfl rfl rfl rfl rfl rfl rfl rfl rfl (fun hc11 hp => ?_) (fun hc11 hp => ?_)
    · obtain ⟨t14, e14, hp⟩ := bindS hp
      refine WJ.cv 202 (b := t14) (H0 := ⟨.nil, 0, 0⟩) rfl rfl rfl rfl rfl rfl (by rw [← endS e14]; exact rfl) rfl ?_
      obtain rfl := endS (show some _ = some r from hp)
      exact WJ.rt 204 rfl rfl rfl (fun ids H' fr => ⟨fr.ext0, rfl⟩)
    · obtain rfl := endS (show some _ = some r from hp)
      exact WJ.rt 207 rfl rfl rfl (fun ids H' fr => ⟨fr.ext0, rfl⟩)
/-! 70 tipstaff/row.digit -/
def f70 (x0 : Int) : Option (Int × Bool) :=
  (f85 ([48, 49, 50, 51, 52, 53, 54, 55, 56, 57, 97, 98, 99, 100, 101, 102] : List UInt8) (bits .or .u8 x0 32)).bind fun t7 =>
  (if x0 ≥ 48 then
    if x0 ≤ 57 then
      (f85 ([48, 49, 50, 51, 52, 53, 54, 55, 56, 57, 97, 98, 99, 100, 101, 102] : List UInt8) x0).bind fun t15 =>
      some (t15)
    else
      some (t7)
  else
    some (t7)).bind fun x4_1 =>
    if x4_1 ≥ 0 then
      if x0 ≥ 48 then
        if x0 ≤ 57 then
          some (IntKind.u8.wrap (gmax x4_1 0), true)
        else
          (f42 (IntKind.i32.wrap x0)).bind fun t31 =>
          some (IntKind.u8.wrap (gmax x4_1 0), t31)
      else
        (f42 (IntKind.i32.wrap x0)).bind fun t31 =>
        some (IntKind.u8.wrap (gmax x4_1 0), t31)
    else
      some (IntKind.u8.wrap (gmax x4_1 0), false)
set_option maxRecDepth 20000 in
theorem f70_ok {H : Hp} {x0 : Int} {r : Int × Bool} (hp : f70 x0 = some r) :
    SCall Tryz.prog 70 [.int .u8 x0] H (Ret fun v H' => Ext H H' ∧ R_5_4 r H.next H' v) := by
  unfold f70 at hp
  replace hp := topS hp
  refine SCall.g Tryz.func70 rfl rfl rfl rfl rfl (l := [(0, .v (.int .u8 x0))]) (fun _ => rfl) (fun B abB => ?_)
  obtain ⟨t7, e7, hp⟩ := bindS hp
  refine WJ.cl 209 (R := R_3 t7) (fun hm h k => R_3.mono hm h k) rfl (fun ids H' fr => f85_ok e7) ?_
  rintro v B1 ⟨abB1, ivB1⟩ rfl
  refine ⟨_, rfl, ?_⟩
  refine WJ.adv 4 rfl ?_
  obtain ⟨K1, hK1, hp⟩ : ∃ K, K = _ ∧ Option.bind _ K = some r := ⟨_, rfl, cutS hp⟩
  refine WJ.cut 2 (α := Int × Hp) (fun y => [(0, .v (.int .u8 x0)), (4, .v (.int .i64 y.1))]) (fun y => []) (fun y => []) (fun y => y.2) (fun y => K1 ((y.1)) = some r) ?_ (fun j1 => ?_)
  · rintro ⟨x4_1, B3⟩ hp
    subst hK1
    show WJ _ _ _ B3 [] _ _ ⟨[(0, .v (.int .u8 x0)), (4, .v (.int .i64 x4_1))], [], true, 0⟩
    refine WJ.hd (v := .int .i64 (gmax x4_1 0)) 203 rfl rfl rfl rfl (fun ids H' fr => opD_max rfl rfl rfl (evV_eq (v := .v (.int .i64 x4_1)) _ _ _ _ _ rfl) (evV_eq (v := .v (.int .i64 0)) _ _ _ _ _ rfl)) rfl ?_
    refine WJ.ci 202 hp rfl rfl rfl rfl rfl rfl rfl rfl rfl (fun hc20 hp => ?_) (fun hc20 hp => ?_)
    · refine WJ.ci 202 hp rfl rfl rfl rfl rfl rfl rfl rfl rfl (fun hc23 hp => ?_) (fun hc23 hp => ?_)
      · refine WJ.ci 202 hp rfl rfl rfl rfl rfl rfl rfl rfl rfl (fun hc26 hp => ?_) (fun hc26 hp => ?_)
        · obtain rfl := endS (show some _ = some r from hp)
          exact WJ.rt 210 rfl rfl rfl (fun ids H' fr => ⟨fr.ext0, rfl⟩)
        · obtain ⟨t31, e31, hp⟩ := bindS hp
          refine WJ.cl 204 (R := R_4 t31) (fun hm h k => R_4.mono hm h k) rfl (fun ids H' fr => f42_ok e31) ?_
          rintro v B4 ⟨abB4, ivB4⟩ rfl
          refine ⟨_, rfl, ?_⟩
          obtain rfl := endS (show some _ = some r from hp)
          exact WJ.rt 205 rfl rfl rfl (fun ids H' fr => ⟨fr.ext0, rfl⟩)
      · obtain ⟨t31, e31, hp⟩ := bindS hp
        refine WJ.cl 207 (R := R_4 t31) (fun hm h k => R_4.mono hm h k) rfl (fun ids H' fr => f42_ok e31) ?_
        rintro v B5 ⟨abB5, ivB5⟩ rfl
        refine ⟨_, rfl, ?_⟩
        obtain rfl := endS (show some _ = some r from hp)
        exact WJ.rt 205 rfl rfl rfl (fun ids H' fr => ⟨fr.ext0, rfl⟩)
    · obtain rfl := endS (show some _ = some r from hp)
      exact WJ.rt 216 rfl rfl rfl (fun ids H' fr => ⟨fr.ext0, rfl⟩)
  · refine WJ.ci 202 hp rfl rfl rfl rfl rfl rfl rfl rfl rfl (fun hc9 hp => ?_) (fun hc9 hp => ?_)
    · refine WJ.ci 202 hp rfl rfl rfl rfl rfl rfl rfl rfl rfl (fun hc12 hp => ?_) (fun hc12 hp => ?_)
      · obtain ⟨t15, e15, hp⟩ := bindS hp
        refine WJ.cl 205 (R := R_3 t15) (fun hm h k => R_3.mono hm h k) rfl (fun ids H' fr => f85_ok e15) ?_
        rintro v B2 ⟨abB2, ivB2⟩ rfl
        refine ⟨_, rfl, ?_⟩
        exact WJ.goto 2 (j1 (t15, B2) hp) rfl rfl (by exact ⟨rfl, rfl, trivial⟩) rfl rfl rfl
      · exact WJ.goto 4 (j1 (t7, B1) hp) rfl rfl (by exact ⟨rfl, rfl, trivial⟩) rfl rfl rfl
    · exact WJ.goto 7 (j1 (t7, B1) hp) rfl rfl (by exact ⟨rfl, rfl, trivial⟩) rfl rfl rfl
/-! 56 tipstaff/row.escape -/
def f56 (x0 : List UInt8) : Option (Int × Int) :=
  if x0 = ([] : List UInt8) then
    some (0, 0)
  else
    (rd x0 0).bind fun b13 =>
    if ((b13.toNat : Nat) : Int) = 34 then
      (rd x0 0).bind fun b21 =>
      some (((b21.toNat : Nat) : Int), 1)
    else
      (rd x0 0).bind fun b17 =>
      if ((b17.toNat : Nat) : Int) = 92 then
        (rd x0 0).bind fun b21 =>
        some (((b21.toNat : Nat) : Int), 1)
      else
        (rd x0 0).bind fun b24 =>
        if ((b24.toNat : Nat) : Int) = 120 then
          if (x0.length : Int) < 3 then
            some (0, 0)
          else
            (rd x0 1).bind fun b33 =>
            (f70 ((b33.toNat : Nat) : Int)).bind fun (t34_0, t34_1) =>
            (rd x0 2).bind fun b39 =>
            (f70 ((b39.toNat : Nat) : Int)).bind fun (t40_0, t40_1) =>
            if t34_1 then
              if t40_1 then
                some (bits .or .u8 (gshl .u8 t34_0 4) t40_0, 3)
              else
                some (0, 0)
            else
              some (0, 0)
        else
          some (0, 0)
set_option maxRecDepth 20000 in
theorem f56_ok {H : Hp} {x0 : List UInt8} {r : Int × Int} (hp : f56 x0 = some r) :
    SCall Tryz.prog 56 [.string (bs x0)] H (Ret fun v H' => Ext H H' ∧ R_5_3 r H.next H' v) := by
  unfold f56 at hp
  replace hp := topS hp
  refine SCall.g Tryz.func56 rfl rfl rfl rfl rfl (l := [(0, .v (.string (bs x0)))]) (fun _ => rfl) (fun B abB => ?_)
  refine WJ.ci 210 hp rfl rfl rfl rfl rfl rfl (opD_streq rfl rfl rfl) rfl rfl (fun hc10 hp => ?_) (fun hc10 hp => ?_)
  · obtain rfl := endS (show some _ = some r from hp)
    exact WJ.rt 208 rfl rfl rfl (fun ids H' fr => ⟨fr.ext0, rfl⟩)
  · obtain ⟨b13, e13, hp⟩ := bindS hp
    refine WJ.hd (v := .int .u8 ((b13.toNat : Nat) : Int)) 206 rfl rfl rfl rfl (fun ids H' fr => opD_index rfl (evV_eq _ _ _ _ _ rfl) (evV_eq _ _ _ _ _ rfl) (sidx us9 e13)) rfl ?_
    refine WJ.ci 200 hp rfl rfl rfl rfl rfl rfl rfl rfl rfl (fun hc14 hp => ?_) (fun hc14 hp => ?_)
    · obtain ⟨b21, e21, hp⟩ := bindS hp
      refine WJ.hd (v := .int .u8 ((b21.toNat : Nat) : Int)) 211 rfl rfl rfl rfl (fun ids H' fr => opD_index rfl (evV_eq _ _ _ _ _ rfl) (evV_eq _ _ _ _ _ rfl) (sidx us9 e21)) rfl ?_
      obtain rfl := endS (show some _ = some r from hp)
      exact WJ.rt 203 rfl rfl rfl (fun ids H' fr => ⟨fr.ext0, rfl⟩)
    · obtain ⟨b17, e17, hp⟩ := bindS hp
      refine WJ.hd (v := .int .u8 ((b17.toNat : Nat) : Int)) 202 rfl rfl rfl rfl (fun ids H' fr => opD_index rfl (evV_eq _ _ _ _ _ rfl) (evV_eq _ _ _ _ _ rfl) (sidx us9 e17)) rfl ?_
      refine WJ.ci 200 hp rfl rfl rfl rfl rfl rfl rfl rfl rfl (fun hc18 hp => ?_) (fun hc18 hp => ?_)
      · obtain ⟨b21, e21, hp⟩ := bindS hp
        refine WJ.hd (v := .int .u8 ((b21.toNat : Nat) : Int)) 207 rfl rfl rfl rfl (fun ids H' fr => opD_index rfl (evV_eq _ _ _ _ _ rfl) (evV_eq _ _ _ _ _ rfl) (sidx us9 e21)) rfl ?_
        obtain rfl := endS (show some _ = some r from hp)
        exact WJ.rt 203 rfl rfl rfl (fun ids H' fr => ⟨fr.ext0, rfl⟩)
      · obtain ⟨b24, e24, hp⟩ := bindS hp
        refine WJ.hd (v := .int .u8 ((b24.toNat : Nat) : Int)) 207 rfl rfl rfl rfl (fun ids H' fr => opD_index rfl (evV_eq _ _ _ _ _ rfl) (evV_eq _ _ _ _ _ rfl) (sidx us9 e24)) rfl ?_
        refine WJ.cn 200 hp rfl rfl rfl rfl rfl rfl rfl rfl rfl (fun hc25 hp => ?_) (fun hc25 hp => ?_)
        · obtain rfl := endS (show some _ = some r from hp)
          exact WJ.rt 213 rfl rfl rfl (fun ids H' fr => ⟨fr.ext0, rfl⟩)
        · refine WJ.ci 203 hp rfl rfl rfl rfl rfl rfl rfl rfl rfl (fun hc29 hp => ?_) (fun hc29 hp => ?_)
          · obtain rfl := endS (show some _ = some r from hp)
            exact WJ.rt 209 rfl rfl rfl (fun ids H' fr => ⟨fr.ext0, rfl⟩)
          · obtain ⟨b33, e33, hp⟩ := bindS hp
            refine WJ.hd (v := .int .u8 ((b33.toNat : Nat) : Int)) 209 rfl rfl rfl rfl (fun ids H' fr => opD_index rfl (evV_eq _ _ _ _ _ rfl) (evV_eq _ _ _ _ _ rfl) (sidx us9 e33)) rfl ?_
            obtain ⟨⟨t34_0, t34_1⟩, e34, hp⟩ := bindS hp
            refine WJ.cl 200 (R := R_5_4 ⟨t34_0, t34_1⟩) (fun hm h k => R_5_4.mono hm h k) rfl (fun ids H' fr => f70_ok e34) ?_
            rintro v B1 ⟨abB1, ivB1⟩ rfl
            refine ⟨_, rfl, ?_⟩
            obtain ⟨b39, e39, hp⟩ := bindS hp
            refine WJ.hd (v := .int .u8 ((b39.toNat : Nat) : Int)) 209 rfl rfl rfl rfl (fun ids H' fr => opD_index rfl (evV_eq _ _ _ _ _ rfl) (evV_eq _ _ _ _ _ rfl) (sidx us9 e39)) rfl ?_
            obtain ⟨⟨t40_0, t40_1⟩, e40, hp⟩ := bindS hp
            refine WJ.cl 200 (R := R_5_4 ⟨t40_0, t40_1⟩) (fun hm h k => R_5_4.mono hm h k) rfl (fun ids H' fr => f70_ok e40) ?_
            rintro v B2 ⟨abB2, ivB2⟩ rfl
            refine ⟨_, rfl, ?_⟩
            cases t34_1
            · replace hp := (itS hp).2 Bool.false_ne_true
              obtain rfl := endS (show some _ = some r from hp)
              exact WJ.rt 222 rfl rfl rfl (fun ids H' fr => ⟨fr.ext0, rfl⟩)
            · replace hp := (itS hp).1 rfl
              cases t40_1
              · replace hp := (itS hp).2 Bool.false_ne_true
                obtain rfl := endS (show some _ = some r from hp)
                exact WJ.rt 222 rfl rfl rfl (fun ids H' fr => ⟨fr.ext0, rfl⟩)
              · replace hp := (itS hp).1 rfl
                refine WJ.hd (v := .int .u8 (gshl .u8 t34_0 4)) 221 rfl rfl rfl rfl (fun ids H' fr => opD_bin rfl (evV_eq _ _ _ _ _ rfl) (evV_eq _ _ _ _ _ rfl) (bin_shl (by decide))) rfl ?_
                obtain rfl := endS (show some _ = some r from hp)
                exact WJ.rt 205 rfl rfl rfl (fun ids H' fr => ⟨fr.ext0, rfl⟩)
/-! 37 tipstaff/row.plain -/
def f37 (x0 : Int) (x1 : Int) : Option Bool :=
  if x0 = 34 then
    some false
  else
    if x0 = 92 then
      some false
    else
      if x1 = 1 then
        if x0 ≥ 32 then
          (some (decide (x0 ≤ 126))).bind fun t19 =>
          some t19
        else
          some false
      else
        (some (decide (x0 ≥ 160))).bind fun t22 =>
        some t22
set_option maxRecDepth 20000 in
theorem f37_ok {H : Hp} {x0 : Int} {x1 : Int} {r : Bool} (hp : f37 x0 x1 = some r) :
    SCall Tryz.prog 37 [.int .i32 x0, .int .i64 x1] H (Ret fun v H' => Ext H H' ∧ R_4 r H.next H' v) := by
  unfold f37 at hp
  replace hp := topS hp
  refine SCall.g Tryz.func37 rfl rfl rfl rfl rfl (l := [(0, .v (.int .i32 x0)), (1, .v (.int .i64 x1))]) (fun _ => rfl) (fun B abB => ?_)
  refine WJ.ci 209 hp rfl rfl rfl rfl rfl rfl rfl rfl rfl (fun hc7 hp => ?_) (fun hc7 hp => ?_)
  · obtain rfl := endS (show some _ = some r from hp)
    exact WJ.rt 211 rfl rfl rfl (fun ids H' fr => ⟨fr.ext0, rfl⟩)
  · refine WJ.ci 202 hp rfl rfl rfl rfl rfl rfl rfl rfl rfl (fun hc10 hp => ?_) (fun hc10 hp => ?_)
    · obtain rfl := endS (show some _ = some r from hp)
      exact WJ.rt 208 rfl rfl rfl (fun ids H' fr => ⟨fr.ext0, rfl⟩)
    · refine WJ.ci 207 hp rfl rfl rfl rfl rfl rfl rfl rfl rfl (fun hc14 hp => ?_) (fun hc14 hp => ?_)
      · refine WJ.ci 206 hp rfl rfl rfl rfl rfl rfl rfl rfl rfl (fun hc16 hp => ?_) (fun hc16 hp => ?_)
        · obtain ⟨t19, e19, hp⟩ := bindS hp
          refine WJ.cv 202 (b := t19) (H0 := ⟨.nil, 0, 0⟩) rfl rfl rfl rfl rfl rfl (by rw [← endS e19]; exact rfl) rfl ?_
          obtain rfl := endS (show some _ = some r from hp)
          exact WJ.rt 203 rfl rfl rfl (fun ids H' fr => ⟨fr.ext0, rfl⟩)
        · obtain rfl := endS (show some _ = some r from hp)
          exact WJ.rt 206 rfl rfl rfl (fun ids H' fr => ⟨fr.ext0, rfl⟩)
      · obtain ⟨t22, e22, hp⟩ := bindS hp
        refine WJ.cv 208 (b := t22) (H0 := ⟨.nil, 0, 0⟩) rfl rfl rfl rfl rfl rfl (by rw [← endS e22]; exact rfl) rfl ?_
        obtain rfl := endS (show some _ = some r from hp)
        exact WJ.rt 202 rfl rfl rfl (fun ids H' fr => ⟨fr.ext0, rfl⟩)
/-! 31 tipstaff/row.unquote -/
def f31_l1 (x0 : List UInt8) : Nat → (List UInt8) → Int → Option (((List UInt8) × Int) ⊕ ((List UInt8)))
  | 0, _, _ => none
  | n + 1, l1_h3, x5_h3 =>
    if x5_h3 < (x0.length : Int) then
      (sub x0 x5_h3 (x0.length : Int)).bind fun s24u1 =>
      (f35 s24u1).bind fun (t25u1_0, t25u1_1) =>
      if t25u1_0 = 34 then
        (apd 1 l1_h3 ([] : List UInt8)).bind fun lB31u1 =>
        some (Sum.inl ((l1_h3, IntKind.i64.wrap (x5_h3 + 1)) : (List UInt8) × Int))
      else
        if t25u1_0 = 92 then
          (sub x0 (IntKind.i64.wrap (x5_h3 + 1)) (x0.length : Int)).bind fun s41u1 =>
          (f56 s41u1).bind fun (t42u1_0, t42u1_1) =>
          if t42u1_1 = 0 then
            some (Sum.inr l1_h3)
          else
            (c8 t42u1_0).bind fun uB48u1 =>
            (apd 1 l1_h3 ([uB48u1])).bind fun lB48u1 =>
            f31_l1 x0 n lB48u1 (IntKind.i64.wrap (x5_h3 + (IntKind.i64.wrap (1 + t42u1_1))))
        else
          (f37 t25u1_0 t25u1_1).bind fun t56 =>
          if t56 then
            (sub x0 x5_h3 (IntKind.i64.wrap (x5_h3 + t25u1_1))).bind fun s63 =>
            (apd 1 l1_h3 s63).bind fun lB64 =>
            f31_l1 x0 n lB64 (IntKind.i64.wrap (x5_h3 + t25u1_1))
          else
            some (Sum.inr l1_h3)
    else
      some (Sum.inr l1_h3)

def f31 (k : Nat) (x0 : List UInt8) : Option ((List UInt8) × Int) :=
  if x0 = ([] : List UInt8) then
    some (([] : List UInt8), 0)
  else
    (rd x0 0).bind fun b14 =>
    if ((b14.toNat : Nat) : Int) = 34 then
      (f31_l1 x0 k ([]) 1).bind fun s => match s with
        | .inl st => some st
        | .inr l1_3 => 
          some (([] : List UInt8), 0)
    else
      some (([] : List UInt8), 0)
set_option maxHeartbeats 3200000 in
set_option maxRecDepth 20000 in
theorem f31_ok {k : Nat} {H : Hp} {x0 : List UInt8} {r : (List UInt8) × Int} (hp : f31 k x0 = some r) :
    SCall Tryz.prog 31 [.string (bs x0)] H (Ret fun v H' => Ext H H' ∧ R_9_3 r H.next H' v) := by
  unfold f31 at hp
  replace hp := topS hp
  refine SCall.g Tryz.func31 rfl rfl rfl rfl rfl (l := [(0, .v (.string (bs x0)))]) (fun _ => rfl) (fun B abB => ?_)
  refine WJ.nb (U := 5) 208 rfl rfl rfl rfl rfl bzero bis rfl rfl ?_
  intro bw4
  refine ⟨_, rfl, ?_⟩
  refine WJ.ci 205 hp rfl rfl rfl rfl rfl rfl (opD_streq rfl rfl rfl) rfl rfl (fun hc11 hp => ?_) (fun hc11 hp => ?_)
  · obtain rfl := endS (show some _ = some r from hp)
    exact WJ.rt 212 rfl rfl rfl (fun ids H' fr => ⟨fr.ext0, rfl⟩)
  · obtain ⟨b14, e14, hp⟩ := bindS hp
    refine WJ.hd (v := .int .u8 ((b14.toNat : Nat) : Int)) 202 rfl rfl rfl rfl (fun ids H' fr => opD_index rfl (evV_eq _ _ _ _ _ rfl) (evV_eq _ _ _ _ _ rfl) (sidx us9 e14)) rfl ?_
    refine WJ.cn 200 hp rfl rfl rfl rfl rfl rfl rfl rfl rfl (fun hc15 hp => ?_) (fun hc15 hp => ?_)
    · obtain rfl := endS (show some _ = some r from hp)
      exact WJ.rt 208 rfl rfl rfl (fun ids H' fr => ⟨fr.ext0, rfl⟩)
    · refine WJ.adv 12 rfl ?_
      obtain ⟨K3, hK3, hp⟩ : ∃ K, K = _ ∧ Option.bind _ K = some r := ⟨_, rfl, cutS hp⟩
      refine WJ.cut 2 (α := (List UInt8) × (Option Addr) × Nat × Hp) (fun y => []) (fun y => []) (fun y => [bldS 63 bw4 y.2.1 y.1, bldB 5 y.2.1 y.1]) (fun y => y.2.2.2) (fun y => K3 (Sum.inr y.1) = some r) ?_ (fun j3 => ?_)
      · rintro ⟨l1_3, a1_3, c1_3, B5⟩ hp
        subst hK3
        show WJ _ _ _ B5 [bldS 63 bw4 a1_3 l1_3, bldB 5 a1_3 l1_3] _ _ ⟨[], [], true, 0⟩
        obtain rfl := endS (show some _ = some r from hp)
        exact WJ.rt 205 rfl rfl rfl (fun ids H' fr => ⟨fr.ext0, rfl⟩)
      · refine WJ.lp 200 (α := Nat × (List UInt8) × Int × (Option Addr) × Nat × Hp) (fun y => [(0, .v (.string (bs x0))), (4, .v (.pointer (some ⟨bw4, 0, none⟩))), (5, .v (.int .i64 y.2.2.1))]) (fun y => []) (fun y => [bldS 63 bw4 y.2.2.2.1 y.2.1, bldB 5 y.2.2.2.1 y.2.1]) (fun y => y.2.2.2.2.2) (fun y => y.1) (fun y => Option.bind (f31_l1 x0 y.1 y.2.1 y.2.2.1) K3 = some r) (k, ([] : List UInt8), 1, none, 0, B) rfl hp (by exact ⟨rfl, rfl, rfl, trivial⟩) rfl rfl rfl ?_
        rintro ⟨n, l1_h3, x5_h3, a1_h3, c1_h3, B1⟩ hp ih3
        show WJ _ _ _ B1 [bldS 63 bw4 a1_h3 l1_h3, bldB 5 a1_h3 l1_h3] _ _ ⟨[(0, .v (.string (bs x0))), (4, .v (.pointer (some ⟨bw4, 0, none⟩))), (5, .v (.int .i64 x5_h3))], [], true, 0⟩
        replace hp : Option.bind (f31_l1 x0 n l1_h3 x5_h3) K3 = some r := hp
        cases n with
        | zero => rw [f31_l1] at hp; exact (noS hp).elim
        | succ n =>
          rw [f31_l1] at hp
          refine WJ.ci 206 hp rfl rfl rfl rfl rfl rfl rfl rfl rfl (fun hc20u1 hp => ?_) (fun hc20u1 hp => ?_)
          · obtain ⟨s24u1, e24u1, hp⟩ := bindS hp
            refine WJ.hd (v := .string (bs s24u1)) 208 rfl rfl rfl rfl (fun ids H' fr => opD_sl rfl (evV_eq _ _ _ _ _ rfl) (evV_eq _ _ _ _ _ rfl) (sliceD_l us9 e24u1)) rfl ?_
            obtain ⟨⟨t25u1_0, t25u1_1⟩, e25u1, hp⟩ := bindS hp
            refine WJ.cl 200 (R := R_21_3 ⟨t25u1_0, t25u1_1⟩) (fun hm h k => R_21_3.mono hm h k) rfl (fun ids H' fr => f35_ok e25u1) ?_
            rintro v B2 ⟨abB2, ivB2⟩ rfl
            refine ⟨_, rfl, ?_⟩
            refine WJ.ci 211 hp rfl rfl rfl rfl rfl rfl rfl rfl rfl (fun hc30u1 hp => ?_) (fun hc30u1 hp => ?_)
            · obtain ⟨lB31u1, eB31u1, hp⟩ := bindS hp
              obtain ⟨bdB31u1, rfl⟩ := apd_some eB31u1
              refine WJ.bg 205 0 rfl st_ok (fun _ => rfl) rfl rfl rfl (by simpa using bdB31u1) ?_
              refine ⟨_, rfl, ?_⟩
              subst hK3
              obtain rfl := endS (show some _ = some r from hp)
              exact WJ.rt 205 rfl rfl rfl (fun ids H' fr => ⟨fr.ext0, rfl⟩)
            · refine WJ.ci 206 hp rfl rfl rfl rfl rfl rfl rfl rfl rfl (fun hc36u1 hp => ?_) (fun hc36u1 hp => ?_)
              · obtain ⟨s41u1, e41u1, hp⟩ := bindS hp
                refine WJ.hd (v := .string (bs s41u1)) 208 rfl rfl rfl rfl (fun ids H' fr => opD_sl rfl (evV_eq _ _ _ _ _ rfl) (evV_eq _ _ _ _ _ rfl) (sliceD_l us9 e41u1)) rfl ?_
                obtain ⟨⟨t42u1_0, t42u1_1⟩, e42u1, hp⟩ := bindS hp
                refine WJ.cl 200 (R := R_5_3 ⟨t42u1_0, t42u1_1⟩) (fun hm h k => R_5_3.mono hm h k) rfl (fun ids H' fr => f56_ok e42u1) ?_
                rintro v B3 ⟨abB3, ivB3⟩ rfl
                refine ⟨_, rfl, ?_⟩
                refine WJ.ci 210 hp rfl rfl rfl rfl rfl rfl rfl rfl rfl (fun hc46u1 hp => ?_) (fun hc46u1 hp => ?_)
                · exact WJ.goto 3 (j3 (l1_h3, a1_h3, 0, B3) hp) rfl rfl (by exact trivial) rfl rfl rfl
                · obtain ⟨uB48u1, euB48u1, hp⟩ := bindS hp
                  obtain ⟨lB48u1, eB48u1, hp⟩ := bindS hp
                  obtain ⟨bdB48u1, rfl⟩ := apd_some eB48u1
                  refine WJ.bw 206 (s := [uB48u1]) 0 rfl (wb_ok euB48u1) (fun _ => rfl) rfl rfl rfl bdB48u1 ?_
                  intro aB48u1
                  refine ⟨_, rfl, ?_⟩
                  exact WJ.ag 210 rfl (by exact ⟨rfl, rfl, rfl, trivial⟩) rfl rfl rfl (ih3 (n, (l1_h3 ++ ([uB48u1])), IntKind.i64.wrap (x5_h3 + (IntKind.i64.wrap (1 + t42u1_1))), aB48u1, 0, B3) hp (Nat.lt_succ_self _))
              · obtain ⟨t56, e56, hp⟩ := bindS hp
                refine WJ.cl 207 (R := R_4 t56) (fun hm h k => R_4.mono hm h k) rfl (fun ids H' fr => f37_ok e56) ?_
                rintro v B4 ⟨abB4, ivB4⟩ rfl
                refine ⟨_, rfl, ?_⟩
                cases t56
                · replace hp := (itS hp).2 Bool.false_ne_true
                  exact WJ.goto 5 (j3 (l1_h3, a1_h3, 0, B4) hp) rfl rfl (by exact trivial) rfl rfl rfl
                · replace hp := (itS hp).1 rfl
                  obtain ⟨s63, e63, hp⟩ := bindS hp
                  refine WJ.hd (v := .string (bs s63)) 213 rfl rfl rfl rfl (fun ids H' fr => opD_slh rfl (evV_eq _ _ _ _ _ rfl) (evV_eq _ _ _ _ _ rfl) (evV_eq _ _ _ _ _ rfl) (sliceD_lh us9 e63)) rfl ?_
                  obtain ⟨lB64, eB64, hp⟩ := bindS hp
                  obtain ⟨bdB64, rfl⟩ := apd_some eB64
                  refine WJ.bw 200 (s := s63) 0 rfl (ws_ok s63) (fun _ => rfl) rfl rfl rfl bdB64 ?_
                  intro aB64
                  refine ⟨_, rfl, ?_⟩
                  exact WJ.ag 208 rfl (by exact ⟨rfl, rfl, rfl, trivial⟩) rfl rfl rfl (ih3 (n, (l1_h3 ++ s63), IntKind.i64.wrap (x5_h3 + t25u1_1), aB64, 0, B4) hp (Nat.lt_succ_self _))
          · exact WJ.goto 3 (j3 (l1_h3, a1_h3, 0, B1) hp) rfl rfl (by exact trivial) rfl rfl rfl
/-! 16 tipstaff/row.Name -/
def f16_l1 (x0 : List UInt8) : Nat → Nat → Option ((Bool) ⊕ (Unit))
  | 0, _ => none
  | n + 1, p0 =>
    if p0 < x0.length then
      (f42 (decL x0 p0)).bind fun t12 =>
      if t12 then
        f16_l1 x0 n (p0 + decN x0 p0)
      else
        if ((p0 : Nat) : Int) = 0 then
          some (Sum.inl (false : Bool))
        else
          if (decL x0 p0) = 45 then
            f16_l1 x0 n (p0 + decN x0 p0)
          else
            if (decL x0 p0) < 48 then
              some (Sum.inl (false : Bool))
            else
              if (decL x0 p0) > 57 then
                some (Sum.inl (false : Bool))
              else
                f16_l1 x0 n (p0 + decN x0 p0)
    else
      some (Sum.inr ())

def f16 (k : Nat) (x0 : List UInt8) : Option Bool :=
  (f16_l1 x0 k 0).bind fun s => match s with
    | .inl st => some st
    | .inr _ => 
      if x0 = ([] : List UInt8) then
        some false
      else
        (some (decide ((x0.length : Int) ≤ 16))).bind fun t35 =>
        some t35
set_option maxRecDepth 20000 in
theorem f16_ok {k : Nat} {H : Hp} {x0 : List UInt8} {r : Bool} (hp : f16 k x0 = some r) :
    SCall Tryz.prog 16 [.string (bs x0)] H (Ret fun v H' => Ext H H' ∧ R_4 r H.next H' v) := by
  unfold f16 at hp
  replace hp := topS hp
  refine SCall.g Tryz.func16 rfl rfl rfl rfl rfl (l := [(0, .v (.string (bs x0)))]) (fun _ => rfl) (fun B abB => ?_)
  refine WJ.rg 208 rfl rfl rfl rfl rfl us9 rfl ?_
  rintro b6 B1 ⟨abB1, ivB1⟩ h06 it6
  refine ⟨_, rfl, ?_⟩
  refine WJ.adv 2 rfl ?_
  obtain ⟨K4, hK4, hp⟩ : ∃ K, K = _ ∧ Option.bind _ K = some r := ⟨_, rfl, cutS hp⟩
  refine WJ.cut 2 (α := Hp) (fun y => [(0, .v (.string (bs x0)))]) (fun y => []) (fun y => []) (fun y => y) (fun y => K4 (Sum.inr ()) = some r) ?_ (fun j4 => ?_)
  · rintro B5 hp
    subst hK4
    show WJ _ _ _ B5 [] _ _ ⟨[(0, .v (.string (bs x0)))], [], true, 0⟩
    refine WJ.cn 203 hp rfl rfl rfl rfl rfl rfl (opD_strne rfl rfl rfl) rfl rfl (fun hc31 hp => ?_) (fun hc31 hp => ?_)
    · obtain ⟨t35, e35, hp⟩ := bindS hp
      refine WJ.cv 203 (b := t35) (H0 := ⟨.nil, 0, 0⟩) rfl rfl rfl rfl rfl rfl (by rw [← endS e35]; exact rfl) rfl ?_
      obtain rfl := endS (show some _ = some r from hp)
      exact WJ.rt 203 rfl rfl rfl (fun ids H' fr => ⟨fr.ext0, rfl⟩)
    · obtain rfl := endS (show some _ = some r from hp)
      exact WJ.rt 207 rfl rfl rfl (fun ids H' fr => ⟨fr.ext0, rfl⟩)
  · refine WJ.lp 200 (α := Nat × Nat × Hp) (fun y => [(0, .v (.string (bs x0))), (6, .v (.pointer (some ⟨b6, 0, none⟩)))]) (fun y => []) (fun y => []) (fun y => y.2.2) (fun y => y.1) (fun y => Option.bind (f16_l1 x0 y.1 y.2.1) K4 = some r ∧ y.2.2.get b6 = some (.iter (bs x0) y.2.1)) (k, 0, B1) rfl ⟨hp, it6⟩ (by exact ⟨rfl, rfl, trivial⟩) rfl rfl rfl ?_
    rintro ⟨n, p0, B2⟩ ⟨hp, it6⟩ ih4
    show WJ _ _ _ B2 [] _ _ ⟨[(0, .v (.string (bs x0))), (6, .v (.pointer (some ⟨b6, 0, none⟩)))], [], true, 0⟩
    replace hp : Option.bind (f16_l1 x0 n p0) K4 = some r := hp
    cases n with
    | zero => rw [f16_l1] at hp; exact (noS hp).elim
    | succ n =>
      rw [f16_l1] at hp
      refine WJ.nx 202 hp rfl rfl rfl rfl rfl rfl it6 h06 rfl rfl (fun hp B3 abB3 neB3 it_new => ?_) (fun hp => ?_)
      · replace it6 := it_new
        obtain ⟨t12, e12, hp⟩ := bindS hp
        refine WJ.cl 216 (R := R_4 t12) (fun hm h k => R_4.mono hm h k) rfl (fun ids H' fr => f42_ok e12) ?_
        rintro v B4 ⟨abB4, ivB4⟩ rfl
        refine ⟨_, rfl, ?_⟩
        replace it6 := ivB4 _ _ it6
        cases t12
        · replace hp := (itS hp).2 Bool.false_ne_true
          refine WJ.ci 203 hp rfl rfl rfl rfl rfl rfl rfl rfl rfl (fun hc16 hp => ?_) (fun hc16 hp => ?_)
          · subst hK4
            obtain rfl := endS (show some _ = some r from hp)
            exact WJ.rt 219 rfl rfl rfl (fun ids H' fr => ⟨fr.ext0, rfl⟩)
          · refine WJ.cn 202 hp rfl rfl rfl rfl rfl rfl rfl rfl rfl (fun hc19 hp => ?_) (fun hc19 hp => ?_)
            · refine WJ.ci 202 hp rfl rfl rfl rfl rfl rfl rfl rfl rfl (fun hc22 hp => ?_) (fun hc22 hp => ?_)
              · subst hK4
                obtain rfl := endS (show some _ = some r from hp)
                exact WJ.rt 213 rfl rfl rfl (fun ids H' fr => ⟨fr.ext0, rfl⟩)
              · refine WJ.ci 202 hp rfl rfl rfl rfl rfl rfl rfl rfl rfl (fun hc25 hp => ?_) (fun hc25 hp => ?_)
                · subst hK4
                  obtain rfl := endS (show some _ = some r from hp)
                  exact WJ.rt 210 rfl rfl rfl (fun ids H' fr => ⟨fr.ext0, rfl⟩)
                · exact WJ.ag 208 rfl (by exact ⟨rfl, rfl, trivial⟩) rfl rfl rfl (ih4 (n, (p0 + decN x0 p0), B4) ⟨hp, it6⟩ (Nat.lt_succ_self _))
            · exact WJ.ag 214 rfl (by exact ⟨rfl, rfl, trivial⟩) rfl rfl rfl (ih4 (n, (p0 + decN x0 p0), B4) ⟨hp, it6⟩ (Nat.lt_succ_self _))
        · replace hp := (itS hp).1 rfl
          exact WJ.ag 221 rfl (by exact ⟨rfl, rfl, trivial⟩) rfl rfl rfl (ih4 (n, (p0 + decN x0 p0), B4) ⟨hp, it6⟩ (Nat.lt_succ_self _))
      · exact WJ.goto 5 (j4 B2 hp) rfl rfl (by exact ⟨rfl, trivial⟩) rfl rfl rfl
/-! 108 internal/stringslite.HasPrefix -/
def f108 (x0 : List UInt8) (x1 : List UInt8) : Option Bool :=
  if (x0.length : Int) ≥ (x1.length : Int) then
    (sub x0 0 (x1.length : Int)).bind fun s14 =>
    (some (decide (s14 = x1))).bind fun t16 =>
    some t16
  else
    some false
set_option maxRecDepth 20000 in
theorem f108_ok {H : Hp} {x0 : List UInt8} {x1 : List UInt8} {r : Bool} (hp : f108 x0 x1 = some r) :
    SCall Tryz.prog 108 [.string (bs x0), .string (bs x1)] H (Ret fun v H' => Ext H H' ∧ R_4 r H.next H' v) := by
  unfold f108 at hp
  replace hp := topS hp
  refine SCall.g Tryz.func108 rfl rfl rfl rfl rfl (l := [(0, .v (.string (bs x0))), (1, .v (.string (bs x1)))]) (fun _ => rfl) (fun B abB => ?_)
  refine WJ.ci 210 hp rfl rfl rfl rfl rfl rfl rfl rfl rfl (fun hc9 hp => ?_) (fun hc9 hp => ?_)
  · obtain ⟨s14, e14, hp⟩ := bindS hp
    refine WJ.hd (v := .string (bs s14)) 204 rfl rfl rfl rfl (fun ids H' fr => opD_sh rfl (evV_eq _ _ _ _ _ rfl) (evV_eq _ _ _ _ _ rfl) (sliceD_h us9 e14)) rfl ?_
    obtain ⟨t16, e16, hp⟩ := bindS hp
    refine WJ.cv 201 (b := t16) (H0 := ⟨.nil, 0, 0⟩) rfl rfl rfl rfl rfl rfl (by rw [← endS e16]; exact (opD_streq rfl rfl rfl)) rfl ?_
    obtain rfl := endS (show some _ = some r from hp)
    exact WJ.rt 203 rfl rfl rfl (fun ids H' fr => ⟨fr.ext0, rfl⟩)
  · obtain rfl := endS (show some _ = some r from hp)
    exact WJ.rt 210 rfl rfl rfl (fun ids H' fr => ⟨fr.ext0, rfl⟩)
/-! 93 internal/stringslite.TrimPrefix -/
def f93 (x0 : List UInt8) (x1 : List UInt8) : Option (List UInt8) :=
  (f108 x0 x1).bind fun t7 =>
  if t7 then
    (sub x0 (x1.length : Int) (x0.length : Int)).bind fun s11 =>
    some s11
  else
    some x0
set_option maxRecDepth 20000 in
theorem f93_ok {H : Hp} {x0 : List UInt8} {x1 : List UInt8} {r : List UInt8} (hp : f93 x0 x1 = some r) :
    SCall Tryz.prog 93 [.string (bs x0), .string (bs x1)] H (Ret fun v H' => Ext H H' ∧ R_9 r H.next H' v) := by
  unfold f93 at hp
  replace hp := topS hp
  refine SCall.g Tryz.func93 rfl rfl rfl rfl rfl (l := [(0, .v (.string (bs x0))), (1, .v (.string (bs x1)))]) (fun _ => rfl) (fun B abB => ?_)
  obtain ⟨t7, e7, hp⟩ := bindS hp
  refine WJ.cl 209 (R := R_4 t7) (fun hm h k => R_4.mono hm h k) rfl (fun ids H' fr => f108_ok e7) ?_
  rintro v B1 ⟨abB1, ivB1⟩ rfl
  refine ⟨_, rfl, ?_⟩
  cases t7
  · replace hp := (itS hp).2 Bool.false_ne_true
    obtain rfl := endS (show some _ = some r from hp)
    exact WJ.rt 208 rfl rfl rfl (fun ids H' fr => ⟨fr.ext0, rfl⟩)
  · replace hp := (itS hp).1 rfl
    obtain ⟨s11, e11, hp⟩ := bindS hp
    refine WJ.hd (v := .string (bs s11)) 207 rfl rfl rfl rfl (fun ids H' fr => opD_sl rfl (evV_eq _ _ _ _ _ rfl) (evV_eq _ _ _ _ _ rfl) (sliceD_l us9 e11)) rfl ?_
    obtain rfl := endS (show some _ = some r from hp)
    exact WJ.rt 202 rfl rfl rfl (fun ids H' fr => ⟨fr.ext0, rfl⟩)
/-! 82 strings.TrimPrefix -/
def f82 (x0 : List UInt8) (x1 : List UInt8) : Option (List UInt8) :=
  (f93 x0 x1).bind fun t7 =>
  some t7
set_option maxRecDepth 20000 in
theorem f82_ok {H : Hp} {x0 : List UInt8} {x1 : List UInt8} {r : List UInt8} (hp : f82 x0 x1 = some r) :
    SCall Tryz.prog 82 [.string (bs x0), .string (bs x1)] H (Ret fun v H' => Ext H H' ∧ R_9 r H.next H' v) := by
  unfold f82 at hp
  replace hp := topS hp
  refine SCall.g Tryz.func82 rfl rfl rfl rfl rfl (l := [(0, .v (.string (bs x0))), (1, .v (.string (bs x1)))]) (fun _ => rfl) (fun B abB => ?_)
  obtain ⟨t7, e7, hp⟩ := bindS hp
  refine WJ.cl 208 (R := R_9 t7) (fun hm h k => R_9.mono hm h k) rfl (fun ids H' fr => f93_ok e7) ?_
  rintro v B1 ⟨abB1, ivB1⟩ rfl
  refine ⟨_, rfl, ?_⟩
  obtain rfl := endS (show some _ = some r from hp)
  exact WJ.rt 202 rfl rfl rfl (fun ids H' fr => ⟨fr.ext0, rfl⟩)
/-! 68 tipstaff/row.number -/
def f68 (x0 : List UInt8) : Option (Int × Bool) :=
  (f82 x0 ([45] : List UInt8)).bind fun t7 =>
  (if t7 = ([] : List UInt8) then
    some (Sum.inl ((0, false) : Int × Bool))
  else
    if (t7.length : Int) > 13 then
      some (Sum.inl ((0, false) : Int × Bool))
    else
      (f83 t7 ([48, 49, 50, 51, 52, 53, 54, 55, 56, 57] : List UInt8)).bind fun t17 =>
      if t17 = ([] : List UInt8) then
        (rd t7 0).bind fun b22 =>
        if ((b22.toNat : Nat) : Int) = 48 then
          if x0 = ([48] : List UInt8) then
            some (Sum.inr ())
          else
            some (Sum.inl ((0, false) : Int × Bool))
        else
          some (Sum.inr ())
      else
        some (Sum.inl ((0, false) : Int × Bool))).bind fun s => match s with
    | .inl st => some st
    | .inr _ => 
      (f84 x0).bind fun (t31_0, t31_1) =>
      if t31_1 then
        if t31_0 ≥ (-1099511627776) then
          (some (decide (t31_0 ≤ 1099511627776))).bind fun t43 =>
          some (t31_0, t43)
        else
          some (t31_0, false)
      else
        some (t31_0, false)
set_option maxRecDepth 20000 in
theorem f68_ok {H : Hp} {x0 : List UInt8} {r : Int × Bool} (hp : f68 x0 = some r) :
    SCall Tryz.prog 68 [.string (bs x0)] H (Ret fun v H' => Ext H H' ∧ R_3_4 r H.next H' v) := by
  unfold f68 at hp
  replace hp := topS hp
  refine SCall.g Tryz.func68 rfl rfl rfl rfl rfl (l := [(0, .v (.string (bs x0)))]) (fun _ => rfl) (fun B abB => ?_)
  obtain ⟨t7, e7, hp⟩ := bindS hp
  refine WJ.cl 208 (R := R_9 t7) (fun hm h k => R_9.mono hm h k) rfl (fun ids H' fr => f82_ok e7) ?_
  rintro v B1 ⟨abB1, ivB1⟩ rfl
  refine ⟨_, rfl, ?_⟩
  refine WJ.adv 4 rfl ?_
  obtain ⟨K5, hK5, hp⟩ : ∃ K, K = _ ∧ Option.bind _ K = some r := ⟨_, rfl, cutS hp⟩
  refine WJ.cut 2 (α := Hp) (fun y => [(0, .v (.string (bs x0)))]) (fun y => []) (fun y => []) (fun y => y) (fun y => K5 ((Sum.inr ())) = some r) ?_ (fun j5 => ?_)
  · rintro B3 hp
    subst hK5
    show WJ _ _ _ B3 [] _ _ ⟨[(0, .v (.string (bs x0)))], [], true, 0⟩
    obtain ⟨⟨t31_0, t31_1⟩, e31, hp⟩ := bindS hp
    refine WJ.cl 203 (R := R_3_65 ⟨t31_0, t31_1⟩) (fun hm h k => R_3_65.mono hm h k) rfl (fun ids H' fr => f84_ok e31) ?_
    rintro v B4 ⟨abB4, ivB4⟩ ⟨y31, rfl, hy31⟩
    refine ⟨_, rfl, ?_⟩
    cases t31_1
    · replace hp := (itS hp).2 Bool.false_ne_true
      obtain ⟨ty31, z31, rfl⟩ : ∃ t z, y31 = .iface t z := hy31
      refine WJ.cv 210 (b := false) (H0 := ⟨.nil, 0, 0⟩) rfl rfl rfl rfl rfl rfl (opD_ifE rfl rfl rfl ui65) rfl ?_
      obtain rfl := endS (show some _ = some r from hp)
      exact WJ.rt 211 rfl rfl rfl (fun ids H' fr => ⟨fr.ext0, rfl⟩)
    · replace hp := (itS hp).1 rfl
      obtain rfl : y31 = .nilIface := hy31
      refine WJ.cv 210 (b := true) (H0 := ⟨.nil, 0, 0⟩) rfl rfl rfl rfl rfl rfl (opD_nnE rfl rfl rfl ui65) rfl ?_
      refine WJ.ci 202 hp rfl rfl rfl rfl rfl rfl rfl rfl rfl (fun hc39 hp => ?_) (fun hc39 hp => ?_)
      · obtain ⟨t43, e43, hp⟩ := bindS hp
        refine WJ.cv 203 (b := t43) (H0 := ⟨.nil, 0, 0⟩) rfl rfl rfl rfl rfl rfl (by rw [← endS e43]; exact rfl) rfl ?_
        obtain rfl := endS (show some _ = some r from hp)
        exact WJ.rt 204 rfl rfl rfl (fun ids H' fr => ⟨fr.ext0, rfl⟩)
      · obtain rfl := endS (show some _ = some r from hp)
        exact WJ.rt 208 rfl rfl rfl (fun ids H' fr => ⟨fr.ext0, rfl⟩)
  · refine WJ.ci 202 hp rfl rfl rfl rfl rfl rfl (opD_streq rfl rfl rfl) rfl rfl (fun hc9 hp => ?_) (fun hc9 hp => ?_)
    · subst hK5
      obtain rfl := endS (show some _ = some r from hp)
      exact WJ.rt 226 rfl rfl rfl (fun ids H' fr => ⟨fr.ext0, rfl⟩)
    · refine WJ.ci 203 hp rfl rfl rfl rfl rfl rfl rfl rfl rfl (fun hc13 hp => ?_) (fun hc13 hp => ?_)
      · subst hK5
        obtain rfl := endS (show some _ = some r from hp)
        exact WJ.rt 222 rfl rfl rfl (fun ids H' fr => ⟨fr.ext0, rfl⟩)
      · obtain ⟨t17, e17, hp⟩ := bindS hp
        refine WJ.cl 203 (R := R_9 t17) (fun hm h k => R_9.mono hm h k) rfl (fun ids H' fr => f83_ok e17) ?_
        rintro v B2 ⟨abB2, ivB2⟩ rfl
        refine ⟨_, rfl, ?_⟩
        refine WJ.cn 200 hp rfl rfl rfl rfl rfl rfl (opD_strne rfl rfl rfl) rfl rfl (fun hc18 hp => ?_) (fun hc18 hp => ?_)
        · subst hK5
          obtain rfl := endS (show some _ = some r from hp)
          exact WJ.rt 217 rfl rfl rfl (fun ids H' fr => ⟨fr.ext0, rfl⟩)
        · obtain ⟨b22, e22, hp⟩ := bindS hp
          refine WJ.hd (v := .int .u8 ((b22.toNat : Nat) : Int)) 203 rfl rfl rfl rfl (fun ids H' fr => opD_index rfl (evV_eq _ _ _ _ _ rfl) (evV_eq _ _ _ _ _ rfl) (sidx us9 e22)) rfl ?_
          refine WJ.ci 200 hp rfl rfl rfl rfl rfl rfl rfl rfl rfl (fun hc23 hp => ?_) (fun hc23 hp => ?_)
          · refine WJ.cn 202 hp rfl rfl rfl rfl rfl rfl (opD_strne rfl rfl rfl) rfl rfl (fun hc26 hp => ?_) (fun hc26 hp => ?_)
            · subst hK5
              obtain rfl := endS (show some _ = some r from hp)
              exact WJ.rt 209 rfl rfl rfl (fun ids H' fr => ⟨fr.ext0, rfl⟩)
            · exact WJ.goto 5 (j5 B2 hp) rfl rfl (by exact ⟨rfl, trivial⟩) rfl rfl rfl
          · exact WJ.goto 8 (j5 B2 hp) rfl rfl (by exact ⟨rfl, trivial⟩) rfl rfl rfl
/-! 9 tipstaff/row.Rows -/
def f9_l2 (k : Nat) : Nat → (List RowWord) → Int → (List UInt8) → Option (((List RowWord) × Int × (List UInt8)) ⊕ (Int × (List UInt8) × (List RowWord) × Int × Int))
  | 0, _, _, _ => none
  | n + 1, l4_h88, v1_0_h88, v1_1_h88 =>
    if v1_1_h88 = ([] : List UInt8) then
      some (Sum.inl (l4_h88, v1_0_h88, v1_1_h88))
    else
      (rd v1_1_h88 0).bind fun b17u33 =>
      (f51 ((b17u33.toNat : Nat) : Int)).bind fun t18u33 =>
      if t18u33 then
        (sub v1_1_h88 1 (v1_1_h88.length : Int)).bind fun s17u41 =>
        f9_l2 k n l4_h88 (IntKind.i64.wrap (v1_0_h88 + 1)) s17u41
      else
        (rd v1_1_h88 0).bind fun b26u17 =>
        if ((b26u17.toNat : Nat) : Int) = 35 then
          some (Sum.inl (l4_h88, v1_0_h88, v1_1_h88))
        else
          ((rd v1_1_h88 0).bind fun b17u38 =>
          if ((b17u38.toNat : Nat) : Int) = 34 then
            (f31 k v1_1_h88).bind fun (t24u20_0, t24u20_1) =>
            (if t24u20_1 = 0 then
              some (Sum.inl ((v1_0_h88, v1_1_h88, v1_0_h88, 0, ([] : List UInt8), 0, false) : Int × (List UInt8) × Int × Int × (List UInt8) × Int × Bool))
            else
              if t24u20_1 < (v1_1_h88.length : Int) then
                (rd v1_1_h88 t24u20_1).bind fun b43u16 =>
                (f51 ((b43u16.toNat : Nat) : Int)).bind fun t44u16 =>
                if t44u16 then
                  some (Sum.inr ())
                else
                  some (Sum.inl ((v1_0_h88, v1_1_h88, v1_0_h88, 0, ([] : List UInt8), 0, false) : Int × (List UInt8) × Int × Int × (List UInt8) × Int × Bool))
              else
                some (Sum.inr ())).bind fun s => match s with
              | .inl st => some (st)
              | .inr _ => 
                (sub v1_1_h88 t24u20_1 (v1_1_h88.length : Int)).bind fun s17u39 =>
                some (((IntKind.i64.wrap (v1_0_h88 + t24u20_1), s17u39, v1_0_h88, 3, t24u20_0, 0, true) : Int × (List UInt8) × Int × Int × (List UInt8) × Int × Bool))
          else
            (f67 v1_1_h88 ([32, 9] : List UInt8)).bind fun t60u4 =>
            (if t60u4 < 0 then
              some ((v1_1_h88.length : Int))
            else
              some (t60u4)).bind fun x6_95 =>
              (sub v1_1_h88 0 x6_95).bind fun s73u4 =>
              (sub v1_1_h88 x6_95 (v1_1_h88.length : Int)).bind fun s17u40 =>
              (f16 k s73u4).bind fun t78u4 =>
              if t78u4 then
                some (((IntKind.i64.wrap (v1_0_h88 + x6_95), s17u40, v1_0_h88, 1, s73u4, 0, true) : Int × (List UInt8) × Int × Int × (List UInt8) × Int × Bool))
              else
                (f68 s73u4).bind fun (t86u4_0, t86u4_1) =>
                some (((IntKind.i64.wrap (v1_0_h88 + x6_95), s17u40, v1_0_h88, 2, ([] : List UInt8), t86u4_0, t86u4_1) : Int × (List UInt8) × Int × Int × (List UInt8) × Int × Bool))).bind fun (v1_0_93, v1_1_93, x34_93_0_0, x34_93_0_1, x34_93_0_2, x34_93_0_3, x34_93_1) =>
            if x34_93_1 then
              (apd 40 l4_h88 ([(RowWord.mk x34_93_0_0 x34_93_0_1 x34_93_0_2 x34_93_0_3)])).bind fun l44u17 =>
              f9_l2 k n l44u17 v1_0_93 v1_1_93
            else
              some (Sum.inr ((v1_0_93, v1_1_93, [], 3, v1_0_h88) : Int × (List UInt8) × (List RowWord) × Int × Int))

def f9_l1 (k : Nat) (t16 : List (List UInt8)) : Nat → (List Row) → Int → Int → Option (((List Row)) ⊕ ((List Row) × Fault))
  | 0, _, _, _ => none
  | n + 1, l1_h52, x5_h52, x18_h52 =>
    (some (decide (x18_h52 < (t16.length : Int)))).bind fun t19 =>
    if t19 then
      (rd t16 x18_h52).bind fun t20 =>
      if (t20.length : Int) > 1000 then
        some (Sum.inr (([], (Fault.mk 4 x5_h52)) : (List Row) × Fault))
      else
        ((f9_l2 k k ([]) x5_h52 t20).bind fun s => match s with
          | .inl (l4_88, v1_0_88, v1_1_88) => 
            some (((v1_0_88, v1_1_88, l4_88, 0, 0) : Int × (List UInt8) × (List RowWord) × Int × Int))
          | .inr st => some (st)).bind fun (v1_0_71, v1_1_71, x33_71_0, x33_71_1_0, x33_71_1_1) =>
          if x33_71_1_0 = 0 then
            (if (x33_71_0.length : Int) > 0 then
              (apd 32 l1_h52 ([(Row.mk x5_h52 x33_71_0)] : List Row)).bind fun l48u30 =>
              some (l48u30)
            else
              some (l1_h52)).bind fun l1_96 =>
              f9_l1 k t16 n l1_96 (IntKind.i64.wrap (x5_h52 + (IntKind.i64.wrap ((t20.length : Int) + 1)))) (IntKind.i64.wrap (x18_h52 + 1))
          else
            some (Sum.inr (([], (Fault.mk x33_71_1_0 x33_71_1_1)) : (List Row) × Fault))
    else
      some (Sum.inl l1_h52)

def f9 (k : Nat) (x0 : List UInt8) : Option ((List Row) × Fault) :=
  if (x0.length : Int) > 20000 then
    some ([], (Fault.mk 4 20000))
  else
    (f28 x0 ([10] : List UInt8)).bind fun t16 =>
    (f9_l1 k t16 k ([]) 0 0).bind fun s => match s with
      | .inl l1_52 => 
        some (l1_52, (Fault.mk 0 0))
      | .inr st => some st
set_option maxHeartbeats 3200000 in
set_option maxRecDepth 20000 in
theorem f9_ok {k : Nat} {H : Hp} {x0 : List UInt8} {r : (List Row) × Fault} (hp : f9 k x0 = some r) :
    SCall Tryz.prog 9 [.string (bs x0)] H (Ret fun v H' => Ext H H' ∧ R_23_26 r H.next H' v) := by
  unfold f9 at hp
  replace hp := topS hp
  refine SCall.g Tryz.func9 rfl rfl rfl rfl rfl (l := [(0, .v (.string (bs x0)))]) (fun _ => rfl) (fun B abB => ?_)
  refine WJ.adv 4 rfl ?_
  refine WJ.liftS (loc := []) rfl rfl (fun bv0 => ?_)
  refine WJ.ci 206 hp rfl rfl rfl rfl rfl rfl rfl rfl rfl (fun hc13 hp => ?_) (fun hc13 hp => ?_)
  · refine WJ.sb 206 (j := 0) rfl rfl rfl rfl rfl rfl rfl rfl rfl rfl ?_
    obtain rfl := endS (show some _ = some r from hp)
    exact WJ.rto 201 rfl (.tmp rfl (.cell 0 rfl rfl rfl .nil)) rfl (fun ids H' fr => ⟨fr.ext0, ⟨_, _, rfl, SlF.nil⟩⟩)
  · obtain ⟨t16, e16, hp⟩ := bindS hp
    refine WJ.cl 215 (R := R_37 t16) (fun hm h k => R_37.mono hm h k) rfl (fun ids H' fr => f28_ok e16) ?_
    rintro v B1 ⟨abB1, ivB1⟩ ⟨a_t16, c_t16, rfl, g_t16⟩
    refine ⟨_, rfl, ?_⟩
    refine WJ.adv 4 rfl ?_
    refine WJ.nw 2 ?_
    have rn1 : RepL RowC H.next B1 [] ([] : List Row) := rfl
    obtain ⟨K52, hK52, hp⟩ : ∃ K, K = _ ∧ Option.bind _ K = some r := ⟨_, rfl, cutS hp⟩
    refine WJ.cut 2 (α := (List Row) × (Option Addr) × Nat × (List Value) × Hp) (fun y => [(3, .v (.pointer (some ⟨bv0, 0, none⟩))), (4, .v (.slice y.2.1 y.1.length y.2.2.1))]) (fun y => []) (fun y => [⟨some ⟨bv0, 0, none⟩, 2, 1, [.int .i64 0, .int .i64 0]⟩, ⟨y.2.1, y.2.2.1, 2, y.2.2.2.1⟩]) (fun y => y.2.2.2.2) (fun y => K52 (Sum.inl y.1) = some r ∧ SlF H.next y.2.2.2.2 strC a_t16 c_t16 t16 ∧ RepL RowC H.next y.2.2.2.2 [] ([] : List Row) ∧ RepL RowC H.next y.2.2.2.2 y.2.2.2.1 y.1) ?_ (fun j52 => ?_)
    · rintro ⟨l1_52, a1_52, c1_52, cs1_52, B17⟩ ⟨hp, g_t16, rn1, r1_52⟩
      subst hK52
      show WJ _ _ _ B17 [⟨some ⟨bv0, 0, none⟩, 2, 1, [.int .i64 0, .int .i64 0]⟩, ⟨a1_52, c1_52, 2, cs1_52⟩] _ _ ⟨[(3, .v (.pointer (some ⟨bv0, 0, none⟩))), (4, .v (.slice a1_52 l1_52.length c1_52))], [], true, 0⟩
      refine WJ.sb 205 (j := 0) rfl rfl rfl rfl rfl rfl rfl rfl rfl rfl ?_
      obtain rfl := endS (show some _ = some r from hp)
      exact WJ.rto 201 rfl (.tmp rfl (.cell 0 rfl rfl rfl .nil)) rfl (fun ids H' fr => ⟨fr.ext0, ⟨_, _, rfl, (fr.slN (j := 1) rfl rfl rfl r1_52 (Nat.le_refl _))⟩⟩)
    · refine WJ.lp 200 (α := Nat × (List Row) × Int × Int × (Option Addr) × Nat × (List Value) × Hp) (fun y => [(3, .v (.pointer (some ⟨bv0, 0, none⟩))), (4, .v (.slice y.2.2.2.2.1 y.2.1.length y.2.2.2.2.2.1)), (5, .v (.int .i64 y.2.2.1)), (16, .v (.slice a_t16 t16.length c_t16)), (17, .v (.int .i64 ((t16.length : Nat) : Int))), (18, .v (.int .i64 y.2.2.2.1))]) (fun y => []) (fun y => [⟨some ⟨bv0, 0, none⟩, 2, 1, [.int .i64 0, .int .i64 0]⟩, ⟨y.2.2.2.2.1, y.2.2.2.2.2.1, 2, y.2.2.2.2.2.2.1⟩]) (fun y => y.2.2.2.2.2.2.2) (fun y => y.1) (fun y => Option.bind (f9_l1 k t16 y.1 y.2.1 y.2.2.1 y.2.2.2.1) K52 = some r ∧ SlF H.next y.2.2.2.2.2.2.2 strC a_t16 c_t16 t16 ∧ RepL RowC H.next y.2.2.2.2.2.2.2 [] ([] : List Row) ∧ RepL RowC H.next y.2.2.2.2.2.2.2 y.2.2.2.2.2.2.1 y.2.1) (k, ([] : List Row), 0, 0, none, 0, [], B1) rfl ⟨hp, g_t16, rn1, rn1⟩ (by exact ⟨rfl, rfl, rfl, rfl, rfl, rfl, trivial⟩) rfl rfl rfl ?_
      rintro ⟨n, l1_h52, x5_h52, x18_h52, a1_h52, c1_h52, cs1_h52, B2⟩ ⟨hp, g_t16, rn1, r1_h52⟩ ih52
      show WJ _ _ _ B2 [⟨some ⟨bv0, 0, none⟩, 2, 1, [.int .i64 0, .int .i64 0]⟩, ⟨a1_h52, c1_h52, 2, cs1_h52⟩] _ _ ⟨[(3, .v (.pointer (some ⟨bv0, 0, none⟩))), (4, .v (.slice a1_h52 l1_h52.length c1_h52)), (5, .v (.int .i64 x5_h52)), (16, .v (.slice a_t16 t16.length c_t16)), (17, .v (.int .i64 ((t16.length : Nat) : Int))), (18, .v (.int .i64 x18_h52))], [], true, 0⟩
      replace hp : Option.bind (f9_l1 k t16 n l1_h52 x5_h52 x18_h52) K52 = some r := hp
      cases n with
      | zero => rw [f9_l1] at hp; exact (noS hp).elim
      | succ n =>
        rw [f9_l1] at hp
        obtain ⟨t19, e19, hp⟩ := bindS hp
        refine WJ.cv 202 (b := t19) (H0 := ⟨.nil, 0, 0⟩) rfl rfl rfl rfl rfl rfl (by rw [← endS e19]; exact rfl) rfl ?_
        cases t19
        · replace hp := (itS hp).2 Bool.false_ne_true
          exact WJ.goto 4 (j52 (l1_h52, a1_h52, c1_h52, cs1_h52, B2) ⟨hp, g_t16, rn1, r1_h52⟩) rfl rfl (by exact ⟨rfl, rfl, trivial⟩) rfl rfl rfl
        · replace hp := (itS hp).1 rfl
          obtain ⟨t20, e20, hp⟩ := bindS hp
          obtain ⟨b20, o20, cs20, i20, rfl, p20⟩ := g_t16.at e20 u37 sz9
          refine WJ.hd (v := .pointer (some ⟨b20, o20, none⟩)) 208 rfl rfl rfl rfl (fun ids H' fr => opD_indexAddr rfl (evV_eq _ _ _ _ _ rfl) (evV_eq _ _ _ _ _ rfl) (i20 _)) rfl ?_
          refine WJ.hd (v := .string (bs t20)) 200 rfl rfl rfl rfl (fun ids H' fr => opD_load rfl (evV_eq _ _ _ _ _ rfl) ((p20.mono (Nat.zero_le _) (fr.abv.le (Nat.zero_le _))).load (d := 0) ag9 rfl)) rfl ?_
          refine WJ.ci 207 hp rfl rfl rfl rfl rfl rfl rfl rfl rfl (fun hc24 hp => ?_) (fun hc24 hp => ?_)
          · refine WJ.sb 207 (j := 0) rfl rfl rfl rfl rfl rfl rfl rfl rfl rfl ?_
            subst hK52
            obtain rfl := endS (show some _ = some r from hp)
            exact WJ.rto 201 rfl (.tmp rfl (.cell 0 rfl rfl rfl .nil)) rfl (fun ids H' fr => ⟨fr.ext0, ⟨_, _, rfl, SlF.nil⟩⟩)
          · refine WJ.adv 9 rfl ?_
            refine WJ.liftS (loc := []) rfl rfl (fun bv1 => ?_)
            obtain ⟨K71, hK71, hp⟩ : ∃ K, K = _ ∧ Option.bind _ K = some r := ⟨_, rfl, cutS hp⟩
            refine WJ.inlC 205 (α := Int × (List UInt8) × (List RowWord) × Int × Int × (Option Addr) × Nat × Hp) (fun y => [(3, .v (.pointer (some ⟨bv0, 0, none⟩))), (4, .v (.slice a1_h52 l1_h52.length c1_h52)), (5, .v (.int .i64 x5_h52)), (7, .v (.string (bs t20))), (16, .v (.slice a_t16 t16.length c_t16)), (17, .v (.int .i64 ((t16.length : Nat) : Int))), (18, .v (.int .i64 x18_h52)), (33, .v (.tuple ⟨[.slice y.2.2.2.2.2.1 y.2.2.1.length y.2.2.2.2.2.2.1, .agg ⟨[.int .i64 y.2.2.2.1, .int .i64 y.2.2.2.2.1]⟩]⟩))]) (fun y => [⟨some ⟨bv0, 0, none⟩, 2, 1, [.int .i64 0, .int .i64 0]⟩, ⟨a1_h52, c1_h52, 2, cs1_h52⟩, ⟨some ⟨bv1, 0, none⟩, 2, 1, [.int .i64 y.1, .string (bs y.2.1)]⟩]) (fun y => y.2.2.2.2.2.2.2) (fun y => K71 (((y.1, y.2.1, y.2.2.1, y.2.2.2.1, y.2.2.2.2.1))) = some r ∧ SlF H.next y.2.2.2.2.2.2.2 strC a_t16 c_t16 t16 ∧ RepL RowC H.next y.2.2.2.2.2.2.2 [] ([] : List Row) ∧ RepL RowC H.next y.2.2.2.2.2.2.2 cs1_h52 l1_h52 ∧ SlF H.next y.2.2.2.2.2.2.2 RowWordC y.2.2.2.2.2.1 y.2.2.2.2.2.2.1 y.2.2.1) rfl rfl Tryz.func29 rfl rfl rfl rfl rfl (lc := [(0, .v (.pointer (some ⟨bv1, 0, none⟩)))]) (fun _ => rfl) ?_ (fun j71 => ?_)
            · rintro ⟨v1_0_71, v1_1_71, x33_71_0, x33_71_1_0, x33_71_1_1, a_x33_71_0, c_x33_71_0, B15⟩ ⟨hp, g_t16, rn1, r1_h52, g_x33_71_0⟩
              subst hK71
              show WJ _ _ _ B15 [⟨some ⟨bv0, 0, none⟩, 2, 1, [.int .i64 0, .int .i64 0]⟩, ⟨a1_h52, c1_h52, 2, cs1_h52⟩, ⟨some ⟨bv1, 0, none⟩, 2, 1, [.int .i64 v1_0_71, .string (bs v1_1_71)]⟩] _ _ ⟨[(3, .v (.pointer (some ⟨bv0, 0, none⟩))), (4, .v (.slice a1_h52 l1_h52.length c1_h52)), (5, .v (.int .i64 x5_h52)), (7, .v (.string (bs t20))), (16, .v (.slice a_t16 t16.length c_t16)), (17, .v (.int .i64 ((t16.length : Nat) : Int))), (18, .v (.int .i64 x18_h52)), (33, .v (.tuple ⟨[.slice a_x33_71_0 x33_71_0.length c_x33_71_0, .agg ⟨[.int .i64 x33_71_1_0, .int .i64 x33_71_1_1]⟩]⟩))], [], true, 0⟩
              refine WJ.adv 4 rfl ?_
              refine WJ.liftS (loc := []) rfl rfl (fun bv2u3 => ?_)
              refine WJ.sb 201 (j := 3) rfl rfl rfl rfl rfl rfl rfl rfl rfl rfl ?_
              refine WJ.hd (v := .int .i64 x33_71_1_0) 205 rfl rfl rfl rfl (fun ids H' fr => opD_load rfl (evV_eq _ _ _ _ _ rfl) (fr.ldOwn (j := 3) rfl rfl)) rfl ?_
              refine WJ.cn 200 hp rfl rfl rfl rfl rfl rfl rfl rfl rfl (fun hc38u28 hp => ?_) (fun hc38u28 hp => ?_)
              · refine WJ.dr 203 rfl gmix (by kernel_rfl) (by kernel_rfl) rfl ?_
                refine WD.hd (v := .agg ⟨[.int .i64 x33_71_1_0, .int .i64 x33_71_1_1]⟩) rfl rfl rfl rfl (fun _ _ _ _ _ => side_no) (fun ids H' fr => opD_load rfl (evV_eq _ _ _ _ _ rfl) (fr.ldOwn (j := 3) rfl rfl)) rfl ?_
                refine WD.sb (j := 0) rfl rfl rfl rfl rfl rfl rfl rfl rfl rfl ?_
                refine WD.done rfl ?_
                subst hK52
                obtain rfl := endS (show some _ = some r from hp)
                exact WJ.rto 200 rfl (.tmp rfl (.cell 0 rfl rfl rfl .nil)) rfl (fun ids H' fr => ⟨fr.ext0, ⟨_, _, rfl, SlF.nil⟩⟩)
              · refine WJ.adv 5 rfl ?_
                obtain ⟨K96, hK96, hp⟩ : ∃ K, K = _ ∧ Option.bind _ K = some r := ⟨_, rfl, cutS hp⟩
                refine WJ.cut 2 (α := (List Row) × (Option Addr) × Nat × (List Value) × Hp) (fun y => [(3, .v (.pointer (some ⟨bv0, 0, none⟩))), (4, .v (.slice y.2.1 y.1.length y.2.2.1)), (5, .v (.int .i64 x5_h52)), (7, .v (.string (bs t20))), (16, .v (.slice a_t16 t16.length c_t16)), (17, .v (.int .i64 ((t16.length : Nat) : Int))), (18, .v (.int .i64 x18_h52))]) (fun y => []) (fun y => [⟨some ⟨bv0, 0, none⟩, 2, 1, [.int .i64 0, .int .i64 0]⟩, ⟨y.2.1, y.2.2.1, 2, y.2.2.2.1⟩, ⟨some ⟨bv1, 0, none⟩, 2, 1, [.int .i64 v1_0_71, .string (bs v1_1_71)]⟩, ⟨some ⟨bv2u3, 0, none⟩, 2, 1, [.int .i64 x33_71_1_0, .int .i64 x33_71_1_1]⟩]) (fun y => y.2.2.2.2) (fun y => K96 ((y.1)) = some r ∧ SlF H.next y.2.2.2.2 strC a_t16 c_t16 t16 ∧ RepL RowC H.next y.2.2.2.2 [] ([] : List Row) ∧ RepL RowC H.next y.2.2.2.2 cs1_h52 l1_h52 ∧ SlF H.next y.2.2.2.2 RowWordC a_x33_71_0 c_x33_71_0 x33_71_0 ∧ RepL RowC H.next y.2.2.2.2 y.2.2.2.1 y.1) ?_ (fun j96 => ?_)
                · rintro ⟨l1_96, a1_96, c1_96, cs1_96, B16⟩ ⟨hp, g_t16, rn1, r1_h52, g_x33_71_0, r1_96⟩
                  subst hK96
                  show WJ _ _ _ B16 [⟨some ⟨bv0, 0, none⟩, 2, 1, [.int .i64 0, .int .i64 0]⟩, ⟨a1_96, c1_96, 2, cs1_96⟩, ⟨some ⟨bv1, 0, none⟩, 2, 1, [.int .i64 v1_0_71, .string (bs v1_1_71)]⟩, ⟨some ⟨bv2u3, 0, none⟩, 2, 1, [.int .i64 x33_71_1_0, .int .i64 x33_71_1_1]⟩] _ _ ⟨[(3, .v (.pointer (some ⟨bv0, 0, none⟩))), (4, .v (.slice a1_96 l1_96.length c1_96)), (5, .v (.int .i64 x5_h52)), (7, .v (.string (bs t20))), (16, .v (.slice a_t16 t16.length c_t16)), (17, .v (.int .i64 ((t16.length : Nat) : Int))), (18, .v (.int .i64 x18_h52))], [], true, 0⟩
                  exact WJ.ag 213 rfl (by exact ⟨rfl, rfl, rfl, rfl, rfl, rfl, trivial⟩) rfl rfl rfl (ih52 (n, l1_96, IntKind.i64.wrap (x5_h52 + (IntKind.i64.wrap (((t20.length : Nat) : Int) + 1))), IntKind.i64.wrap (x18_h52 + 1), a1_96, c1_96, cs1_96, B16) ⟨hp, g_t16, rn1, r1_96⟩ (Nat.lt_succ_self _))
                · refine WJ.ci 203 hp rfl rfl rfl rfl rfl rfl rfl rfl rfl (fun hc42u18 hp => ?_) (fun hc42u18 hp => ?_)
                  · refine WJ.bs (cs := [.int .i64 x5_h52, .slice a_x33_71_0 x33_71_0.length c_x33_71_0]) (sz := 2) (pl := [(0, .agg ⟨[.int .i64 x5_h52, .slice a_x33_71_0 x33_71_0.length c_x33_71_0]⟩)]) 207 rfl rfl rfl rfl rfl (fun _ _ => rfl) (fun _ => by rfl) rfl rfl ?_
                    intro b47u60
                    refine ⟨_, rfl, ?_⟩
                    obtain ⟨l48u30, e48u30, hp⟩ := bindS hp
                    obtain ⟨bd48u30, rfl⟩ := apd_some e48u30
                    refine WJ.apN (cs := cs1_h52) (new := [.int .i64 x5_h52, .slice a_x33_71_0 x33_71_0.length c_x33_71_0]) (L := l1_h52) (L2 := ([(Row.mk x5_h52 x33_71_0)] : List Row)) 200 1 rfl rfl rfl rfl rfl rfl rfl rfl r1_h52.len (el23 rfl) rfl rfl (fun ids H' fr => fr.srcBox (j := 4) rfl rfl (by decide)) rfl rfl bd48u30 ?_
                    intro a48u30 c48u30
                    refine ⟨_, rfl, ?_⟩
                    have rp48u30 : RepL RowC H.next B15 (cs1_h52 ++ [.int .i64 x5_h52, .slice a_x33_71_0 x33_71_0.length c_x33_71_0]) (l1_h52 ++ ([(Row.mk x5_h52 x33_71_0)] : List Row)) := r1_h52.append ⟨[.int .i64 x5_h52, .slice a_x33_71_0 x33_71_0.length c_x33_71_0], [], rfl, ⟨_, _, rfl, g_x33_71_0⟩, rfl⟩
                    refine WJ.pop [⟨some ⟨bv0, 0, none⟩, 2, 1, [.int .i64 0, .int .i64 0]⟩, ⟨a48u30, c48u30, 2, (cs1_h52 ++ [.int .i64 x5_h52, .slice a_x33_71_0 x33_71_0.length c_x33_71_0])⟩, ⟨some ⟨bv1, 0, none⟩, 2, 1, [.int .i64 v1_0_71, .string (bs v1_1_71)]⟩, ⟨some ⟨bv2u3, 0, none⟩, 2, 1, [.int .i64 x33_71_1_0, .int .i64 x33_71_1_1]⟩] rfl ?_
                    exact WJ.goto 2 (j96 ((l1_h52 ++ ([(Row.mk x5_h52 x33_71_0)] : List Row)), a48u30, c48u30, (cs1_h52 ++ [.int .i64 x5_h52, .slice a_x33_71_0 x33_71_0.length c_x33_71_0]), B15) ⟨hp, g_t16, rn1, r1_h52, g_x33_71_0, rp48u30⟩) rfl rfl (by exact ⟨rfl, rfl, rfl, rfl, rfl, rfl, rfl, trivial⟩) rfl rfl rfl
                  · exact WJ.goto 3 (j96 (l1_h52, a1_h52, c1_h52, cs1_h52, B15) ⟨hp, g_t16, rn1, r1_h52, g_x33_71_0, r1_h52⟩) rfl rfl (by exact ⟨rfl, rfl, rfl, rfl, rfl, rfl, rfl, trivial⟩) rfl rfl rfl
            · refine WJ.adv 4 rfl ?_
              refine WJ.liftS (loc := []) rfl rfl (fun bv2u2 => ?_)
              refine WJ.adv 6 rfl ?_
              refine WJ.nw 4 ?_
              obtain ⟨K88, hK88, hp⟩ : ∃ K, K = _ ∧ Option.bind _ K = some r := ⟨_, rfl, cutS hp⟩
              refine WJ.cut 2 (α := (List RowWord) × Int × (List UInt8) × (Option Addr) × Nat × Hp) (fun y => [(2, .v (.slice y.2.2.2.1 y.1.length y.2.2.2.2.1)), (3, .v (.pointer (some ⟨bv2u2, 0, none⟩)))]) (fun y => []) (fun y => [⟨some ⟨bv0, 0, none⟩, 2, 1, [.int .i64 0, .int .i64 0]⟩, ⟨a1_h52, c1_h52, 2, cs1_h52⟩, ⟨some ⟨bv1, 0, none⟩, 2, 1, [.int .i64 y.2.1, .string (bs y.2.2.1)]⟩, ⟨some ⟨bv2u2, 0, none⟩, 2, 1, [.int .i64 0, .int .i64 0]⟩, ⟨y.2.2.2.1, y.2.2.2.2.1, 4, encL RowWord.cs y.1⟩]) (fun y => y.2.2.2.2.2) (fun y => K88 (Sum.inl (y.1, y.2.1, y.2.2.1)) = some r ∧ SlF H.next y.2.2.2.2.2 strC a_t16 c_t16 t16 ∧ RepL RowC H.next y.2.2.2.2.2 [] ([] : List Row) ∧ RepL RowC H.next y.2.2.2.2.2 cs1_h52 l1_h52) ?_ (fun j88 => ?_)
              · rintro ⟨l4_88, v1_0_88, v1_1_88, a4_88, c4_88, B13⟩ ⟨hp, g_t16, rn1, r1_h52⟩
                subst hK88
                show WJ _ _ _ B13 [⟨some ⟨bv0, 0, none⟩, 2, 1, [.int .i64 0, .int .i64 0]⟩, ⟨a1_h52, c1_h52, 2, cs1_h52⟩, ⟨some ⟨bv1, 0, none⟩, 2, 1, [.int .i64 v1_0_88, .string (bs v1_1_88)]⟩, ⟨some ⟨bv2u2, 0, none⟩, 2, 1, [.int .i64 0, .int .i64 0]⟩, ⟨a4_88, c4_88, 4, encL RowWord.cs l4_88⟩] _ _ ⟨[(2, .v (.slice a4_88 l4_88.length c4_88)), (3, .v (.pointer (some ⟨bv2u2, 0, none⟩)))], [], true, 0⟩
                refine WJ.dr 201 rfl gmix (by kernel_rfl) (by kernel_rfl) rfl ?_
                refine WD.hd (v := .agg ⟨[.int .i64 0, .int .i64 0]⟩) rfl rfl rfl rfl (fun _ _ _ _ _ => side_no) (fun ids H' fr => opD_load rfl (evV_eq _ _ _ _ _ rfl) (fr.ldOwn (j := 3) rfl rfl)) rfl ?_
                refine WD.sb (j := 3) rfl rfl rfl rfl rfl rfl rfl rfl rfl rfl ?_
                refine WD.done rfl ?_
                refine WJ.inlRo 200 rfl (.tmp rfl (.cell 3 rfl rfl rfl .nil)) rfl rfl ?_
                refine WJ.fz (c := RowWordC) (j := 4) rfl rfl rfl (repL_flat.2 rfl) ?_
                rintro B14 ⟨abB14, ivB14⟩ gz4
                replace g_t16 := g_t16.mono (Nat.le_refl _) (abB14.le (Nat.zero_le _))
                replace rn1 := rn1.mono (Nat.le_refl _) (abB14.le (Nat.zero_le _))
                replace r1_h52 := r1_h52.mono (Nat.le_refl _) (abB14.le (Nat.zero_le _))
                exact WJ.gotoO (j71 (v1_0_88, v1_1_88, l4_88, 0, 0, a4_88, c4_88, B14) ⟨hp, g_t16, rn1, r1_h52, gz4⟩) (by exact ⟨rfl, rfl, rfl, rfl, rfl, rfl, rfl, rfl, trivial⟩) rfl rfl
              · refine WJ.lp 200 (α := Nat × (List RowWord) × Int × (List UInt8) × (Option Addr) × Nat × Hp) (fun y => [(0, .v (.pointer (some ⟨bv1, 0, none⟩))), (2, .v (.slice y.2.2.2.2.1 y.2.1.length y.2.2.2.2.2.1)), (3, .v (.pointer (some ⟨bv2u2, 0, none⟩)))]) (fun y => []) (fun y => [⟨some ⟨bv0, 0, none⟩, 2, 1, [.int .i64 0, .int .i64 0]⟩, ⟨a1_h52, c1_h52, 2, cs1_h52⟩, ⟨some ⟨bv1, 0, none⟩, 2, 1, [.int .i64 y.2.2.1, .string (bs y.2.2.2.1)]⟩, ⟨some ⟨bv2u2, 0, none⟩, 2, 1, [.int .i64 0, .int .i64 0]⟩, ⟨y.2.2.2.2.1, y.2.2.2.2.2.1, 4, encL RowWord.cs y.2.1⟩]) (fun y => y.2.2.2.2.2.2) (fun y => y.1) (fun y => Option.bind (f9_l2 k y.1 y.2.1 y.2.2.1 y.2.2.2.1) K88 = some r ∧ SlF H.next y.2.2.2.2.2.2 strC a_t16 c_t16 t16 ∧ RepL RowC H.next y.2.2.2.2.2.2 [] ([] : List Row) ∧ RepL RowC H.next y.2.2.2.2.2.2 cs1_h52 l1_h52) (k, ([] : List RowWord), x5_h52, t20, none, 0, B2) rfl ⟨hp, g_t16, rn1, r1_h52⟩ (by exact ⟨rfl, rfl, rfl, trivial⟩) rfl rfl rfl ?_
                rintro ⟨n88, l4_h88, v1_0_h88, v1_1_h88, a4_h88, c4_h88, B3⟩ ⟨hp, g_t16, rn1, r1_h52⟩ ih88
                show WJ _ _ _ B3 [⟨some ⟨bv0, 0, none⟩, 2, 1, [.int .i64 0, .int .i64 0]⟩, ⟨a1_h52, c1_h52, 2, cs1_h52⟩, ⟨some ⟨bv1, 0, none⟩, 2, 1, [.int .i64 v1_0_h88, .string (bs v1_1_h88)]⟩, ⟨some ⟨bv2u2, 0, none⟩, 2, 1, [.int .i64 0, .int .i64 0]⟩, ⟨a4_h88, c4_h88, 4, encL RowWord.cs l4_h88⟩] _ _ ⟨[(0, .v (.pointer (some ⟨bv1, 0, none⟩))), (2, .v (.slice a4_h88 l4_h88.length c4_h88)), (3, .v (.pointer (some ⟨bv2u2, 0, none⟩)))], [], true, 0⟩
                replace hp : Option.bind (f9_l2 k n88 l4_h88 v1_0_h88 v1_1_h88) K88 = some r := hp
                cases n88 with
                | zero => rw [f9_l2] at hp; exact (noS hp).elim
                | succ n88 =>
                  rw [f9_l2] at hp
                  refine WJ.hd (v := .string (bs v1_1_h88)) 206 rfl rfl rfl rfl (fun ids H' fr => opD_load rfl (evV_eq _ _ _ _ _ rfl) (fr.ldOwn (j := 2) rfl rfl)) rfl ?_
                  refine WJ.cn 200 hp rfl rfl rfl rfl rfl rfl (opD_strne rfl rfl rfl) rfl rfl (fun hc11u33 hp => ?_) (fun hc11u33 hp => ?_)
                  · refine WJ.hd (v := .string (bs v1_1_h88)) 211 rfl rfl rfl rfl (fun ids H' fr => opD_load rfl (evV_eq _ _ _ _ _ rfl) (fr.ldOwn (j := 2) rfl rfl)) rfl ?_
                    obtain ⟨b17u33, e17u33, hp⟩ := bindS hp
                    refine WJ.hd (v := .int .u8 ((b17u33.toNat : Nat) : Int)) 200 rfl rfl rfl rfl (fun ids H' fr => opD_index rfl (evV_eq _ _ _ _ _ rfl) (evV_eq _ _ _ _ _ rfl) (sidx us9 e17u33)) rfl ?_
                    obtain ⟨t18u33, e18u33, hp⟩ := bindS hp
                    refine WJ.cl 200 (R := R_4 t18u33) (fun hm h k => R_4.mono hm h k) rfl (fun ids H' fr => f51_ok e18u33) ?_
                    rintro v B4 ⟨abB4, ivB4⟩ rfl
                    refine ⟨_, rfl, ?_⟩
                    replace g_t16 := g_t16.mono (Nat.le_refl _) (abB4.le (Nat.zero_le _))
                    replace rn1 := rn1.mono (Nat.le_refl _) (abB4.le (Nat.zero_le _))
                    replace r1_h52 := r1_h52.mono (Nat.le_refl _) (abB4.le (Nat.zero_le _))
                    cases t18u33
                    · replace hp := (itS hp).2 Bool.false_ne_true
                      refine WJ.hd (v := .string (bs v1_1_h88)) 208 rfl rfl rfl rfl (fun ids H' fr => opD_load rfl (evV_eq _ _ _ _ _ rfl) (fr.ldOwn (j := 2) rfl rfl)) rfl ?_
                      obtain ⟨b26u17, e26u17, hp⟩ := bindS hp
                      refine WJ.hd (v := .int .u8 ((b26u17.toNat : Nat) : Int)) 200 rfl rfl rfl rfl (fun ids H' fr => opD_index rfl (evV_eq _ _ _ _ _ rfl) (evV_eq _ _ _ _ _ rfl) (sidx us9 e26u17)) rfl ?_
                      refine WJ.ci 200 hp rfl rfl rfl rfl rfl rfl rfl rfl rfl (fun hc27u17 hp => ?_) (fun hc27u17 hp => ?_)
                      · exact WJ.goto 4 (j88 (l4_h88, v1_0_h88, v1_1_h88, a4_h88, c4_h88, B4) ⟨hp, g_t16, rn1, r1_h52⟩) rfl rfl (by exact ⟨rfl, rfl, trivial⟩) rfl rfl rfl
                      · refine WJ.hd (v := .int .i64 v1_0_h88) 210 rfl rfl rfl rfl (fun ids H' fr => opD_load rfl (evV_eq _ _ _ _ _ rfl) (fr.ldOwn (j := 2) rfl rfl)) rfl ?_
                        obtain ⟨K93, hK93, hp⟩ : ∃ K, K = _ ∧ Option.bind _ K = some r := ⟨_, rfl, cutS hp⟩
                        refine WJ.inlC 205 (α := Int × (List UInt8) × Int × Int × (List UInt8) × Int × Bool × Hp) (fun y => [(0, .v (.pointer (some ⟨bv1, 0, none⟩))), (2, .v (.slice a4_h88 l4_h88.length c4_h88)), (3, .v (.pointer (some ⟨bv2u2, 0, none⟩))), (4, .v (.int .i64 v1_0_h88)), (34, .v (.tuple ⟨[.agg ⟨[.int .i64 y.2.2.1, .int .i64 y.2.2.2.1, .string (bs y.2.2.2.2.1), .int .i64 y.2.2.2.2.2.1]⟩, .bool y.2.2.2.2.2.2.1]⟩))]) (fun y => [⟨some ⟨bv0, 0, none⟩, 2, 1, [.int .i64 0, .int .i64 0]⟩, ⟨a1_h52, c1_h52, 2, cs1_h52⟩, ⟨some ⟨bv1, 0, none⟩, 2, 1, [.int .i64 y.1, .string (bs y.2.1)]⟩, ⟨some ⟨bv2u2, 0, none⟩, 2, 1, [.int .i64 0, .int .i64 0]⟩, ⟨a4_h88, c4_h88, 4, encL RowWord.cs l4_h88⟩]) (fun y => y.2.2.2.2.2.2.2) (fun y => K93 (((y.1, y.2.1, y.2.2.1, y.2.2.2.1, y.2.2.2.2.1, y.2.2.2.2.2.1, y.2.2.2.2.2.2.1))) = some r ∧ SlF H.next y.2.2.2.2.2.2.2 strC a_t16 c_t16 t16 ∧ RepL RowC H.next y.2.2.2.2.2.2.2 [] ([] : List Row) ∧ RepL RowC H.next y.2.2.2.2.2.2.2 cs1_h52 l1_h52) rfl rfl Tryz.func53 rfl rfl rfl rfl rfl (lc := [(0, .v (.pointer (some ⟨bv1, 0, none⟩)))]) (fun _ => rfl) ?_ (fun j93 => ?_)
                        · rintro ⟨v1_0_93, v1_1_93, x34_93_0_0, x34_93_0_1, x34_93_0_2, x34_93_0_3, x34_93_1, B12⟩ ⟨hp, g_t16, rn1, r1_h52⟩
                          subst hK93
                          show WJ _ _ _ B12 [⟨some ⟨bv0, 0, none⟩, 2, 1, [.int .i64 0, .int .i64 0]⟩, ⟨a1_h52, c1_h52, 2, cs1_h52⟩, ⟨some ⟨bv1, 0, none⟩, 2, 1, [.int .i64 v1_0_93, .string (bs v1_1_93)]⟩, ⟨some ⟨bv2u2, 0, none⟩, 2, 1, [.int .i64 0, .int .i64 0]⟩, ⟨a4_h88, c4_h88, 4, encL RowWord.cs l4_h88⟩] _ _ ⟨[(0, .v (.pointer (some ⟨bv1, 0, none⟩))), (2, .v (.slice a4_h88 l4_h88.length c4_h88)), (3, .v (.pointer (some ⟨bv2u2, 0, none⟩))), (4, .v (.int .i64 v1_0_h88)), (34, .v (.tuple ⟨[.agg ⟨[.int .i64 x34_93_0_0, .int .i64 x34_93_0_1, .string (bs x34_93_0_2), .int .i64 x34_93_0_3]⟩, .bool x34_93_1]⟩))], [], true, 0⟩
                          refine WJ.adv 4 rfl ?_
                          refine WJ.liftS (loc := []) rfl rfl (fun bv3u19 => ?_)
                          refine WJ.sb 200 (j := 5) rfl rfl rfl rfl rfl rfl rfl rfl rfl rfl ?_
                          cases x34_93_1
                          · replace hp := (itS hp).2 Bool.false_ne_true
                            refine WJ.sb 214 (j := 3) rfl rfl rfl rfl rfl rfl rfl rfl rfl rfl ?_
                            refine WJ.inlRo 201 rfl (.tmp rfl (.cell 3 rfl rfl rfl .nil)) rfl rfl ?_
                            subst hK88
                            exact WJ.gotoO (j71 (v1_0_93, v1_1_93, ([] : List RowWord), 3, v1_0_h88, none, 0, B12) ⟨hp, g_t16, rn1, r1_h52, SlF.nil⟩) (by exact ⟨rfl, rfl, rfl, rfl, rfl, rfl, rfl, rfl, trivial⟩) rfl rfl
                          · replace hp := (itS hp).1 rfl
                            refine WJ.hd (v := .agg ⟨[.int .i64 x34_93_0_0, .int .i64 x34_93_0_1, .string (bs x34_93_0_2), .int .i64 x34_93_0_3]⟩) 212 rfl rfl rfl rfl (fun ids H' fr => opD_load rfl (evV_eq _ _ _ _ _ rfl) (fr.ldOwn (j := 5) rfl rfl)) rfl ?_
                            refine WJ.bs (cs := encL RowWord.cs [(RowWord.mk x34_93_0_0 x34_93_0_1 x34_93_0_2 x34_93_0_3)]) (sz := 4) (pl := [(0, .agg ⟨[.int .i64 x34_93_0_0, .int .i64 x34_93_0_1, .string (bs x34_93_0_2), .int .i64 x34_93_0_3]⟩)]) 200 rfl rfl rfl rfl rfl (fun _ _ => rfl) (fun _ => by rfl) rfl rfl ?_
                            intro b43u17
                            refine ⟨_, rfl, ?_⟩
                            obtain ⟨l44u17, e44u17, hp⟩ := bindS hp
                            obtain ⟨bd44u17, rfl⟩ := apd_some e44u17
                            refine WJ.ap (L := l4_h88) (L2 := [(RowWord.mk x34_93_0_0 x34_93_0_1 x34_93_0_2 x34_93_0_3)]) 200 4 rfl rfl rfl rfl rfl rfl rfl rfl (el43 rfl) rfl (fun _ => rfl) (fun _ => rfl) rfl (fun ids H' fr => fr.srcOwn (enc := RowWord.cs) (sz := 4) (j := 6) (fun _ => rfl) (by decide) rfl) bd44u17 ?_
                            intro a44u17 c44u17
                            refine ⟨_, rfl, ?_⟩
                            refine WJ.pop [⟨some ⟨bv0, 0, none⟩, 2, 1, [.int .i64 0, .int .i64 0]⟩, ⟨a1_h52, c1_h52, 2, cs1_h52⟩, ⟨some ⟨bv1, 0, none⟩, 2, 1, [.int .i64 v1_0_93, .string (bs v1_1_93)]⟩, ⟨some ⟨bv2u2, 0, none⟩, 2, 1, [.int .i64 0, .int .i64 0]⟩, ⟨a44u17, c44u17, 4, encL RowWord.cs (l4_h88 ++ ([(RowWord.mk x34_93_0_0 x34_93_0_1 x34_93_0_2 x34_93_0_3)]))⟩, ⟨some ⟨bv3u19, 0, none⟩, 4, 1, [.int .i64 x34_93_0_0, .int .i64 x34_93_0_1, .string (bs x34_93_0_2), .int .i64 x34_93_0_3]⟩] rfl ?_
                            exact WJ.ag 203 rfl (by exact ⟨rfl, rfl, rfl, trivial⟩) rfl rfl rfl (ih88 (n88, (l4_h88 ++ ([(RowWord.mk x34_93_0_0 x34_93_0_1 x34_93_0_2 x34_93_0_3)])), v1_0_93, v1_1_93, a44u17, c44u17, B12) ⟨hp, g_t16, rn1, r1_h52⟩ (Nat.lt_succ_self _))
                        · refine WJ.adv 3 rfl ?_
                          refine WJ.liftS (loc := []) rfl rfl (fun bv3u18 => ?_)
                          refine WJ.hd (v := .int .i64 v1_0_h88) 207 rfl rfl rfl rfl (fun ids H' fr => opD_load rfl (evV_eq _ _ _ _ _ rfl) (fr.ldOwn (j := 2) rfl rfl)) rfl ?_
                          refine WJ.sb 201 (j := 5) rfl rfl rfl rfl rfl rfl rfl rfl rfl rfl ?_
                          refine WJ.hd (v := .string (bs v1_1_h88)) 207 rfl rfl rfl rfl (fun ids H' fr => opD_load rfl (evV_eq _ _ _ _ _ rfl) (fr.ldOwn (j := 2) rfl rfl)) rfl ?_
                          obtain ⟨b17u38, e17u38, hp⟩ := bindS hp
                          refine WJ.hd (v := .int .u8 ((b17u38.toNat : Nat) : Int)) 200 rfl rfl rfl rfl (fun ids H' fr => opD_index rfl (evV_eq _ _ _ _ _ rfl) (evV_eq _ _ _ _ _ rfl) (sidx us9 e17u38)) rfl ?_
                          refine WJ.ci 200 hp rfl rfl rfl rfl rfl rfl rfl rfl rfl (fun hc18u38 hp => ?_) (fun hc18u38 hp => ?_)
                          · refine WJ.hd (v := .string (bs v1_1_h88)) 207 rfl rfl rfl rfl (fun ids H' fr => opD_load rfl (evV_eq _ _ _ _ _ rfl) (fr.ldOwn (j := 2) rfl rfl)) rfl ?_
                            obtain ⟨⟨t24u20_0, t24u20_1⟩, e24u20, hp⟩ := bindS hp
                            refine WJ.cl 200 (R := R_9_3 ⟨t24u20_0, t24u20_1⟩) (fun hm h k => R_9_3.mono hm h k) rfl (fun ids H' fr => f31_ok e24u20) ?_
                            rintro v B5 ⟨abB5, ivB5⟩ rfl
                            refine ⟨_, rfl, ?_⟩
                            replace g_t16 := g_t16.mono (Nat.le_refl _) (abB5.le (Nat.zero_le _))
                            replace rn1 := rn1.mono (Nat.le_refl _) (abB5.le (Nat.zero_le _))
                            replace r1_h52 := r1_h52.mono (Nat.le_refl _) (abB5.le (Nat.zero_le _))
                            refine WJ.adv 8 rfl ?_
                            obtain ⟨K94, hK94, hp⟩ : ∃ K, K = _ ∧ Option.bind _ K = some r := ⟨_, rfl, cutS hp⟩
                            refine WJ.cut 2 (α := Hp) (fun y => [(0, .v (.pointer (some ⟨bv1, 0, none⟩))), (2, .v (.pointer (some ⟨bv3u18, 0, none⟩))), (4, .v (.string (bs t24u20_0))), (5, .v (.int .i64 t24u20_1))]) (fun y => []) (fun y => [⟨some ⟨bv0, 0, none⟩, 2, 1, [.int .i64 0, .int .i64 0]⟩, ⟨a1_h52, c1_h52, 2, cs1_h52⟩, ⟨some ⟨bv1, 0, none⟩, 2, 1, [.int .i64 v1_0_h88, .string (bs v1_1_h88)]⟩, ⟨some ⟨bv2u2, 0, none⟩, 2, 1, [.int .i64 0, .int .i64 0]⟩, ⟨a4_h88, c4_h88, 4, encL RowWord.cs l4_h88⟩, ⟨some ⟨bv3u18, 0, none⟩, 4, 1, [.int .i64 v1_0_h88, .int .i64 0, .string (bs ([] : List UInt8)), .int .i64 0]⟩]) (fun y => y) (fun y => K94 ((Sum.inr ())) = some r ∧ SlF H.next y strC a_t16 c_t16 t16 ∧ RepL RowC H.next y [] ([] : List Row) ∧ RepL RowC H.next y cs1_h52 l1_h52) ?_ (fun j94 => ?_)
                            · rintro B7 ⟨hp, g_t16, rn1, r1_h52⟩
                              subst hK94
                              show WJ _ _ _ B7 [⟨some ⟨bv0, 0, none⟩, 2, 1, [.int .i64 0, .int .i64 0]⟩, ⟨a1_h52, c1_h52, 2, cs1_h52⟩, ⟨some ⟨bv1, 0, none⟩, 2, 1, [.int .i64 v1_0_h88, .string (bs v1_1_h88)]⟩, ⟨some ⟨bv2u2, 0, none⟩, 2, 1, [.int .i64 0, .int .i64 0]⟩, ⟨a4_h88, c4_h88, 4, encL RowWord.cs l4_h88⟩, ⟨some ⟨bv3u18, 0, none⟩, 4, 1, [.int .i64 v1_0_h88, .int .i64 0, .string (bs ([] : List UInt8)), .int .i64 0]⟩] _ _ ⟨[(0, .v (.pointer (some ⟨bv1, 0, none⟩))), (2, .v (.pointer (some ⟨bv3u18, 0, none⟩))), (4, .v (.string (bs t24u20_0))), (5, .v (.int .i64 t24u20_1))], [], true, 0⟩
                              refine WJ.sb 204 (j := 5) rfl rfl rfl rfl rfl rfl rfl rfl rfl rfl ?_
                              refine WJ.sb 201 (j := 5) rfl rfl rfl rfl rfl rfl rfl rfl rfl rfl ?_
                              refine WJ.inl 205 rfl rfl Tryz.func52 rfl rfl rfl rfl rfl (lc := [(0, .v (.pointer (some ⟨bv1, 0, none⟩))), (1, .v (.int .i64 t24u20_1))]) (fun _ => rfl) ?_
                              refine WJ.dr 200 rfl gmix (by kernel_rfl) (by kernel_rfl) rfl ?_
                              refine WD.hd (v := .int .i64 v1_0_h88) rfl rfl rfl rfl (fun _ _ _ _ _ => side_no) (fun ids H' fr => opD_load rfl (evV_eq _ _ _ _ _ rfl) (fr.ldOwn (j := 2) rfl rfl)) rfl ?_
                              refine WD.hd (v := .string (bs v1_1_h88)) rfl rfl rfl rfl (fun _ _ _ _ _ => side_no) (fun ids H' fr => opD_load rfl (evV_eq _ _ _ _ _ rfl) (fr.ldOwn (j := 2) rfl rfl)) rfl ?_
                              obtain ⟨s17u39, e17u39, hp⟩ := bindS hp
                              refine WD.hd (v := .string (bs s17u39)) rfl rfl rfl rfl (fun _ _ _ _ _ => side_no) (fun ids H' fr => opD_sl rfl (evV_eq _ _ _ _ _ rfl) (evV_eq _ _ _ _ _ rfl) (sliceD_l us9 e17u39)) rfl ?_
                              refine WD.sb (j := 2) rfl rfl rfl rfl rfl rfl rfl rfl rfl rfl ?_
                              refine WD.sb (j := 2) rfl rfl rfl rfl rfl rfl rfl rfl rfl rfl ?_
                              refine WD.done rfl ?_
                              refine WJ.inlN 200 rfl rfl rfl rfl ?_
                              refine WJ.hd (v := .agg ⟨[.int .i64 v1_0_h88, .int .i64 3, .string (bs t24u20_0), .int .i64 0]⟩) 203 rfl rfl rfl rfl (fun ids H' fr => opD_load rfl (evV_eq _ _ _ _ _ rfl) (fr.ldOwn (j := 5) rfl rfl)) rfl ?_
                              refine WJ.sb 200 (j := 5) rfl rfl rfl rfl rfl rfl rfl rfl rfl rfl ?_
                              refine WJ.inlRo 202 rfl (.cell 5 rfl rfl rfl (.tmp rfl .nil)) rfl rfl ?_
                              exact WJ.gotoO (j93 (IntKind.i64.wrap (v1_0_h88 + t24u20_1), s17u39, v1_0_h88, 3, t24u20_0, 0, true, B7) ⟨hp, g_t16, rn1, r1_h52⟩) (by exact ⟨rfl, rfl, rfl, rfl, rfl, trivial⟩) rfl rfl
                            · refine WJ.ci 202 hp rfl rfl rfl rfl rfl rfl rfl rfl rfl (fun hc28u20 hp => ?_) (fun hc28u20 hp => ?_)
                              · refine WJ.hd (v := .agg ⟨[.int .i64 v1_0_h88, .int .i64 0, .string (bs ([] : List UInt8)), .int .i64 0]⟩) 223 rfl rfl rfl rfl (fun ids H' fr => opD_load rfl (evV_eq _ _ _ _ _ rfl) (fr.ldOwn (j := 5) rfl rfl)) rfl ?_
                                refine WJ.sb 200 (j := 5) rfl rfl rfl rfl rfl rfl rfl rfl rfl rfl ?_
                                refine WJ.inlRo 202 rfl (.cell 5 rfl rfl rfl (.tmp rfl .nil)) rfl rfl ?_
                                subst hK94
                                exact WJ.gotoO (j93 (v1_0_h88, v1_1_h88, v1_0_h88, 0, ([] : List UInt8), 0, false, B5) ⟨hp, g_t16, rn1, r1_h52⟩) (by exact ⟨rfl, rfl, rfl, rfl, rfl, trivial⟩) rfl rfl
                              · refine WJ.hd (v := .string (bs v1_1_h88)) 205 rfl rfl rfl rfl (fun ids H' fr => opD_load rfl (evV_eq _ _ _ _ _ rfl) (fr.ldOwn (j := 2) rfl rfl)) rfl ?_
                                refine WJ.ci 201 hp rfl rfl rfl rfl rfl rfl rfl rfl rfl (fun hc36u18 hp => ?_) (fun hc36u18 hp => ?_)
                                · refine WJ.hd (v := .string (bs v1_1_h88)) 204 rfl rfl rfl rfl (fun ids H' fr => opD_load rfl (evV_eq _ _ _ _ _ rfl) (fr.ldOwn (j := 2) rfl rfl)) rfl ?_
                                  obtain ⟨b43u16, e43u16, hp⟩ := bindS hp
                                  refine WJ.hd (v := .int .u8 ((b43u16.toNat : Nat) : Int)) 201 rfl rfl rfl rfl (fun ids H' fr => opD_index rfl (evV_eq _ _ _ _ _ rfl) (evV_eq _ _ _ _ _ rfl) (sidx us9 e43u16)) rfl ?_
                                  obtain ⟨t44u16, e44u16, hp⟩ := bindS hp
                                  refine WJ.cl 200 (R := R_4 t44u16) (fun hm h k => R_4.mono hm h k) rfl (fun ids H' fr => f51_ok e44u16) ?_
                                  rintro v B6 ⟨abB6, ivB6⟩ rfl
                                  refine ⟨_, rfl, ?_⟩
                                  replace g_t16 := g_t16.mono (Nat.le_refl _) (abB6.le (Nat.zero_le _))
                                  replace rn1 := rn1.mono (Nat.le_refl _) (abB6.le (Nat.zero_le _))
                                  replace r1_h52 := r1_h52.mono (Nat.le_refl _) (abB6.le (Nat.zero_le _))
                                  cases t44u16
                                  · replace hp := (itS hp).2 Bool.false_ne_true
                                    refine WJ.hd (v := .agg ⟨[.int .i64 v1_0_h88, .int .i64 0, .string (bs ([] : List UInt8)), .int .i64 0]⟩) 207 rfl rfl rfl rfl (fun ids H' fr => opD_load rfl (evV_eq _ _ _ _ _ rfl) (fr.ldOwn (j := 5) rfl rfl)) rfl ?_
                                    refine WJ.sb 200 (j := 5) rfl rfl rfl rfl rfl rfl rfl rfl rfl rfl ?_
                                    refine WJ.inlRo 202 rfl (.cell 5 rfl rfl rfl (.tmp rfl .nil)) rfl rfl ?_
                                    subst hK94
                                    exact WJ.gotoO (j93 (v1_0_h88, v1_1_h88, v1_0_h88, 0, ([] : List UInt8), 0, false, B6) ⟨hp, g_t16, rn1, r1_h52⟩) (by exact ⟨rfl, rfl, rfl, rfl, rfl, trivial⟩) rfl rfl
                                  · replace hp := (itS hp).1 rfl
                                    exact WJ.goto 6 (j94 B6 ⟨hp, g_t16, rn1, r1_h52⟩) rfl rfl (by exact ⟨rfl, rfl, rfl, rfl, trivial⟩) rfl rfl rfl
                                · exact WJ.goto 14 (j94 B5 ⟨hp, g_t16, rn1, r1_h52⟩) rfl rfl (by exact ⟨rfl, rfl, rfl, rfl, trivial⟩) rfl rfl rfl
                          · refine WJ.hd (v := .string (bs v1_1_h88)) 208 rfl rfl rfl rfl (fun ids H' fr => opD_load rfl (evV_eq _ _ _ _ _ rfl) (fr.ldOwn (j := 2) rfl rfl)) rfl ?_
                            obtain ⟨t60u4, e60u4, hp⟩ := bindS hp
                            refine WJ.cl 200 (R := R_3 t60u4) (fun hm h k => R_3.mono hm h k) rfl (fun ids H' fr => f67_ok e60u4) ?_
                            rintro v B8 ⟨abB8, ivB8⟩ rfl
                            refine ⟨_, rfl, ?_⟩
                            replace g_t16 := g_t16.mono (Nat.le_refl _) (abB8.le (Nat.zero_le _))
                            replace rn1 := rn1.mono (Nat.le_refl _) (abB8.le (Nat.zero_le _))
                            replace r1_h52 := r1_h52.mono (Nat.le_refl _) (abB8.le (Nat.zero_le _))
                            refine WJ.adv 4 rfl ?_
                            obtain ⟨K95, hK95, hp⟩ : ∃ K, K = _ ∧ Option.bind _ K = some r := ⟨_, rfl, cutS hp⟩
                            refine WJ.cut 2 (α := Int × Hp) (fun y => [(0, .v (.pointer (some ⟨bv1, 0, none⟩))), (2, .v (.pointer (some ⟨bv3u18, 0, none⟩))), (6, .v (.int .i64 y.1))]) (fun y => []) (fun y => [⟨some ⟨bv0, 0, none⟩, 2, 1, [.int .i64 0, .int .i64 0]⟩, ⟨a1_h52, c1_h52, 2, cs1_h52⟩, ⟨some ⟨bv1, 0, none⟩, 2, 1, [.int .i64 v1_0_h88, .string (bs v1_1_h88)]⟩, ⟨some ⟨bv2u2, 0, none⟩, 2, 1, [.int .i64 0, .int .i64 0]⟩, ⟨a4_h88, c4_h88, 4, encL RowWord.cs l4_h88⟩, ⟨some ⟨bv3u18, 0, none⟩, 4, 1, [.int .i64 v1_0_h88, .int .i64 0, .string (bs ([] : List UInt8)), .int .i64 0]⟩]) (fun y => y.2) (fun y => K95 ((y.1)) = some r ∧ SlF H.next y.2 strC a_t16 c_t16 t16 ∧ RepL RowC H.next y.2 [] ([] : List Row) ∧ RepL RowC H.next y.2 cs1_h52 l1_h52) ?_ (fun j95 => ?_)
                            · rintro ⟨x6_95, B9⟩ ⟨hp, g_t16, rn1, r1_h52⟩
                              subst hK95
                              show WJ _ _ _ B9 [⟨some ⟨bv0, 0, none⟩, 2, 1, [.int .i64 0, .int .i64 0]⟩, ⟨a1_h52, c1_h52, 2, cs1_h52⟩, ⟨some ⟨bv1, 0, none⟩, 2, 1, [.int .i64 v1_0_h88, .string (bs v1_1_h88)]⟩, ⟨some ⟨bv2u2, 0, none⟩, 2, 1, [.int .i64 0, .int .i64 0]⟩, ⟨a4_h88, c4_h88, 4, encL RowWord.cs l4_h88⟩, ⟨some ⟨bv3u18, 0, none⟩, 4, 1, [.int .i64 v1_0_h88, .int .i64 0, .string (bs ([] : List UInt8)), .int .i64 0]⟩] _ _ ⟨[(0, .v (.pointer (some ⟨bv1, 0, none⟩))), (2, .v (.pointer (some ⟨bv3u18, 0, none⟩))), (6, .v (.int .i64 x6_95))], [], true, 0⟩
                              refine WJ.hd (v := .string (bs v1_1_h88)) 205 rfl rfl rfl rfl (fun ids H' fr => opD_load rfl (evV_eq _ _ _ _ _ rfl) (fr.ldOwn (j := 2) rfl rfl)) rfl ?_
                              obtain ⟨s73u4, e73u4, hp⟩ := bindS hp
                              refine WJ.hd (v := .string (bs s73u4)) 201 rfl rfl rfl rfl (fun ids H' fr => opD_sh rfl (evV_eq _ _ _ _ _ rfl) (evV_eq _ _ _ _ _ rfl) (sliceD_h us9 e73u4)) rfl ?_
                              refine WJ.inl 206 rfl rfl Tryz.func52 rfl rfl rfl rfl rfl (lc := [(0, .v (.pointer (some ⟨bv1, 0, none⟩))), (1, .v (.int .i64 x6_95))]) (fun _ => rfl) ?_
                              refine WJ.dr 200 rfl gmix (by kernel_rfl) (by kernel_rfl) rfl ?_
                              refine WD.hd (v := .int .i64 v1_0_h88) rfl rfl rfl rfl (fun _ _ _ _ _ => side_no) (fun ids H' fr => opD_load rfl (evV_eq _ _ _ _ _ rfl) (fr.ldOwn (j := 2) rfl rfl)) rfl ?_
                              refine WD.hd (v := .string (bs v1_1_h88)) rfl rfl rfl rfl (fun _ _ _ _ _ => side_no) (fun ids H' fr => opD_load rfl (evV_eq _ _ _ _ _ rfl) (fr.ldOwn (j := 2) rfl rfl)) rfl ?_
                              obtain ⟨s17u40, e17u40, hp⟩ := bindS hp
                              refine WD.hd (v := .string (bs s17u40)) rfl rfl rfl rfl (fun _ _ _ _ _ => side_no) (fun ids H' fr => opD_sl rfl (evV_eq _ _ _ _ _ rfl) (evV_eq _ _ _ _ _ rfl) (sliceD_l us9 e17u40)) rfl ?_
                              refine WD.sb (j := 2) rfl rfl rfl rfl rfl rfl rfl rfl rfl rfl ?_
                              refine WD.sb (j := 2) rfl rfl rfl rfl rfl rfl rfl rfl rfl rfl ?_
                              refine WD.done rfl ?_
                              refine WJ.inlN 200 rfl rfl rfl rfl ?_
                              obtain ⟨t78u4, e78u4, hp⟩ := bindS hp
                              refine WJ.cl 205 (R := R_4 t78u4) (fun hm h k => R_4.mono hm h k) rfl (fun ids H' fr => f16_ok e78u4) ?_
                              rintro v B10 ⟨abB10, ivB10⟩ rfl
                              refine ⟨_, rfl, ?_⟩
                              replace g_t16 := g_t16.mono (Nat.le_refl _) (abB10.le (Nat.zero_le _))
                              replace rn1 := rn1.mono (Nat.le_refl _) (abB10.le (Nat.zero_le _))
                              replace r1_h52 := r1_h52.mono (Nat.le_refl _) (abB10.le (Nat.zero_le _))
                              cases t78u4
                              · replace hp := (itS hp).2 Bool.false_ne_true
                                refine WJ.sb 206 (j := 5) rfl rfl rfl rfl rfl rfl rfl rfl rfl rfl ?_
                                obtain ⟨⟨t86u4_0, t86u4_1⟩, e86u4, hp⟩ := bindS hp
                                refine WJ.cl 204 (R := R_3_4 ⟨t86u4_0, t86u4_1⟩) (fun hm h k => R_3_4.mono hm h k) rfl (fun ids H' fr => f68_ok e86u4) ?_
                                rintro v B11 ⟨abB11, ivB11⟩ rfl
                                refine ⟨_, rfl, ?_⟩
                                replace g_t16 := g_t16.mono (Nat.le_refl _) (abB11.le (Nat.zero_le _))
                                replace rn1 := rn1.mono (Nat.le_refl _) (abB11.le (Nat.zero_le _))
                                replace r1_h52 := r1_h52.mono (Nat.le_refl _) (abB11.le (Nat.zero_le _))
                                refine WJ.sb 204 (j := 5) rfl rfl rfl rfl rfl rfl rfl rfl rfl rfl ?_
                                refine WJ.hd (v := .agg ⟨[.int .i64 v1_0_h88, .int .i64 2, .string (bs ([] : List UInt8)), .int .i64 t86u4_0]⟩) 204 rfl rfl rfl rfl (fun ids H' fr => opD_load rfl (evV_eq _ _ _ _ _ rfl) (fr.ldOwn (j := 5) rfl rfl)) rfl ?_
                                refine WJ.sb 201 (j := 5) rfl rfl rfl rfl rfl rfl rfl rfl rfl rfl ?_
                                refine WJ.inlRo 202 rfl (.cell 5 rfl rfl rfl (.tmp rfl .nil)) rfl rfl ?_
                                exact WJ.gotoO (j93 (IntKind.i64.wrap (v1_0_h88 + x6_95), s17u40, v1_0_h88, 2, ([] : List UInt8), t86u4_0, t86u4_1, B11) ⟨hp, g_t16, rn1, r1_h52⟩) (by exact ⟨rfl, rfl, rfl, rfl, rfl, trivial⟩) rfl rfl
                              · replace hp := (itS hp).1 rfl
                                refine WJ.sb 206 (j := 5) rfl rfl rfl rfl rfl rfl rfl rfl rfl rfl ?_
                                refine WJ.sb 201 (j := 5) rfl rfl rfl rfl rfl rfl rfl rfl rfl rfl ?_
                                refine WJ.hd (v := .agg ⟨[.int .i64 v1_0_h88, .int .i64 1, .string (bs s73u4), .int .i64 0]⟩) 203 rfl rfl rfl rfl (fun ids H' fr => opD_load rfl (evV_eq _ _ _ _ _ rfl) (fr.ldOwn (j := 5) rfl rfl)) rfl ?_
                                refine WJ.sb 200 (j := 5) rfl rfl rfl rfl rfl rfl rfl rfl rfl rfl ?_
                                refine WJ.inlRo 202 rfl (.cell 5 rfl rfl rfl (.tmp rfl .nil)) rfl rfl ?_
                                exact WJ.gotoO (j93 (IntKind.i64.wrap (v1_0_h88 + x6_95), s17u40, v1_0_h88, 1, s73u4, 0, true, B10) ⟨hp, g_t16, rn1, r1_h52⟩) (by exact ⟨rfl, rfl, rfl, rfl, rfl, trivial⟩) rfl rfl
                            · refine WJ.ci 202 hp rfl rfl rfl rfl rfl rfl rfl rfl rfl (fun hc62u4 hp => ?_) (fun hc62u4 hp => ?_)
                              · refine WJ.hd (v := .string (bs v1_1_h88)) 206 rfl rfl rfl rfl (fun ids H' fr => opD_load rfl (evV_eq _ _ _ _ _ rfl) (fr.ldOwn (j := 2) rfl rfl)) rfl ?_
                                exact WJ.goto 3 (j95 (((v1_1_h88.length : Nat) : Int), B8) ⟨hp, g_t16, rn1, r1_h52⟩) rfl rfl (by exact ⟨rfl, rfl, rfl, trivial⟩) rfl rfl rfl
                              · exact WJ.goto 3 (j95 (t60u4, B8) ⟨hp, g_t16, rn1, r1_h52⟩) rfl rfl (by exact ⟨rfl, rfl, rfl, trivial⟩) rfl rfl rfl
                    · replace hp := (itS hp).1 rfl
                      refine WJ.inl 206 rfl rfl Tryz.func52 rfl rfl rfl rfl rfl (lc := [(0, .v (.pointer (some ⟨bv1, 0, none⟩))), (1, .v (.int .i64 1))]) (fun _ => rfl) ?_
                      refine WJ.dr 200 rfl gmix (by kernel_rfl) (by kernel_rfl) rfl ?_
                      refine WD.hd (v := .int .i64 v1_0_h88) rfl rfl rfl rfl (fun _ _ _ _ _ => side_no) (fun ids H' fr => opD_load rfl (evV_eq _ _ _ _ _ rfl) (fr.ldOwn (j := 2) rfl rfl)) rfl ?_
                      refine WD.hd (v := .string (bs v1_1_h88)) rfl rfl rfl rfl (fun _ _ _ _ _ => side_no) (fun ids H' fr => opD_load rfl (evV_eq _ _ _ _ _ rfl) (fr.ldOwn (j := 2) rfl rfl)) rfl ?_
                      obtain ⟨s17u41, e17u41, hp⟩ := bindS hp
                      refine WD.hd (v := .string (bs s17u41)) rfl rfl rfl rfl (fun _ _ _ _ _ => side_no) (fun ids H' fr => opD_sl rfl (evV_eq _ _ _ _ _ rfl) (evV_eq _ _ _ _ _ rfl) (sliceD_l us9 e17u41)) rfl ?_
                      refine WD.sb (j := 2) rfl rfl rfl rfl rfl rfl rfl rfl rfl rfl ?_
                      refine WD.sb (j := 2) rfl rfl rfl rfl rfl rfl rfl rfl rfl rfl ?_
                      refine WD.done rfl ?_
                      refine WJ.inlN 200 rfl rfl rfl rfl ?_
                      exact WJ.ag 202 rfl (by exact ⟨rfl, rfl, rfl, trivial⟩) rfl rfl rfl (ih88 (n88, l4_h88, IntKind.i64.wrap (v1_0_h88 + 1), s17u41, a4_h88, c4_h88, B4) ⟨hp, g_t16, rn1, r1_h52⟩ (Nat.lt_succ_self _))
                  · exact WJ.goto 3 (j88 (l4_h88, v1_0_h88, v1_1_h88, a4_h88, c4_h88, B3) ⟨hp, g_t16, rn1, r1_h52⟩) rfl rfl (by exact ⟨rfl, rfl, trivial⟩) rfl rfl rfl
/-! 54 tipstaff/tipstaffref03.blank -/
def f54 (x0 : Int) : Option Bool :=
  if x0 = 32 then
    some true
  else
    (some (x0 == 9)).bind fun t7 =>
    some t7
set_option maxRecDepth 20000 in
theorem f54_ok {H : Hp} {x0 : Int} {r : Bool} (hp : f54 x0 = some r) :
    SCall Tryz.prog 54 [.int .u8 x0] H (Ret fun v H' => Ext H H' ∧ R_4 r H.next H' v) := by
  unfold f54 at hp
  replace hp := topS hp
  refine SCall.g Tryz.func54 rfl rfl rfl rfl rfl (l := [(0, .v (.int .u8 x0))]) (fun _ => rfl) (fun B abB => ?_)
  refine WJ.ci 207 hp rfl rfl rfl rfl rfl rfl rfl rfl rfl (fun hc4 hp => ?_) (fun hc4 hp => ?_)
  · obtain rfl := endS (show some _ = some r from hp)
    exact WJ.rt 206 rfl rfl rfl (fun ids H' fr => ⟨fr.ext0, rfl⟩)
  · obtain ⟨t7, e7, hp⟩ := bindS hp
    refine WJ.cv 202 (b := t7) (H0 := ⟨.nil, 0, 0⟩) rfl rfl rfl rfl rfl rfl (by rw [← endS e7]; exact rfl) rfl ?_
    obtain rfl := endS (show some _ = some r from hp)
    exact WJ.rt 203 rfl rfl rfl (fun ids H' fr => ⟨fr.ext0, rfl⟩)
/-! 40 tipstaff/tipstaffref03.long -/
def f40_l1 (x0 : List UInt8) : Nat → Nat → Option ((Int) ⊕ (Unit))
  | 0, _ => none
  | n + 1, p0_h97 =>
    if p0_h97 < x0.length then
      (some (encR (decL x0 p0_h97))).bind fun s12 =>
      (if (decL x0 p0_h97) ≥ 160 then
        if (s12.length : Int) ≤ (x0.length : Int) then
          (sub x0 0 (s12.length : Int)).bind fun s25 =>
          (some (encR (decL x0 p0_h97))).bind fun s27 =>
          if s25 = s27 then
            some (Sum.inl ((s12.length : Int) : Int))
          else
            some (Sum.inr ())
        else
          some (Sum.inr ())
      else
        some (Sum.inr ())).bind fun s => match s with
        | .inl st => some (Sum.inl st)
        | .inr _ => 
          some (Sum.inl (0 : Int))
    else
      some (Sum.inr ())

def f40 (k : Nat) (x0 : List UInt8) : Option Int :=
  (f40_l1 x0 k 0).bind fun s => match s with
    | .inl st => some st
    | .inr _ => 
      some 0
set_option maxHeartbeats 3200000 in
set_option maxRecDepth 20000 in
theorem f40_ok {k : Nat} {H : Hp} {x0 : List UInt8} {r : Int} (hp : f40 k x0 = some r) :
    SCall Tryz.prog 40 [.string (bs x0)] H (Ret fun v H' => Ext H H' ∧ R_3 r H.next H' v) := by
  unfold f40 at hp
  replace hp := topS hp
  refine SCall.g Tryz.func40 rfl rfl rfl rfl rfl (l := [(0, .v (.string (bs x0)))]) (fun _ => rfl) (fun B abB => ?_)
  refine WJ.rg 208 rfl rfl rfl rfl rfl us9 rfl ?_
  rintro b7 B1 ⟨abB1, ivB1⟩ h07 it7
  refine ⟨_, rfl, ?_⟩
  refine WJ.adv 2 rfl ?_
  obtain ⟨K97, hK97, hp⟩ : ∃ K, K = _ ∧ Option.bind _ K = some r := ⟨_, rfl, cutS hp⟩
  refine WJ.cut 2 (α := Hp) (fun y => []) (fun y => []) (fun y => []) (fun y => y) (fun y => K97 (Sum.inr ()) = some r) ?_ (fun j97 => ?_)
  · rintro B4 hp
    subst hK97
    show WJ _ _ _ B4 [] _ _ ⟨[], [], true, 0⟩
    obtain rfl := endS (show some _ = some r from hp)
    exact WJ.rt 204 rfl rfl rfl (fun ids H' fr => ⟨fr.ext0, rfl⟩)
  · refine WJ.lp 200 (α := Nat × Nat × Hp) (fun y => [(0, .v (.string (bs x0))), (7, .v (.pointer (some ⟨b7, 0, none⟩)))]) (fun y => []) (fun y => []) (fun y => y.2.2) (fun y => y.1) (fun y => Option.bind (f40_l1 x0 y.1 y.2.1) K97 = some r ∧ y.2.2.get b7 = some (.iter (bs x0) y.2.1)) (k, 0, B1) rfl ⟨hp, it7⟩ (by exact ⟨rfl, rfl, trivial⟩) rfl rfl rfl ?_
    rintro ⟨n, p0_h97, B2⟩ ⟨hp, it7⟩ ih97
    show WJ _ _ _ B2 [] _ _ ⟨[(0, .v (.string (bs x0))), (7, .v (.pointer (some ⟨b7, 0, none⟩)))], [], true, 0⟩
    replace hp : Option.bind (f40_l1 x0 n p0_h97) K97 = some r := hp
    cases n with
    | zero => rw [f40_l1] at hp; exact (noS hp).elim
    | succ n =>
      rw [f40_l1] at hp
      refine WJ.nx 202 hp rfl rfl rfl rfl rfl rfl it7 h07 rfl rfl (fun hp B3 abB3 neB3 it_new => ?_) (fun hp => ?_)
      · replace it7 := it_new
        obtain ⟨s12, e12, hp⟩ := bindS hp
        refine WJ.adv 15 rfl ?_
        rw [enc_eq, Option.some.inj e12]
        refine WJ.adv 5 rfl ?_
        obtain ⟨K98, hK98, hp⟩ : ∃ K, K = _ ∧ Option.bind _ K = some r := ⟨_, rfl, cutS hp⟩
        refine WJ.cut 2 (α := Unit) (fun y => []) (fun y => []) (fun y => []) (fun y => B3) (fun y => K98 ((Sum.inr ())) = some r) ?_ (fun j98 => ?_)
        · rintro u hp
          subst hK98
          show WJ _ _ _ B3 [] _ _ ⟨[], [], true, 0⟩
          subst hK97
          obtain rfl := endS (show some _ = some r from hp)
          exact WJ.rt 204 rfl rfl rfl (fun ids H' fr => ⟨fr.ext0, rfl⟩)
        · refine WJ.ci 202 hp rfl rfl rfl rfl rfl rfl rfl rfl rfl (fun hc15 hp => ?_) (fun hc15 hp => ?_)
          · refine WJ.ci 204 hp rfl rfl rfl rfl rfl rfl rfl rfl rfl (fun hc20 hp => ?_) (fun hc20 hp => ?_)
            · obtain ⟨s25, e25, hp⟩ := bindS hp
              refine WJ.hd (v := .string (bs s25)) 204 rfl rfl rfl rfl (fun ids H' fr => opD_sh rfl (evV_eq _ _ _ _ _ rfl) (evV_eq _ _ _ _ _ rfl) (sliceD_h us9 e25)) rfl ?_
              obtain ⟨s27, e27, hp⟩ := bindS hp
              refine WJ.adv 2 rfl ?_
              rw [enc_eq, Option.some.inj e27]
              refine WJ.ci 200 hp rfl rfl rfl rfl rfl rfl (opD_streq rfl rfl rfl) rfl rfl (fun hc28 hp => ?_) (fun hc28 hp => ?_)
              · subst hK98
                subst hK97
                obtain rfl := endS (show some _ = some r from hp)
                exact WJ.rt 208 rfl rfl rfl (fun ids H' fr => ⟨fr.ext0, rfl⟩)
              · exact WJ.goto 4 (j98 () hp) rfl rfl (by exact trivial) rfl rfl rfl
            · exact WJ.goto 12 (j98 () hp) rfl rfl (by exact trivial) rfl rfl rfl
          · exact WJ.goto 17 (j98 () hp) rfl rfl (by exact trivial) rfl rfl rfl
      · exact WJ.goto 5 (j97 B2 hp) rfl rfl (by exact trivial) rfl rfl rfl
/-! 41 tipstaff/tipstaffref03.plain -/
def f41 (x0 : Int) : Option Bool :=
  if x0 ≥ 32 then
    if x0 ≤ 126 then
      if x0 = 34 then
        some false
      else
        (some (x0 != 92)).bind fun t15 =>
        some t15
    else
      some false
  else
    some false
set_option maxRecDepth 20000 in
theorem f41_ok {H : Hp} {x0 : Int} {r : Bool} (hp : f41 x0 = some r) :
    SCall Tryz.prog 41 [.int .u8 x0] H (Ret fun v H' => Ext H H' ∧ R_4 r H.next H' v) := by
  unfold f41 at hp
  replace hp := topS hp
  refine SCall.g Tryz.func41 rfl rfl rfl rfl rfl (l := [(0, .v (.int .u8 x0))]) (fun _ => rfl) (fun B abB => ?_)
  refine WJ.ci 207 hp rfl rfl rfl rfl rfl rfl rfl rfl rfl (fun hc4 hp => ?_) (fun hc4 hp => ?_)
  · refine WJ.ci 202 hp rfl rfl rfl rfl rfl rfl rfl rfl rfl (fun hc7 hp => ?_) (fun hc7 hp => ?_)
    · refine WJ.cn 203 hp rfl rfl rfl rfl rfl rfl rfl rfl rfl (fun hc11 hp => ?_) (fun hc11 hp => ?_)
      · obtain ⟨t15, e15, hp⟩ := bindS hp
        refine WJ.cv 203 (b := t15) (H0 := ⟨.nil, 0, 0⟩) rfl rfl rfl rfl rfl rfl (by rw [← endS e15]; exact rfl) rfl ?_
        obtain rfl := endS (show some _ = some r from hp)
        exact WJ.rt 203 rfl rfl rfl (fun ids H' fr => ⟨fr.ext0, rfl⟩)
      · obtain rfl := endS (show some _ = some r from hp)
        exact WJ.rt 207 rfl rfl rfl (fun ids H' fr => ⟨fr.ext0, rfl⟩)
    · obtain rfl := endS (show some _ = some r from hp)
      exact WJ.rt 211 rfl rfl rfl (fun ids H' fr => ⟨fr.ext0, rfl⟩)
  · obtain rfl := endS (show some _ = some r from hp)
    exact WJ.rt 214 rfl rfl rfl (fun ids H' fr => ⟨fr.ext0, rfl⟩)
/-! 57 tipstaff/tipstaffref03.value -/
def f57_l1 (x0_99 : Int) : Nat → Int → Option ((Int) ⊕ (Unit))
  | 0, _ => none
  | n + 1, x3 =>
    if x3 < 16 then
      (rd ([48, 49, 50, 51, 52, 53, 54, 55, 56, 57, 97, 98, 99, 100, 101, 102] : List UInt8) x3).bind fun b18 =>
      if ((b18.toNat : Nat) : Int) = x0_99 then
        some (Sum.inl (x3 : Int))
      else
        f57_l1 x0_99 n (IntKind.i64.wrap (x3 + 1))
    else
      some (Sum.inr ())

def f57 (k : Nat) (x0 : Int) : Option Int :=
  (if x0 ≥ 65 then
    if x0 ≤ 70 then
      some ((IntKind.u8.wrap ((IntKind.u8.wrap (x0 - 65)) + 97)))
    else
      some (x0)
  else
    some (x0)).bind fun x0_99 =>
    (f57_l1 x0_99 k 0).bind fun s => match s with
      | .inl st => some st
      | .inr _ => 
        some (-1)
set_option maxRecDepth 20000 in
theorem f57_ok {k : Nat} {H : Hp} {x0 : Int} {r : Int} (hp : f57 k x0 = some r) :
    SCall Tryz.prog 57 [.int .u8 x0] H (Ret fun v H' => Ext H H' ∧ R_3 r H.next H' v) := by
  unfold f57 at hp
  replace hp := topS hp
  refine SCall.g Tryz.func57 rfl rfl rfl rfl rfl (l := [(0, .v (.int .u8 x0))]) (fun _ => rfl) (fun B abB => ?_)
  refine WJ.adv 6 rfl ?_
  obtain ⟨K99, hK99, hp⟩ : ∃ K, K = _ ∧ Option.bind _ K = some r := ⟨_, rfl, cutS hp⟩
  refine WJ.cut 2 (α := Int) (fun y => [(0, .v (.int .u8 y))]) (fun y => []) (fun y => []) (fun y => B) (fun y => K99 ((y)) = some r) ?_ (fun j99 => ?_)
  · rintro x0_99 hp
    subst hK99
    show WJ _ _ _ B [] _ _ ⟨[(0, .v (.int .u8 x0_99))], [], true, 0⟩
    refine WJ.adv 6 rfl ?_
    obtain ⟨K100, hK100, hp⟩ : ∃ K, K = _ ∧ Option.bind _ K = some r := ⟨_, rfl, cutS hp⟩
    refine WJ.cut 2 (α := Unit) (fun y => []) (fun y => []) (fun y => []) (fun y => B) (fun y => K100 (Sum.inr ()) = some r) ?_ (fun j100 => ?_)
    · rintro u hp
      subst hK100
      show WJ _ _ _ B [] _ _ ⟨[], [], true, 0⟩
      obtain rfl := endS (show some _ = some r from hp)
      exact WJ.rt 204 rfl rfl rfl (fun ids H' fr => ⟨fr.ext0, rfl⟩)
    · refine WJ.lp 200 (α := Nat × Int) (fun y => [(0, .v (.int .u8 x0_99)), (3, .v (.int .i64 y.2))]) (fun y => []) (fun y => []) (fun y => B) (fun y => y.1) (fun y => Option.bind (f57_l1 x0_99 y.1 y.2) K100 = some r) (k, 0) rfl hp (by exact ⟨rfl, rfl, trivial⟩) rfl rfl rfl ?_
      rintro ⟨n, x3⟩ hp ih100
      show WJ _ _ _ B [] _ _ ⟨[(0, .v (.int .u8 x0_99)), (3, .v (.int .i64 x3))], [], true, 0⟩
      replace hp : Option.bind (f57_l1 x0_99 n x3) K100 = some r := hp
      cases n with
      | zero => rw [f57_l1] at hp; exact (noS hp).elim
      | succ n =>
        rw [f57_l1] at hp
        refine WJ.ci 204 hp rfl rfl rfl rfl rfl rfl rfl rfl rfl (fun hc14 hp => ?_) (fun hc14 hp => ?_)
        · obtain ⟨b18, e18, hp⟩ := bindS hp
          refine WJ.hd (v := .int .u8 ((b18.toNat : Nat) : Int)) 208 rfl rfl rfl rfl (fun ids H' fr => opD_index rfl (evV_eq _ _ _ _ _ rfl) (evV_eq _ _ _ _ _ rfl) (sidx us9 e18)) rfl ?_
          refine WJ.ci 201 hp rfl rfl rfl rfl rfl rfl rfl rfl rfl (fun hc20 hp => ?_) (fun hc20 hp => ?_)
          · subst hK100
            obtain rfl := endS (show some _ = some r from hp)
            exact WJ.rt 207 rfl rfl rfl (fun ids H' fr => ⟨fr.ext0, rfl⟩)
          · exact WJ.ag 209 rfl (by exact ⟨rfl, rfl, trivial⟩) rfl rfl rfl (ih100 (n, IntKind.i64.wrap (x3 + 1)) hp (Nat.lt_succ_self _))
        · exact WJ.goto 3 (j100 () hp) rfl rfl (by exact trivial) rfl rfl rfl
  · refine WJ.ci 202 hp rfl rfl rfl rfl rfl rfl rfl rfl rfl (fun hc5 hp => ?_) (fun hc5 hp => ?_)
    · refine WJ.ci 202 hp rfl rfl rfl rfl rfl rfl rfl rfl rfl (fun hc8 hp => ?_) (fun hc8 hp => ?_)
      · exact WJ.goto 9 (j99 (IntKind.u8.wrap ((IntKind.u8.wrap (x0 - 65)) + 97)) hp) rfl rfl (by exact ⟨rfl, trivial⟩) rfl rfl rfl
      · exact WJ.goto 4 (j99 x0 hp) rfl rfl (by exact ⟨rfl, trivial⟩) rfl rfl rfl
    · exact WJ.goto 7 (j99 x0 hp) rfl rfl (by exact ⟨rfl, trivial⟩) rfl rfl rfl
/-! 32 tipstaff/tipstaffref03.quoted -/
def f32_l1 (k : Nat) (x0 : List UInt8) : Nat → (List UInt8) → Int → Option (((List UInt8) × Int) ⊕ (Unit))
  | 0, _, _ => none
  | n + 1, x4, x5 =>
    if x5 < (x0.length : Int) then
      (sub x0 x5 (x0.length : Int)).bind fun s13 =>
      (f40 k s13).bind fun t14 =>
      (rd x0 x5).bind fun b37 =>
      if ((b37.toNat : Nat) : Int) = 34 then
        some (Sum.inl ((x4, IntKind.i64.wrap (x5 + 1)) : (List UInt8) × Int))
      else
        if t14 > 0 then
          (sub x0 x5 (IntKind.i64.wrap (x5 + t14))).bind fun s51 =>
          (scat x4 s51).bind fun s52 =>
          f32_l1 k x0 n s52 (IntKind.i64.wrap (x5 + t14))
        else
          (rd x0 x5).bind fun b59 =>
          (f41 ((b59.toNat : Nat) : Int)).bind fun t60 =>
          if t60 then
            (sub x0 x5 (IntKind.i64.wrap (x5 + 1))).bind fun s66 =>
            (scat x4 s66).bind fun s67 =>
            f32_l1 k x0 n s67 (IntKind.i64.wrap (x5 + 1))
          else
            (rd x0 x5).bind fun b73 =>
            if ((b73.toNat : Nat) : Int) = 92 then
              if (IntKind.i64.wrap (x5 + 1)) = (x0.length : Int) then
                some (Sum.inl ((([] : List UInt8), 0) : (List UInt8) × Int))
              else
                (rd x0 (IntKind.i64.wrap (x5 + 1))).bind fun b86 =>
                if ((b86.toNat : Nat) : Int) = 34 then
                  (sub x0 (IntKind.i64.wrap (x5 + 1)) (IntKind.i64.wrap (x5 + 2))).bind fun s101 =>
                  (scat x4 s101).bind fun s102 =>
                  f32_l1 k x0 n s102 (IntKind.i64.wrap (x5 + 2))
                else
                  (rd x0 (IntKind.i64.wrap (x5 + 1))).bind fun b92 =>
                  if ((b92.toNat : Nat) : Int) = 92 then
                    (sub x0 (IntKind.i64.wrap (x5 + 1)) (IntKind.i64.wrap (x5 + 2))).bind fun s101 =>
                    (scat x4 s101).bind fun s102 =>
                    f32_l1 k x0 n s102 (IntKind.i64.wrap (x5 + 2))
                  else
                    (rd x0 (IntKind.i64.wrap (x5 + 1))).bind fun b109 =>
                    if ((b109.toNat : Nat) : Int) = 120 then
                      if (IntKind.i64.wrap (x5 + 3)) ≥ (x0.length : Int) then
                        some (Sum.inl ((([] : List UInt8), 0) : (List UInt8) × Int))
                      else
                        (rd x0 (IntKind.i64.wrap (x5 + 2))).bind fun b122 =>
                        (f57 k ((b122.toNat : Nat) : Int)).bind fun t123 =>
                        if t123 < 0 then
                          some (Sum.inl ((([] : List UInt8), 0) : (List UInt8) × Int))
                        else
                          (rd x0 (IntKind.i64.wrap (x5 + 3))).bind fun b130 =>
                          (f57 k ((b130.toNat : Nat) : Int)).bind fun t131 =>
                          if t131 < 0 then
                            some (Sum.inl ((([] : List UInt8), 0) : (List UInt8) × Int))
                          else
                            (rd x0 (IntKind.i64.wrap (x5 + 2))).bind fun b19 =>
                            (f57 k ((b19.toNat : Nat) : Int)).bind fun t20 =>
                            (rd x0 (IntKind.i64.wrap (x5 + 3))).bind fun b25 =>
                            (f57 k ((b25.toNat : Nat) : Int)).bind fun t26 =>
                            (scat x4 (b8 ([IntKind.u8.wrap (IntKind.i64.wrap ((IntKind.i64.wrap (16 * t20)) + t26))]))).bind fun s31 =>
                            f32_l1 k x0 n s31 (IntKind.i64.wrap (x5 + 4))
                    else
                      some (Sum.inl ((([] : List UInt8), 0) : (List UInt8) × Int))
            else
              some (Sum.inl ((([] : List UInt8), 0) : (List UInt8) × Int))
    else
      some (Sum.inr ())

def f32 (k : Nat) (x0 : List UInt8) : Option ((List UInt8) × Int) :=
  (f32_l1 k x0 k ([] : List UInt8) 1).bind fun s => match s with
    | .inl st => some st
    | .inr _ => 
      some (([] : List UInt8), 0)
set_option maxRecDepth 20000 in
theorem f32_ok {k : Nat} {H : Hp} {x0 : List UInt8} {r : (List UInt8) × Int} (hp : f32 k x0 = some r) :
    SCall Tryz.prog 32 [.string (bs x0)] H (Ret fun v H' => Ext H H' ∧ R_9_3 r H.next H' v) := by
  unfold f32 at hp
  replace hp := topS hp
  refine SCall.g Tryz.func32 rfl rfl rfl rfl rfl (l := [(0, .v (.string (bs x0)))]) (fun _ => rfl) (fun B abB => ?_)
  refine WJ.adv 15 rfl ?_
  obtain ⟨K101, hK101, hp⟩ : ∃ K, K = _ ∧ Option.bind _ K = some r := ⟨_, rfl, cutS hp⟩
  refine WJ.cut 2 (α := Hp) (fun y => []) (fun y => []) (fun y => []) (fun y => y) (fun y => K101 (Sum.inr ()) = some r) ?_ (fun j101 => ?_)
  · rintro B8 hp
    subst hK101
    show WJ _ _ _ B8 [] _ _ ⟨[], [], true, 0⟩
    obtain rfl := endS (show some _ = some r from hp)
    exact WJ.rt 205 rfl rfl rfl (fun ids H' fr => ⟨fr.ext0, rfl⟩)
  · refine WJ.lp 200 (α := Nat × (List UInt8) × Int × Hp) (fun y => [(0, .v (.string (bs x0))), (4, .v (.string (bs y.2.1))), (5, .v (.int .i64 y.2.2.1))]) (fun y => []) (fun y => []) (fun y => y.2.2.2) (fun y => y.1) (fun y => Option.bind (f32_l1 k x0 y.1 y.2.1 y.2.2.1) K101 = some r) (k, ([] : List UInt8), 1, B) rfl hp (by exact ⟨rfl, rfl, rfl, trivial⟩) rfl rfl rfl ?_
    rintro ⟨n, x4, x5, B1⟩ hp ih101
    show WJ _ _ _ B1 [] _ _ ⟨[(0, .v (.string (bs x0))), (4, .v (.string (bs x4))), (5, .v (.int .i64 x5))], [], true, 0⟩
    replace hp : Option.bind (f32_l1 k x0 n x4 x5) K101 = some r := hp
    cases n with
    | zero => rw [f32_l1] at hp; exact (noS hp).elim
    | succ n =>
      rw [f32_l1] at hp
      refine WJ.ci 206 hp rfl rfl rfl rfl rfl rfl rfl rfl rfl (fun hc10 hp => ?_) (fun hc10 hp => ?_)
      · obtain ⟨s13, e13, hp⟩ := bindS hp
        refine WJ.hd (v := .string (bs s13)) 208 rfl rfl rfl rfl (fun ids H' fr => opD_sl rfl (evV_eq _ _ _ _ _ rfl) (evV_eq _ _ _ _ _ rfl) (sliceD_l us9 e13)) rfl ?_
        obtain ⟨t14, e14, hp⟩ := bindS hp
        refine WJ.cl 200 (R := R_3 t14) (fun hm h k => R_3.mono hm h k) rfl (fun ids H' fr => f40_ok e14) ?_
        rintro v B2 ⟨abB2, ivB2⟩ rfl
        refine ⟨_, rfl, ?_⟩
        obtain ⟨b37, e37, hp⟩ := bindS hp
        refine WJ.hd (v := .int .u8 ((b37.toNat : Nat) : Int)) 207 rfl rfl rfl rfl (fun ids H' fr => opD_index rfl (evV_eq _ _ _ _ _ rfl) (evV_eq _ _ _ _ _ rfl) (sidx us9 e37)) rfl ?_
        refine WJ.ci 200 hp rfl rfl rfl rfl rfl rfl rfl rfl rfl (fun hc38 hp => ?_) (fun hc38 hp => ?_)
        · subst hK101
          obtain rfl := endS (show some _ = some r from hp)
          exact WJ.rt 211 rfl rfl rfl (fun ids H' fr => ⟨fr.ext0, rfl⟩)
        · refine WJ.ci 206 hp rfl rfl rfl rfl rfl rfl rfl rfl rfl (fun hc44 hp => ?_) (fun hc44 hp => ?_)
          · obtain ⟨s51, e51, hp⟩ := bindS hp
            refine WJ.hd (v := .string (bs s51)) 211 rfl rfl rfl rfl (fun ids H' fr => opD_slh rfl (evV_eq _ _ _ _ _ rfl) (evV_eq _ _ _ _ _ rfl) (evV_eq _ _ _ _ _ rfl) (sliceD_lh us9 e51)) rfl ?_
            obtain ⟨s52, e52, hp⟩ := bindS hp
            refine WJ.hd (v := .string (bs s52)) 200 rfl rfl rfl rfl (fun ids H' fr => opD_bin rfl (evV_eq _ _ _ _ _ rfl) (evV_eq _ _ _ _ _ rfl) (bin_sadd e52)) rfl ?_
            exact WJ.ag 210 rfl (by exact ⟨rfl, rfl, rfl, trivial⟩) rfl rfl rfl (ih101 (n, s52, IntKind.i64.wrap (x5 + t14), B2) hp (Nat.lt_succ_self _))
          · obtain ⟨b59, e59, hp⟩ := bindS hp
            refine WJ.hd (v := .int .u8 ((b59.toNat : Nat) : Int)) 207 rfl rfl rfl rfl (fun ids H' fr => opD_index rfl (evV_eq _ _ _ _ _ rfl) (evV_eq _ _ _ _ _ rfl) (sidx us9 e59)) rfl ?_
            obtain ⟨t60, e60, hp⟩ := bindS hp
            refine WJ.cl 200 (R := R_4 t60) (fun hm h k => R_4.mono hm h k) rfl (fun ids H' fr => f41_ok e60) ?_
            rintro v B3 ⟨abB3, ivB3⟩ rfl
            refine ⟨_, rfl, ?_⟩
            cases t60
            · replace hp := (itS hp).2 Bool.false_ne_true
              obtain ⟨b73, e73, hp⟩ := bindS hp
              refine WJ.hd (v := .int .u8 ((b73.toNat : Nat) : Int)) 207 rfl rfl rfl rfl (fun ids H' fr => opD_index rfl (evV_eq _ _ _ _ _ rfl) (evV_eq _ _ _ _ _ rfl) (sidx us9 e73)) rfl ?_
              refine WJ.cn 200 hp rfl rfl rfl rfl rfl rfl rfl rfl rfl (fun hc74 hp => ?_) (fun hc74 hp => ?_)
              · subst hK101
                obtain rfl := endS (show some _ = some r from hp)
                exact WJ.rt 215 rfl rfl rfl (fun ids H' fr => ⟨fr.ext0, rfl⟩)
              · refine WJ.ci 205 hp rfl rfl rfl rfl rfl rfl rfl rfl rfl (fun hc80 hp => ?_) (fun hc80 hp => ?_)
                · subst hK101
                  obtain rfl := endS (show some _ = some r from hp)
                  exact WJ.rt 209 rfl rfl rfl (fun ids H' fr => ⟨fr.ext0, rfl⟩)
                · obtain ⟨b86, e86, hp⟩ := bindS hp
                  refine WJ.hd (v := .int .u8 ((b86.toNat : Nat) : Int)) 209 rfl rfl rfl rfl (fun ids H' fr => opD_index rfl (evV_eq _ _ _ _ _ rfl) (evV_eq _ _ _ _ _ rfl) (sidx us9 e86)) rfl ?_
                  refine WJ.ci 200 hp rfl rfl rfl rfl rfl rfl rfl rfl rfl (fun hc87 hp => ?_) (fun hc87 hp => ?_)
                  · obtain ⟨s101, e101, hp⟩ := bindS hp
                    refine WJ.hd (v := .string (bs s101)) 218 rfl rfl rfl rfl (fun ids H' fr => opD_slh rfl (evV_eq _ _ _ _ _ rfl) (evV_eq _ _ _ _ _ rfl) (evV_eq _ _ _ _ _ rfl) (sliceD_lh us9 e101)) rfl ?_
                    obtain ⟨s102, e102, hp⟩ := bindS hp
                    refine WJ.hd (v := .string (bs s102)) 200 rfl rfl rfl rfl (fun ids H' fr => opD_bin rfl (evV_eq _ _ _ _ _ rfl) (evV_eq _ _ _ _ _ rfl) (bin_sadd e102)) rfl ?_
                    exact WJ.ag 209 rfl (by exact ⟨rfl, rfl, rfl, trivial⟩) rfl rfl rfl (ih101 (n, s102, IntKind.i64.wrap (x5 + 2), B3) hp (Nat.lt_succ_self _))
                  · obtain ⟨b92, e92, hp⟩ := bindS hp
                    refine WJ.hd (v := .int .u8 ((b92.toNat : Nat) : Int)) 204 rfl rfl rfl rfl (fun ids H' fr => opD_index rfl (evV_eq _ _ _ _ _ rfl) (evV_eq _ _ _ _ _ rfl) (sidx us9 e92)) rfl ?_
                    refine WJ.ci 200 hp rfl rfl rfl rfl rfl rfl rfl rfl rfl (fun hc93 hp => ?_) (fun hc93 hp => ?_)
                    · obtain ⟨s101, e101, hp⟩ := bindS hp
                      refine WJ.hd (v := .string (bs s101)) 212 rfl rfl rfl rfl (fun ids H' fr => opD_slh rfl (evV_eq _ _ _ _ _ rfl) (evV_eq _ _ _ _ _ rfl) (evV_eq _ _ _ _ _ rfl) (sliceD_lh us9 e101)) rfl ?_
                      obtain ⟨s102, e102, hp⟩ := bindS hp
                      refine WJ.hd (v := .string (bs s102)) 200 rfl rfl rfl rfl (fun ids H' fr => opD_bin rfl (evV_eq _ _ _ _ _ rfl) (evV_eq _ _ _ _ _ rfl) (bin_sadd e102)) rfl ?_
                      exact WJ.ag 209 rfl (by exact ⟨rfl, rfl, rfl, trivial⟩) rfl rfl rfl (ih101 (n, s102, IntKind.i64.wrap (x5 + 2), B3) hp (Nat.lt_succ_self _))
                    · obtain ⟨b109, e109, hp⟩ := bindS hp
                      refine WJ.hd (v := .int .u8 ((b109.toNat : Nat) : Int)) 209 rfl rfl rfl rfl (fun ids H' fr => opD_index rfl (evV_eq _ _ _ _ _ rfl) (evV_eq _ _ _ _ _ rfl) (sidx us9 e109)) rfl ?_
                      refine WJ.cn 200 hp rfl rfl rfl rfl rfl rfl rfl rfl rfl (fun hc110 hp => ?_) (fun hc110 hp => ?_)
                      · subst hK101
                        obtain rfl := endS (show some _ = some r from hp)
                        exact WJ.rt 231 rfl rfl rfl (fun ids H' fr => ⟨fr.ext0, rfl⟩)
                      · refine WJ.ci 205 hp rfl rfl rfl rfl rfl rfl rfl rfl rfl (fun hc116 hp => ?_) (fun hc116 hp => ?_)
                        · subst hK101
                          obtain rfl := endS (show some _ = some r from hp)
                          exact WJ.rt 225 rfl rfl rfl (fun ids H' fr => ⟨fr.ext0, rfl⟩)
                        · obtain ⟨b122, e122, hp⟩ := bindS hp
                          refine WJ.hd (v := .int .u8 ((b122.toNat : Nat) : Int)) 205 rfl rfl rfl rfl (fun ids H' fr => opD_index rfl (evV_eq _ _ _ _ _ rfl) (evV_eq _ _ _ _ _ rfl) (sidx us9 e122)) rfl ?_
                          obtain ⟨t123, e123, hp⟩ := bindS hp
                          refine WJ.cl 200 (R := R_3 t123) (fun hm h k => R_3.mono hm h k) rfl (fun ids H' fr => f57_ok e123) ?_
                          rintro v B4 ⟨abB4, ivB4⟩ rfl
                          refine ⟨_, rfl, ?_⟩
                          refine WJ.ci 200 hp rfl rfl rfl rfl rfl rfl rfl rfl rfl (fun hc124 hp => ?_) (fun hc124 hp => ?_)
                          · subst hK101
                            obtain rfl := endS (show some _ = some r from hp)
                            exact WJ.rt 217 rfl rfl rfl (fun ids H' fr => ⟨fr.ext0, rfl⟩)
                          · obtain ⟨b130, e130, hp⟩ := bindS hp
                            refine WJ.hd (v := .int .u8 ((b130.toNat : Nat) : Int)) 205 rfl rfl rfl rfl (fun ids H' fr => opD_index rfl (evV_eq _ _ _ _ _ rfl) (evV_eq _ _ _ _ _ rfl) (sidx us9 e130)) rfl ?_
                            obtain ⟨t131, e131, hp⟩ := bindS hp
                            refine WJ.cl 200 (R := R_3 t131) (fun hm h k => R_3.mono hm h k) rfl (fun ids H' fr => f57_ok e131) ?_
                            rintro v B5 ⟨abB5, ivB5⟩ rfl
                            refine ⟨_, rfl, ?_⟩
                            refine WJ.ci 200 hp rfl rfl rfl rfl rfl rfl rfl rfl rfl (fun hc132 hp => ?_) (fun hc132 hp => ?_)
                            · subst hK101
                              obtain rfl := endS (show some _ = some r from hp)
                              exact WJ.rt 209 rfl rfl rfl (fun ids H' fr => ⟨fr.ext0, rfl⟩)
                            · refine WJ.dr 205 rfl gmix (by kernel_rfl) (by kernel_rfl) rfl ?_
                              obtain ⟨b19, e19, hp⟩ := bindS hp
                              refine WD.hd (v := .int .u8 ((b19.toNat : Nat) : Int)) rfl rfl rfl rfl (fun _ _ _ _ _ => side_no) (fun ids H' fr => opD_index rfl (evV_eq _ _ _ _ _ rfl) (evV_eq _ _ _ _ _ rfl) (sidx us9 e19)) rfl ?_
                              obtain ⟨t20, e20, hp⟩ := bindS hp
                              refine WD.cl (R := R_3 t20) (fun hm h k => R_3.mono hm h k) rfl (fun ids H' fr => f57_ok e20) ?_
                              rintro v B6 ⟨abB6, ivB6⟩ rfl
                              refine ⟨_, rfl, ?_⟩
                              obtain ⟨b25, e25, hp⟩ := bindS hp
                              refine WD.hd (v := .int .u8 ((b25.toNat : Nat) : Int)) rfl rfl rfl rfl (fun _ _ _ _ _ => side_no) (fun ids H' fr => opD_index rfl (evV_eq _ _ _ _ _ rfl) (evV_eq _ _ _ _ _ rfl) (sidx us9 e25)) rfl ?_
                              obtain ⟨t26, e26, hp⟩ := bindS hp
                              refine WD.cl (R := R_3 t26) (fun hm h k => R_3.mono hm h k) rfl (fun ids H' fr => f57_ok e26) ?_
                              rintro v B7 ⟨abB7, ivB7⟩ rfl
                              refine ⟨_, rfl, ?_⟩
                              refine WD.bs (cs := encL (kE .u8) [IntKind.u8.wrap (IntKind.i64.wrap ((IntKind.i64.wrap (16 * t20)) + t26))]) (sz := 1) (pl := [(0, .int .u8 (IntKind.u8.wrap (IntKind.i64.wrap ((IntKind.i64.wrap (16 * t20)) + t26))))]) rfl rfl rfl rfl rfl (fun _ _ => rfl) (fun _ => by rfl) rfl rfl ?_
                              intro b29
                              refine ⟨_, rfl, ?_⟩
                              refine WD.hd (v := .string (bs (b8 ([IntKind.u8.wrap (IntKind.i64.wrap ((IntKind.i64.wrap (16 * t20)) + t26))])))) rfl rfl rfl rfl (fun _ _ _ _ _ => side_no) (fun ids H' fr => opD_conv rfl (evV_eq _ _ _ _ _ rfl) (fr.convOwn (j := 0) rfl u61 us9 u8_5)) rfl ?_
                              obtain ⟨s31, e31, hp⟩ := bindS hp
                              refine WD.hd (v := .string (bs s31)) rfl rfl rfl rfl (fun _ _ _ _ _ => side_no) (fun ids H' fr => opD_bin rfl (evV_eq _ _ _ _ _ rfl) (evV_eq _ _ _ _ _ rfl) (bin_sadd e31)) rfl ?_
                              refine WD.done rfl ?_
                              exact WJ.ag 207 rfl (by exact ⟨rfl, rfl, rfl, trivial⟩) rfl rfl rfl (ih101 (n, s31, IntKind.i64.wrap (x5 + 4), B7) hp (Nat.lt_succ_self _))
            · replace hp := (itS hp).1 rfl
              obtain ⟨s66, e66, hp⟩ := bindS hp
              refine WJ.hd (v := .string (bs s66)) 210 rfl rfl rfl rfl (fun ids H' fr => opD_slh rfl (evV_eq _ _ _ _ _ rfl) (evV_eq _ _ _ _ _ rfl) (evV_eq _ _ _ _ _ rfl) (sliceD_lh us9 e66)) rfl ?_
              obtain ⟨s67, e67, hp⟩ := bindS hp
              refine WJ.hd (v := .string (bs s67)) 200 rfl rfl rfl rfl (fun ids H' fr => opD_bin rfl (evV_eq _ _ _ _ _ rfl) (evV_eq _ _ _ _ _ rfl) (bin_sadd e67)) rfl ?_
              exact WJ.ag 209 rfl (by exact ⟨rfl, rfl, rfl, trivial⟩) rfl rfl rfl (ih101 (n, s67, IntKind.i64.wrap (x5 + 1), B3) hp (Nat.lt_succ_self _))
      · exact WJ.goto 3 (j101 B1 hp) rfl rfl (by exact trivial) rfl rfl rfl
/-! 43 tipstaff/tipstaffref03.letter -/
def f43 (x0 : Int) : Option Bool :=
  if x0 ≥ 97 then
    if x0 ≤ 122 then
      some true
    else
      if x0 ≥ 65 then
        (some (decide (x0 ≤ 90))).bind fun t14 =>
        some t14
      else
        some false
  else
    if x0 ≥ 65 then
      (some (decide (x0 ≤ 90))).bind fun t14 =>
      some t14
    else
      some false
set_option maxRecDepth 20000 in
theorem f43_ok {H : Hp} {x0 : Int} {r : Bool} (hp : f43 x0 = some r) :
    SCall Tryz.prog 43 [.int .u8 x0] H (Ret fun v H' => Ext H H' ∧ R_4 r H.next H' v) := by
  unfold f43 at hp
  replace hp := topS hp
  refine SCall.g Tryz.func43 rfl rfl rfl rfl rfl (l := [(0, .v (.int .u8 x0))]) (fun _ => rfl) (fun B abB => ?_)
  refine WJ.ci 207 hp rfl rfl rfl rfl rfl rfl rfl rfl rfl (fun hc4 hp => ?_) (fun hc4 hp => ?_)
  · refine WJ.ci 202 hp rfl rfl rfl rfl rfl rfl rfl rfl rfl (fun hc7 hp => ?_) (fun hc7 hp => ?_)
    · obtain rfl := endS (show some _ = some r from hp)
      exact WJ.rt 211 rfl rfl rfl (fun ids H' fr => ⟨fr.ext0, rfl⟩)
    · refine WJ.ci 203 hp rfl rfl rfl rfl rfl rfl rfl rfl rfl (fun hc11 hp => ?_) (fun hc11 hp => ?_)
      · obtain ⟨t14, e14, hp⟩ := bindS hp
        refine WJ.cv 202 (b := t14) (H0 := ⟨.nil, 0, 0⟩) rfl rfl rfl rfl rfl rfl (by rw [← endS e14]; exact rfl) rfl ?_
        obtain rfl := endS (show some _ = some r from hp)
        exact WJ.rt 204 rfl rfl rfl (fun ids H' fr => ⟨fr.ext0, rfl⟩)
      · obtain rfl := endS (show some _ = some r from hp)
        exact WJ.rt 207 rfl rfl rfl (fun ids H' fr => ⟨fr.ext0, rfl⟩)
  · refine WJ.ci 206 hp rfl rfl rfl rfl rfl rfl rfl rfl rfl (fun hc11 hp => ?_) (fun hc11 hp => ?_)
    · obtain ⟨t14, e14, hp⟩ := bindS hp
      refine WJ.cv 202 (b := t14) (H0 := ⟨.nil, 0, 0⟩) rfl rfl rfl rfl rfl rfl (by rw [← endS e14]; exact rfl) rfl ?_
      obtain rfl := endS (show some _ = some r from hp)
      exact WJ.rt 204 rfl rfl rfl (fun ids H' fr => ⟨fr.ext0, rfl⟩)
    · obtain rfl := endS (show some _ = some r from hp)
      exact WJ.rt 207 rfl rfl rfl (fun ids H' fr => ⟨fr.ext0, rfl⟩)
/-! 44 tipstaff/tipstaffref03.digit -/
def f44 (x0 : Int) : Option Bool :=
  if x0 ≥ 48 then
    (some (decide (x0 ≤ 57))).bind fun t7 =>
    some t7
  else
    some false
set_option maxRecDepth 20000 in
theorem f44_ok {H : Hp} {x0 : Int} {r : Bool} (hp : f44 x0 = some r) :
    SCall Tryz.prog 44 [.int .u8 x0] H (Ret fun v H' => Ext H H' ∧ R_4 r H.next H' v) := by
  unfold f44 at hp
  replace hp := topS hp
  refine SCall.g Tryz.func44 rfl rfl rfl rfl rfl (l := [(0, .v (.int .u8 x0))]) (fun _ => rfl) (fun B abB => ?_)
  refine WJ.ci 207 hp rfl rfl rfl rfl rfl rfl rfl rfl rfl (fun hc4 hp => ?_) (fun hc4 hp => ?_)
  · obtain ⟨t7, e7, hp⟩ := bindS hp
    refine WJ.cv 202 (b := t7) (H0 := ⟨.nil, 0, 0⟩) rfl rfl rfl rfl rfl rfl (by rw [← endS e7]; exact rfl) rfl ?_
    obtain rfl := endS (show some _ = some r from hp)
    exact WJ.rt 203 rfl rfl rfl (fun ids H' fr => ⟨fr.ext0, rfl⟩)
  · obtain rfl := endS (show some _ = some r from hp)
    exact WJ.rt 206 rfl rfl rfl (fun ids H' fr => ⟨fr.ext0, rfl⟩)
/-! 17 tipstaff/tipstaffref03.Name -/
def f17_l1 (x0 : List UInt8) : Nat → Int → Option ((Bool) ⊕ (Unit))
  | 0, _ => none
  | n + 1, x3 =>
    if x3 < (x0.length : Int) then
      (rd x0 x3).bind fun b26 =>
      (f43 ((b26.toNat : Nat) : Int)).bind fun t27 =>
      if t27 then
        f17_l1 x0 n (IntKind.i64.wrap (x3 + 1))
      else
        (rd x0 x3).bind fun b32 =>
        (f44 ((b32.toNat : Nat) : Int)).bind fun t33 =>
        if t33 then
          f17_l1 x0 n (IntKind.i64.wrap (x3 + 1))
        else
          (rd x0 x3).bind fun b39 =>
          if ((b39.toNat : Nat) : Int) = 45 then
            f17_l1 x0 n (IntKind.i64.wrap (x3 + 1))
          else
            some (Sum.inl (false : Bool))
    else
      some (Sum.inr ())

def f17 (k : Nat) (x0 : List UInt8) : Option Bool :=
  if (x0.length : Int) < 1 then
    some false
  else
    if (x0.length : Int) > 16 then
      some false
    else
      (rd x0 0).bind fun b14 =>
      (f43 ((b14.toNat : Nat) : Int)).bind fun t15 =>
      if t15 then
        (f17_l1 x0 k 0).bind fun s => match s with
          | .inl st => some st
          | .inr _ => 
            some true
      else
        some false
set_option maxRecDepth 20000 in
theorem f17_ok {k : Nat} {H : Hp} {x0 : List UInt8} {r : Bool} (hp : f17 k x0 = some r) :
    SCall Tryz.prog 17 [.string (bs x0)] H (Ret fun v H' => Ext H H' ∧ R_4 r H.next H' v) := by
  unfold f17 at hp
  replace hp := topS hp
  refine SCall.g Tryz.func17 rfl rfl rfl rfl rfl (l := [(0, .v (.string (bs x0)))]) (fun _ => rfl) (fun B abB => ?_)
  refine WJ.ci 209 hp rfl rfl rfl rfl rfl rfl rfl rfl rfl (fun hc6 hp => ?_) (fun hc6 hp => ?_)
  · obtain rfl := endS (show some _ = some r from hp)
    exact WJ.rt 217 rfl rfl rfl (fun ids H' fr => ⟨fr.ext0, rfl⟩)
  · refine WJ.ci 203 hp rfl rfl rfl rfl rfl rfl rfl rfl rfl (fun hc10 hp => ?_) (fun hc10 hp => ?_)
    · obtain rfl := endS (show some _ = some r from hp)
      exact WJ.rt 213 rfl rfl rfl (fun ids H' fr => ⟨fr.ext0, rfl⟩)
    · obtain ⟨b14, e14, hp⟩ := bindS hp
      refine WJ.hd (v := .int .u8 ((b14.toNat : Nat) : Int)) 203 rfl rfl rfl rfl (fun ids H' fr => opD_index rfl (evV_eq _ _ _ _ _ rfl) (evV_eq _ _ _ _ _ rfl) (sidx us9 e14)) rfl ?_
      obtain ⟨t15, e15, hp⟩ := bindS hp
      refine WJ.cl 200 (R := R_4 t15) (fun hm h k => R_4.mono hm h k) rfl (fun ids H' fr => f43_ok e15) ?_
      rintro v B1 ⟨abB1, ivB1⟩ rfl
      refine ⟨_, rfl, ?_⟩
      cases t15
      · replace hp := (itS hp).2 Bool.false_ne_true
        obtain rfl := endS (show some _ = some r from hp)
        exact WJ.rt 208 rfl rfl rfl (fun ids H' fr => ⟨fr.ext0, rfl⟩)
      · replace hp := (itS hp).1 rfl
        refine WJ.adv 11 rfl ?_
        obtain ⟨K102, hK102, hp⟩ : ∃ K, K = _ ∧ Option.bind _ K = some r := ⟨_, rfl, cutS hp⟩
        refine WJ.cut 2 (α := Hp) (fun y => []) (fun y => []) (fun y => []) (fun y => y) (fun y => K102 (Sum.inr ()) = some r) ?_ (fun j102 => ?_)
        · rintro B5 hp
          subst hK102
          show WJ _ _ _ B5 [] _ _ ⟨[], [], true, 0⟩
          obtain rfl := endS (show some _ = some r from hp)
          exact WJ.rt 204 rfl rfl rfl (fun ids H' fr => ⟨fr.ext0, rfl⟩)
        · refine WJ.lp 200 (α := Nat × Int × Hp) (fun y => [(0, .v (.string (bs x0))), (3, .v (.int .i64 y.2.1))]) (fun y => []) (fun y => []) (fun y => y.2.2) (fun y => y.1) (fun y => Option.bind (f17_l1 x0 y.1 y.2.1) K102 = some r) (k, 0, B1) rfl hp (by exact ⟨rfl, rfl, trivial⟩) rfl rfl rfl ?_
          rintro ⟨n, x3, B2⟩ hp ih102
          show WJ _ _ _ B2 [] _ _ ⟨[(0, .v (.string (bs x0))), (3, .v (.int .i64 x3))], [], true, 0⟩
          replace hp : Option.bind (f17_l1 x0 n x3) K102 = some r := hp
          cases n with
          | zero => rw [f17_l1] at hp; exact (noS hp).elim
          | succ n =>
            rw [f17_l1] at hp
            refine WJ.ci 206 hp rfl rfl rfl rfl rfl rfl rfl rfl rfl (fun hc21 hp => ?_) (fun hc21 hp => ?_)
            · obtain ⟨b26, e26, hp⟩ := bindS hp
              refine WJ.hd (v := .int .u8 ((b26.toNat : Nat) : Int)) 209 rfl rfl rfl rfl (fun ids H' fr => opD_index rfl (evV_eq _ _ _ _ _ rfl) (evV_eq _ _ _ _ _ rfl) (sidx us9 e26)) rfl ?_
              obtain ⟨t27, e27, hp⟩ := bindS hp
              refine WJ.cl 200 (R := R_4 t27) (fun hm h k => R_4.mono hm h k) rfl (fun ids H' fr => f43_ok e27) ?_
              rintro v B3 ⟨abB3, ivB3⟩ rfl
              refine ⟨_, rfl, ?_⟩
              cases t27
              · replace hp := (itS hp).2 Bool.false_ne_true
                obtain ⟨b32, e32, hp⟩ := bindS hp
                refine WJ.hd (v := .int .u8 ((b32.toNat : Nat) : Int)) 204 rfl rfl rfl rfl (fun ids H' fr => opD_index rfl (evV_eq _ _ _ _ _ rfl) (evV_eq _ _ _ _ _ rfl) (sidx us9 e32)) rfl ?_
                obtain ⟨t33, e33, hp⟩ := bindS hp
                refine WJ.cl 200 (R := R_4 t33) (fun hm h k => R_4.mono hm h k) rfl (fun ids H' fr => f44_ok e33) ?_
                rintro v B4 ⟨abB4, ivB4⟩ rfl
                refine ⟨_, rfl, ?_⟩
                cases t33
                · replace hp := (itS hp).2 Bool.false_ne_true
                  obtain ⟨b39, e39, hp⟩ := bindS hp
                  refine WJ.hd (v := .int .u8 ((b39.toNat : Nat) : Int)) 205 rfl rfl rfl rfl (fun ids H' fr => opD_index rfl (evV_eq _ _ _ _ _ rfl) (evV_eq _ _ _ _ _ rfl) (sidx us9 e39)) rfl ?_
                  refine WJ.cn 200 hp rfl rfl rfl rfl rfl rfl rfl rfl rfl (fun hc40 hp => ?_) (fun hc40 hp => ?_)
                  · subst hK102
                    obtain rfl := endS (show some _ = some r from hp)
                    exact WJ.rt 207 rfl rfl rfl (fun ids H' fr => ⟨fr.ext0, rfl⟩)
                  · exact WJ.ag 210 rfl (by exact ⟨rfl, rfl, trivial⟩) rfl rfl rfl (ih102 (n, IntKind.i64.wrap (x3 + 1), B4) hp (Nat.lt_succ_self _))
                · replace hp := (itS hp).1 rfl
                  exact WJ.ag 217 rfl (by exact ⟨rfl, rfl, trivial⟩) rfl rfl rfl (ih102 (n, IntKind.i64.wrap (x3 + 1), B4) hp (Nat.lt_succ_self _))
              · replace hp := (itS hp).1 rfl
                exact WJ.ag 223 rfl (by exact ⟨rfl, rfl, trivial⟩) rfl rfl rfl (ih102 (n, IntKind.i64.wrap (x3 + 1), B3) hp (Nat.lt_succ_self _))
            · exact WJ.goto 3 (j102 B2 hp) rfl rfl (by exact trivial) rfl rfl rfl
/-! 69 tipstaff/tipstaffref03.number -/
def f69_l1 (x0_104 : List UInt8) : Nat → Int → Int → Option ((Int × Bool) ⊕ (Int))
  | 0, _, _ => none
  | n + 1, x5, x6 =>
    if x6 < (x0_104.length : Int) then
      (rd x0_104 x6).bind fun b46 =>
      (f44 ((b46.toNat : Nat) : Int)).bind fun t47 =>
      if t47 then
        (rd x0_104 x6).bind fun b53 =>
        f69_l1 x0_104 n (IntKind.i64.wrap ((IntKind.i64.wrap (10 * x5)) + (IntKind.i64.wrap (IntKind.u8.wrap (((b53.toNat : Nat) : Int) - 48))))) (IntKind.i64.wrap (x6 + 1))
      else
        some (Sum.inl ((0, false) : Int × Bool))
    else
      some (Sum.inr x5)

def f69 (k : Nat) (x0 : List UInt8) : Option (Int × Bool) :=
  (if (x0.length : Int) > 1 then
    (rd x0 0).bind fun b12 =>
    (some (((b12.toNat : Nat) : Int) == 45)).bind fun t13 =>
    some (t13)
  else
    some (false)).bind fun x4_103 =>
    (if x4_103 then
      (sub x0 1 (x0.length : Int)).bind fun s17 =>
      some (s17)
    else
      some (x0)).bind fun x0_104 =>
      (if x0_104 = ([] : List UInt8) then
        some (Sum.inl ((0, false) : Int × Bool))
      else
        if (x0_104.length : Int) > 13 then
          some (Sum.inl ((0, false) : Int × Bool))
        else
          (rd x0_104 0).bind fun b27 =>
          if ((b27.toNat : Nat) : Int) = 48 then
            if (x0_104.length : Int) > 1 then
              some (Sum.inl ((0, false) : Int × Bool))
            else
              if x4_103 then
                some (Sum.inl ((0, false) : Int × Bool))
              else
                some (Sum.inr ())
          else
            some (Sum.inr ())).bind fun s => match s with
        | .inl st => some st
        | .inr _ => 
          (f69_l1 x0_104 k 0 0).bind fun s => match s with
            | .inl st => some st
            | .inr x5_106 => 
              if x5_106 > 1099511627776 then
                some (0, false)
              else
                (if x4_103 then
                  some ((IntKind.i64.wrap (0 - x5_106)))
                else
                  some (x5_106)).bind fun x5_107 =>
                  some (x5_107, true)
set_option maxRecDepth 20000 in
theorem f69_ok {k : Nat} {H : Hp} {x0 : List UInt8} {r : Int × Bool} (hp : f69 k x0 = some r) :
    SCall Tryz.prog 69 [.string (bs x0)] H (Ret fun v H' => Ext H H' ∧ R_3_4 r H.next H' v) := by
  unfold f69 at hp
  replace hp := topS hp
  refine SCall.g Tryz.func69 rfl rfl rfl rfl rfl (l := [(0, .v (.string (bs x0)))]) (fun _ => rfl) (fun B abB => ?_)
  refine WJ.adv 6 rfl ?_
  obtain ⟨K103, hK103, hp⟩ : ∃ K, K = _ ∧ Option.bind _ K = some r := ⟨_, rfl, cutS hp⟩
  refine WJ.cut 1 (α := Bool) (fun y => [(0, .v (.string (bs x0))), (4, .v (.bool y))]) (fun y => []) (fun y => []) (fun y => B) (fun y => K103 ((y)) = some r) ?_ (fun j103 => ?_)
  · rintro x4_103 hp
    subst hK103
    show WJ _ _ _ B [] _ _ ⟨[(0, .v (.string (bs x0))), (4, .v (.bool x4_103))], [], true, 0⟩
    refine WJ.adv 5 rfl ?_
    obtain ⟨K104, hK104, hp⟩ : ∃ K, K = _ ∧ Option.bind _ K = some r := ⟨_, rfl, cutS hp⟩
    refine WJ.cut 1 (α := (List UInt8)) (fun y => [(0, .v (.string (bs y))), (4, .v (.bool x4_103))]) (fun y => []) (fun y => []) (fun y => B) (fun y => K104 ((y)) = some r) ?_ (fun j104 => ?_)
    · rintro x0_104 hp
      subst hK104
      show WJ _ _ _ B [] _ _ ⟨[(0, .v (.string (bs x0_104))), (4, .v (.bool x4_103))], [], true, 0⟩
      refine WJ.adv 2 rfl ?_
      obtain ⟨K105, hK105, hp⟩ : ∃ K, K = _ ∧ Option.bind _ K = some r := ⟨_, rfl, cutS hp⟩
      refine WJ.cut 2 (α := Unit) (fun y => [(0, .v (.string (bs x0_104))), (4, .v (.bool x4_103))]) (fun y => []) (fun y => []) (fun y => B) (fun y => K105 ((Sum.inr ())) = some r) ?_ (fun j105 => ?_)
      · rintro u hp
        subst hK105
        show WJ _ _ _ B [] _ _ ⟨[(0, .v (.string (bs x0_104))), (4, .v (.bool x4_103))], [], true, 0⟩
        refine WJ.adv 10 rfl ?_
        obtain ⟨K106, hK106, hp⟩ : ∃ K, K = _ ∧ Option.bind _ K = some r := ⟨_, rfl, cutS hp⟩
        refine WJ.cut 2 (α := Int × Hp) (fun y => [(4, .v (.bool x4_103)), (5, .v (.int .i64 y.1))]) (fun y => []) (fun y => []) (fun y => y.2) (fun y => K106 (Sum.inr y.1) = some r) ?_ (fun j106 => ?_)
        · rintro ⟨x5_106, B3⟩ hp
          subst hK106
          show WJ _ _ _ B3 [] _ _ ⟨[(4, .v (.bool x4_103)), (5, .v (.int .i64 x5_106))], [], true, 0⟩
          refine WJ.ci 204 hp rfl rfl rfl rfl rfl rfl rfl rfl rfl (fun hc58 hp => ?_) (fun hc58 hp => ?_)
          · obtain rfl := endS (show some _ = some r from hp)
            exact WJ.rt 207 rfl rfl rfl (fun ids H' fr => ⟨fr.ext0, rfl⟩)
          · refine WJ.adv 8 rfl ?_
            obtain ⟨K107, hK107, hp⟩ : ∃ K, K = _ ∧ Option.bind _ K = some r := ⟨_, rfl, cutS hp⟩
            refine WJ.cut 1 (α := Int) (fun y => [(5, .v (.int .i64 y))]) (fun y => []) (fun y => []) (fun y => B3) (fun y => K107 ((y)) = some r) ?_ (fun j107 => ?_)
            · rintro x5_107 hp
              subst hK107
              show WJ _ _ _ B3 [] _ _ ⟨[(5, .v (.int .i64 x5_107))], [], true, 0⟩
              obtain rfl := endS (show some _ = some r from hp)
              exact WJ.rt 206 rfl rfl rfl (fun ids H' fr => ⟨fr.ext0, rfl⟩)
            · cases x4_103
              · replace hp := (itS hp).2 Bool.false_ne_true
                exact WJ.goto 2 (j107 x5_106 hp) rfl rfl (by exact ⟨rfl, trivial⟩) rfl rfl rfl
              · replace hp := (itS hp).1 rfl
                exact WJ.goto 6 (j107 (IntKind.i64.wrap (0 - x5_106)) hp) rfl rfl (by exact ⟨rfl, trivial⟩) rfl rfl rfl
        · refine WJ.lp 200 (α := Nat × Int × Int × Hp) (fun y => [(0, .v (.string (bs x0_104))), (4, .v (.bool x4_103)), (5, .v (.int .i64 y.2.1)), (6, .v (.int .i64 y.2.2.1))]) (fun y => []) (fun y => []) (fun y => y.2.2.2) (fun y => y.1) (fun y => Option.bind (f69_l1 x0_104 y.1 y.2.1 y.2.2.1) K106 = some r) (k, 0, 0, B) rfl hp (by exact ⟨rfl, rfl, rfl, rfl, trivial⟩) rfl rfl rfl ?_
          rintro ⟨n, x5, x6, B1⟩ hp ih106
          show WJ _ _ _ B1 [] _ _ ⟨[(0, .v (.string (bs x0_104))), (4, .v (.bool x4_103)), (5, .v (.int .i64 x5)), (6, .v (.int .i64 x6))], [], true, 0⟩
          replace hp : Option.bind (f69_l1 x0_104 n x5 x6) K106 = some r := hp
          cases n with
          | zero => rw [f69_l1] at hp; exact (noS hp).elim
          | succ n =>
            rw [f69_l1] at hp
            refine WJ.ci 206 hp rfl rfl rfl rfl rfl rfl rfl rfl rfl (fun hc41 hp => ?_) (fun hc41 hp => ?_)
            · obtain ⟨b46, e46, hp⟩ := bindS hp
              refine WJ.hd (v := .int .u8 ((b46.toNat : Nat) : Int)) 210 rfl rfl rfl rfl (fun ids H' fr => opD_index rfl (evV_eq _ _ _ _ _ rfl) (evV_eq _ _ _ _ _ rfl) (sidx us9 e46)) rfl ?_
              obtain ⟨t47, e47, hp⟩ := bindS hp
              refine WJ.cl 200 (R := R_4 t47) (fun hm h k => R_4.mono hm h k) rfl (fun ids H' fr => f44_ok e47) ?_
              rintro v B2 ⟨abB2, ivB2⟩ rfl
              refine ⟨_, rfl, ?_⟩
              cases t47
              · replace hp := (itS hp).2 Bool.false_ne_true
                subst hK106
                obtain rfl := endS (show some _ = some r from hp)
                exact WJ.rt 208 rfl rfl rfl (fun ids H' fr => ⟨fr.ext0, rfl⟩)
              · replace hp := (itS hp).1 rfl
                obtain ⟨b53, e53, hp⟩ := bindS hp
                refine WJ.hd (v := .int .u8 ((b53.toNat : Nat) : Int)) 209 rfl rfl rfl rfl (fun ids H' fr => opD_index rfl (evV_eq _ _ _ _ _ rfl) (evV_eq _ _ _ _ _ rfl) (sidx us9 e53)) rfl ?_
                exact WJ.ag 211 rfl (by exact ⟨rfl, rfl, rfl, rfl, trivial⟩) rfl rfl rfl (ih106 (n, IntKind.i64.wrap ((IntKind.i64.wrap (10 * x5)) + (IntKind.i64.wrap (IntKind.u8.wrap (((b53.toNat : Nat) : Int) - 48)))), IntKind.i64.wrap (x6 + 1), B2) hp (Nat.lt_succ_self _))
            · exact WJ.goto 3 (j106 (x5, B1) hp) rfl rfl (by exact ⟨rfl, rfl, trivial⟩) rfl rfl rfl
      · refine WJ.ci 202 hp rfl rfl rfl rfl rfl rfl (opD_streq rfl rfl rfl) rfl rfl (fun hc19 hp => ?_) (fun hc19 hp => ?_)
        · subst hK105
          obtain rfl := endS (show some _ = some r from hp)
          exact WJ.rt 225 rfl rfl rfl (fun ids H' fr => ⟨fr.ext0, rfl⟩)
        · refine WJ.ci 203 hp rfl rfl rfl rfl rfl rfl rfl rfl rfl (fun hc23 hp => ?_) (fun hc23 hp => ?_)
          · subst hK105
            obtain rfl := endS (show some _ = some r from hp)
            exact WJ.rt 221 rfl rfl rfl (fun ids H' fr => ⟨fr.ext0, rfl⟩)
          · obtain ⟨b27, e27, hp⟩ := bindS hp
            refine WJ.hd (v := .int .u8 ((b27.toNat : Nat) : Int)) 203 rfl rfl rfl rfl (fun ids H' fr => opD_index rfl (evV_eq _ _ _ _ _ rfl) (evV_eq _ _ _ _ _ rfl) (sidx us9 e27)) rfl ?_
            refine WJ.ci 200 hp rfl rfl rfl rfl rfl rfl rfl rfl rfl (fun hc28 hp => ?_) (fun hc28 hp => ?_)
            · refine WJ.ci 203 hp rfl rfl rfl rfl rfl rfl rfl rfl rfl (fun hc32 hp => ?_) (fun hc32 hp => ?_)
              · subst hK105
                obtain rfl := endS (show some _ = some r from hp)
                exact WJ.rt 212 rfl rfl rfl (fun ids H' fr => ⟨fr.ext0, rfl⟩)
              · cases x4_103
                · replace hp := (itS hp).2 Bool.false_ne_true
                  exact WJ.goto 8 (j105 () hp) rfl rfl (by exact ⟨rfl, rfl, trivial⟩) rfl rfl rfl
                · replace hp := (itS hp).1 rfl
                  subst hK105
                  obtain rfl := endS (show some _ = some r from hp)
                  exact WJ.rt 212 rfl rfl rfl (fun ids H' fr => ⟨fr.ext0, rfl⟩)
            · exact WJ.goto 12 (j105 () hp) rfl rfl (by exact ⟨rfl, rfl, trivial⟩) rfl rfl rfl
    · cases x4_103
      · replace hp := (itS hp).2 Bool.false_ne_true
        exact WJ.goto 2 (j104 x0 hp) rfl rfl (by exact ⟨rfl, rfl, trivial⟩) rfl rfl rfl
      · replace hp := (itS hp).1 rfl
        obtain ⟨s17, e17, hp⟩ := bindS hp
        refine WJ.hd (v := .string (bs s17)) 203 rfl rfl rfl rfl (fun ids H' fr => opD_sl rfl (evV_eq _ _ _ _ _ rfl) (evV_eq _ _ _ _ _ rfl) (sliceD_l us9 e17)) rfl ?_
        exact WJ.goto 2 (j104 s17 hp) rfl rfl (by exact ⟨rfl, rfl, trivial⟩) rfl rfl rfl
  · refine WJ.ci 203 hp rfl rfl rfl rfl rfl rfl rfl rfl rfl (fun hc9 hp => ?_) (fun hc9 hp => ?_)
    · obtain ⟨b12, e12, hp⟩ := bindS hp
      refine WJ.hd (v := .int .u8 ((b12.toNat : Nat) : Int)) 202 rfl rfl rfl rfl (fun ids H' fr => opD_index rfl (evV_eq _ _ _ _ _ rfl) (evV_eq _ _ _ _ _ rfl) (sidx us9 e12)) rfl ?_
      obtain ⟨t13, e13, hp⟩ := bindS hp
      refine WJ.cv 200 (b := t13) (H0 := ⟨.nil, 0, 0⟩) rfl rfl rfl rfl rfl rfl (by rw [← endS e13]; exact rfl) rfl ?_
      exact WJ.goto 3 (j103 t13 hp) rfl rfl (by exact ⟨rfl, rfl, trivial⟩) rfl rfl rfl
    · exact WJ.goto 7 (j103 false hp) rfl rfl (by exact ⟨rfl, rfl, trivial⟩) rfl rfl rfl
/-! 55 tipstaff/tipstaffref03.word -/
def f55_l1 (x0 : List UInt8) : Nat → Int → Option (Int)
  | 0, _ => none
  | n + 1, x8 =>
    if x8 < (x0.length : Int) then
      (rd x0 x8).bind fun b53 =>
      (f54 ((b53.toNat : Nat) : Int)).bind fun t54 =>
      if t54 then
        some (x8)
      else
        f55_l1 x0 n (IntKind.i64.wrap (x8 + 1))
    else
      some (x8)

def f55 (k : Nat) (x0 : List UInt8) (x1 : Int) : Option (RowWord × Int) :=
  (rd x0 x1).bind fun b14 =>
  if ((b14.toNat : Nat) : Int) = 34 then
    (sub x0 x1 (x0.length : Int)).bind fun s19 =>
    (f32 k s19).bind fun (t20_0, t20_1) =>
    (if t20_1 > 0 then
      if (IntKind.i64.wrap (x1 + t20_1)) < (x0.length : Int) then
        (rd x0 (IntKind.i64.wrap (x1 + t20_1))).bind fun b38 =>
        (f54 ((b38.toNat : Nat) : Int)).bind fun t39 =>
        if t39 then
          some (t20_1)
        else
          some ((0 : Int))
      else
        some (t20_1)
    else
      some (t20_1)).bind fun x7_108 =>
      some ((RowWord.mk 0 3 t20_0 0), x7_108)
  else
    (f55_l1 x0 k x1).bind fun x8_109 =>
      (sub x0 x1 x8_109).bind fun s62 =>
      (f17 k s62).bind fun t64 =>
      if t64 then
        some ((RowWord.mk 0 1 s62 0), (s62.length : Int))
      else
        (f69 k s62).bind fun (t71_0, t71_1) =>
        if t71_1 then
          some ((RowWord.mk 0 2 ([] : List UInt8) t71_0), (s62.length : Int))
        else
          some ((RowWord.mk 0 0 ([] : List UInt8) 0), 0)
set_option maxRecDepth 20000 in
theorem f55_ok {k : Nat} {H : Hp} {x0 : List UInt8} {x1 : Int} {r : RowWord × Int} (hp : f55 k x0 x1 = some r) :
    SCall Tryz.prog 55 [.string (bs x0), .int .i64 x1] H (Ret fun v H' => Ext H H' ∧ R_36_3 r H.next H' v) := by
  unfold f55 at hp
  replace hp := topS hp
  refine SCall.g Tryz.func55 rfl rfl rfl rfl rfl (l := [(0, .v (.string (bs x0))), (1, .v (.int .i64 x1))]) (fun _ => rfl) (fun B abB => ?_)
  obtain ⟨b14, e14, hp⟩ := bindS hp
  refine WJ.hd (v := .int .u8 ((b14.toNat : Nat) : Int)) 210 rfl rfl rfl rfl (fun ids H' fr => opD_index rfl (evV_eq _ _ _ _ _ rfl) (evV_eq _ _ _ _ _ rfl) (sidx us9 e14)) rfl ?_
  refine WJ.ci 200 hp rfl rfl rfl rfl rfl rfl rfl rfl rfl (fun hc15 hp => ?_) (fun hc15 hp => ?_)
  · obtain ⟨s19, e19, hp⟩ := bindS hp
    refine WJ.hd (v := .string (bs s19)) 206 rfl rfl rfl rfl (fun ids H' fr => opD_sl rfl (evV_eq _ _ _ _ _ rfl) (evV_eq _ _ _ _ _ rfl) (sliceD_l us9 e19)) rfl ?_
    obtain ⟨⟨t20_0, t20_1⟩, e20, hp⟩ := bindS hp
    refine WJ.cl 200 (R := R_9_3 ⟨t20_0, t20_1⟩) (fun hm h k => R_9_3.mono hm h k) rfl (fun ids H' fr => f32_ok e20) ?_
    rintro v B1 ⟨abB1, ivB1⟩ rfl
    refine ⟨_, rfl, ?_⟩
    refine WJ.adv 8 rfl ?_
    obtain ⟨K108, hK108, hp⟩ : ∃ K, K = _ ∧ Option.bind _ K = some r := ⟨_, rfl, cutS hp⟩
    refine WJ.cut 2 (α := Int × Hp) (fun y => [(4, .p 0 0), (6, .v (.string (bs t20_0))), (7, .v (.int .i64 y.1))]) (fun y => [[.int .i64 0, .int .i64 0, .string (bs ([] : List UInt8)), .int .i64 0]]) (fun y => []) (fun y => y.2) (fun y => K108 ((y.1)) = some r) ?_ (fun j108 => ?_)
    · rintro ⟨x7_108, B3⟩ hp
      subst hK108
      show WJ _ _ _ B3 [] _ _ ⟨[(4, .p 0 0), (6, .v (.string (bs t20_0))), (7, .v (.int .i64 x7_108))], [[.int .i64 0, .int .i64 0, .string (bs ([] : List UInt8)), .int .i64 0]], true, 0⟩
      obtain rfl := endS (show some _ = some r from hp)
      exact WJ.rt 208 rfl rfl rfl (fun ids H' fr => ⟨fr.ext0, rfl⟩)
    · refine WJ.ci 202 hp rfl rfl rfl rfl rfl rfl rfl rfl rfl (fun hc24 hp => ?_) (fun hc24 hp => ?_)
      · refine WJ.ci 206 hp rfl rfl rfl rfl rfl rfl rfl rfl rfl (fun hc31 hp => ?_) (fun hc31 hp => ?_)
        · obtain ⟨b38, e38, hp⟩ := bindS hp
          refine WJ.hd (v := .int .u8 ((b38.toNat : Nat) : Int)) 206 rfl rfl rfl rfl (fun ids H' fr => opD_index rfl (evV_eq _ _ _ _ _ rfl) (evV_eq _ _ _ _ _ rfl) (sidx us9 e38)) rfl ?_
          obtain ⟨t39, e39, hp⟩ := bindS hp
          refine WJ.cl 200 (R := R_4 t39) (fun hm h k => R_4.mono hm h k) rfl (fun ids H' fr => f54_ok e39) ?_
          rintro v B2 ⟨abB2, ivB2⟩ rfl
          refine ⟨_, rfl, ?_⟩
          cases t39
          · replace hp := (itS hp).2 Bool.false_ne_true
            exact WJ.goto 7 (j108 (0, B2) hp) rfl rfl (by exact ⟨rfl, rfl, rfl, trivial⟩) rfl rfl rfl
          · replace hp := (itS hp).1 rfl
            exact WJ.goto 5 (j108 (t20_1, B2) hp) rfl rfl (by exact ⟨rfl, rfl, rfl, trivial⟩) rfl rfl rfl
        · exact WJ.goto 13 (j108 (t20_1, B1) hp) rfl rfl (by exact ⟨rfl, rfl, rfl, trivial⟩) rfl rfl rfl
      · exact WJ.goto 20 (j108 (t20_1, B1) hp) rfl rfl (by exact ⟨rfl, rfl, rfl, trivial⟩) rfl rfl rfl
  · refine WJ.adv 10 rfl ?_
    obtain ⟨K109, hK109, hp⟩ : ∃ K, K = _ ∧ Option.bind _ K = some r := ⟨_, rfl, cutS hp⟩
    refine WJ.cut 2 (α := Int × Hp) (fun y => [(0, .v (.string (bs x0))), (1, .v (.int .i64 x1)), (4, .p 0 0), (8, .v (.int .i64 y.1))]) (fun y => [[.int .i64 0, .int .i64 0, .string (bs ([] : List UInt8)), .int .i64 0]]) (fun y => []) (fun y => y.2) (fun y => K109 (y.1) = some r) ?_ (fun j109 => ?_)
    · rintro ⟨x8_109, B6⟩ hp
      subst hK109
      show WJ _ _ _ B6 [] _ _ ⟨[(0, .v (.string (bs x0))), (1, .v (.int .i64 x1)), (4, .p 0 0), (8, .v (.int .i64 x8_109))], [[.int .i64 0, .int .i64 0, .string (bs ([] : List UInt8)), .int .i64 0]], true, 0⟩
      obtain ⟨s62, e62, hp⟩ := bindS hp
      refine WJ.hd (v := .string (bs s62)) 205 rfl rfl rfl rfl (fun ids H' fr => opD_slh rfl (evV_eq _ _ _ _ _ rfl) (evV_eq _ _ _ _ _ rfl) (evV_eq _ _ _ _ _ rfl) (sliceD_lh us9 e62)) rfl ?_
      obtain ⟨t64, e64, hp⟩ := bindS hp
      refine WJ.cl 206 (R := R_4 t64) (fun hm h k => R_4.mono hm h k) rfl (fun ids H' fr => f17_ok e64) ?_
      rintro v B7 ⟨abB7, ivB7⟩ rfl
      refine ⟨_, rfl, ?_⟩
      cases t64
      · replace hp := (itS hp).2 Bool.false_ne_true
        obtain ⟨⟨t71_0, t71_1⟩, e71, hp⟩ := bindS hp
        refine WJ.cl 207 (R := R_3_4 ⟨t71_0, t71_1⟩) (fun hm h k => R_3_4.mono hm h k) rfl (fun ids H' fr => f69_ok e71) ?_
        rintro v B8 ⟨abB8, ivB8⟩ rfl
        refine ⟨_, rfl, ?_⟩
        cases t71_1
        · replace hp := (itS hp).2 Bool.false_ne_true
          obtain rfl := endS (show some _ = some r from hp)
          exact WJ.rt 218 rfl rfl rfl (fun ids H' fr => ⟨fr.ext0, rfl⟩)
        · replace hp := (itS hp).1 rfl
          obtain rfl := endS (show some _ = some r from hp)
          exact WJ.rt 220 rfl rfl rfl (fun ids H' fr => ⟨fr.ext0, rfl⟩)
      · replace hp := (itS hp).1 rfl
        obtain rfl := endS (show some _ = some r from hp)
        exact WJ.rt 211 rfl rfl rfl (fun ids H' fr => ⟨fr.ext0, rfl⟩)
    · refine WJ.lp 200 (α := Nat × Int × Hp) (fun y => [(0, .v (.string (bs x0))), (1, .v (.int .i64 x1)), (4, .p 0 0), (8, .v (.int .i64 y.2.1))]) (fun y => [[.int .i64 0, .int .i64 0, .string (bs ([] : List UInt8)), .int .i64 0]]) (fun y => []) (fun y => y.2.2) (fun y => y.1) (fun y => Option.bind (f55_l1 x0 y.1 y.2.1) K109 = some r) (k, x1, B) rfl hp (by exact ⟨rfl, rfl, rfl, rfl, trivial⟩) rfl rfl rfl ?_
      rintro ⟨n, x8, B4⟩ hp ih109
      show WJ _ _ _ B4 [] _ _ ⟨[(0, .v (.string (bs x0))), (1, .v (.int .i64 x1)), (4, .p 0 0), (8, .v (.int .i64 x8))], [[.int .i64 0, .int .i64 0, .string (bs ([] : List UInt8)), .int .i64 0]], true, 0⟩
      replace hp : Option.bind (f55_l1 x0 n x8) K109 = some r := hp
      cases n with
      | zero => rw [f55_l1] at hp; exact (noS hp).elim
      | succ n =>
        rw [f55_l1] at hp
        refine WJ.ci 206 hp rfl rfl rfl rfl rfl rfl rfl rfl rfl (fun hc49 hp => ?_) (fun hc49 hp => ?_)
        · obtain ⟨b53, e53, hp⟩ := bindS hp
          refine WJ.hd (v := .int .u8 ((b53.toNat : Nat) : Int)) 203 rfl rfl rfl rfl (fun ids H' fr => opD_index rfl (evV_eq _ _ _ _ _ rfl) (evV_eq _ _ _ _ _ rfl) (sidx us9 e53)) rfl ?_
          obtain ⟨t54, e54, hp⟩ := bindS hp
          refine WJ.cl 200 (R := R_4 t54) (fun hm h k => R_4.mono hm h k) rfl (fun ids H' fr => f54_ok e54) ?_
          rintro v B5 ⟨abB5, ivB5⟩ rfl
          refine ⟨_, rfl, ?_⟩
          cases t54
          · replace hp := (itS hp).2 Bool.false_ne_true
            exact WJ.ag 212 rfl (by exact ⟨rfl, rfl, rfl, rfl, trivial⟩) rfl rfl rfl (ih109 (n, IntKind.i64.wrap (x8 + 1), B5) hp (Nat.lt_succ_self _))
          · replace hp := (itS hp).1 rfl
            exact WJ.goto 5 (j109 (x8, B5) hp) rfl rfl (by exact ⟨rfl, rfl, rfl, rfl, trivial⟩) rfl rfl rfl
        · exact WJ.goto 10 (j109 (x8, B4) hp) rfl rfl (by exact ⟨rfl, rfl, rfl, rfl, trivial⟩) rfl rfl rfl
/-! 30 tipstaff/tipstaffref03.row -/
def f30_l1 (k : Nat) (x0 : List UInt8) (x1 : Int) : Nat → (List RowWord) → Int → Option (((List RowWord)) ⊕ (Row × Fault))
  | 0, _, _ => none
  | n + 1, l0, x7 =>
    if x7 < (x0.length : Int) then
      (rd x0 x7).bind fun b18 =>
      (f54 ((b18.toNat : Nat) : Int)).bind fun t19 =>
      if t19 then
        f30_l1 k x0 x1 n l0 (IntKind.i64.wrap (x7 + 1))
      else
        (rd x0 x7).bind fun b24 =>
        if ((b24.toNat : Nat) : Int) = 35 then
          some (Sum.inl l0)
        else
          (f55 k x0 x7).bind fun (t29_0, t29_1) =>
          if t29_1 = 0 then
            some (Sum.inr (((Row.mk 0 ([])), (Fault.mk 3 (IntKind.i64.wrap (x1 + x7)))) : Row × Fault))
          else
            (apd 40 l0 ([(RowWord.mk (IntKind.i64.wrap (x1 + x7)) t29_0.Kind t29_0.Name t29_0.N)])).bind fun l47 =>
            f30_l1 k x0 x1 n l47 (IntKind.i64.wrap (x7 + t29_1))
    else
      some (Sum.inl l0)

def f30 (k : Nat) (x0 : List UInt8) (x1 : Int) : Option (Row × Fault) :=
  (f30_l1 k x0 x1 k ([]) 0).bind fun s => match s with
    | .inl l0_112 => 
      some ((Row.mk x1 l0_112), (Fault.mk 0 0))
    | .inr st => some st
set_option maxRecDepth 20000 in
theorem f30_ok {k : Nat} {H : Hp} {x0 : List UInt8} {x1 : Int} {r : Row × Fault} (hp : f30 k x0 x1 = some r) :
    SCall Tryz.prog 30 [.string (bs x0), .int .i64 x1] H (Ret fun v H' => Ext H H' ∧ R_45_26 r H.next H' v) := by
  unfold f30 at hp
  replace hp := topS hp
  refine SCall.g Tryz.func30 rfl rfl rfl rfl rfl (l := [(0, .v (.string (bs x0))), (1, .v (.int .i64 x1))]) (fun _ => rfl) (fun B abB => ?_)
  refine WJ.adv 18 rfl ?_
  refine WJ.nw 4 ?_
  obtain ⟨K112, hK112, hp⟩ : ∃ K, K = _ ∧ Option.bind _ K = some r := ⟨_, rfl, cutS hp⟩
  refine WJ.cut 2 (α := (List RowWord) × (Option Addr) × Nat × Hp) (fun y => [(4, .p 0 0), (5, .p 1 0), (6, .p 2 0)]) (fun y => [[.int .i64 0, .slice none 0 0], [.int .i64 0, .int .i64 0], [.int .i64 x1, .slice y.2.1 y.1.length y.2.2.1]]) (fun y => [⟨y.2.1, y.2.2.1, 4, encL RowWord.cs y.1⟩]) (fun y => y.2.2.2) (fun y => K112 (Sum.inl y.1) = some r) ?_ (fun j112 => ?_)
  · rintro ⟨l0_112, a0_112, c0_112, B4⟩ hp
    subst hK112
    show WJ _ _ _ B4 [⟨a0_112, c0_112, 4, encL RowWord.cs l0_112⟩] _ _ ⟨[(4, .p 0 0), (5, .p 1 0), (6, .p 2 0)], [[.int .i64 0, .slice none 0 0], [.int .i64 0, .int .i64 0], [.int .i64 x1, .slice a0_112 l0_112.length c0_112]], true, 0⟩
    obtain rfl := endS (show some _ = some r from hp)
    exact WJ.rt 207 rfl rfl rfl (fun ids H' fr => ⟨fr.ext0, ⟨_, _, rfl, (fr.slOwn (j := 0) rfl rfl (Nat.le_refl _))⟩⟩)
  · refine WJ.lp 200 (α := Nat × (List RowWord) × Int × (Option Addr) × Nat × Hp) (fun y => [(0, .v (.string (bs x0))), (1, .v (.int .i64 x1)), (4, .p 0 0), (5, .p 1 0), (6, .p 2 0), (7, .v (.int .i64 y.2.2.1))]) (fun y => [[.int .i64 0, .slice none 0 0], [.int .i64 0, .int .i64 0], [.int .i64 x1, .slice y.2.2.2.1 y.2.1.length y.2.2.2.2.1]]) (fun y => [⟨y.2.2.2.1, y.2.2.2.2.1, 4, encL RowWord.cs y.2.1⟩]) (fun y => y.2.2.2.2.2) (fun y => y.1) (fun y => Option.bind (f30_l1 k x0 x1 y.1 y.2.1 y.2.2.1) K112 = some r) (k, ([] : List RowWord), 0, none, 0, B) rfl hp (by exact ⟨rfl, rfl, rfl, rfl, rfl, rfl, trivial⟩) rfl rfl rfl ?_
    rintro ⟨n, l0, x7, a0, c0, B1⟩ hp ih112
    show WJ _ _ _ B1 [⟨a0, c0, 4, encL RowWord.cs l0⟩] _ _ ⟨[(0, .v (.string (bs x0))), (1, .v (.int .i64 x1)), (4, .p 0 0), (5, .p 1 0), (6, .p 2 0), (7, .v (.int .i64 x7))], [[.int .i64 0, .slice none 0 0], [.int .i64 0, .int .i64 0], [.int .i64 x1, .slice a0 l0.length c0]], true, 0⟩
    replace hp : Option.bind (f30_l1 k x0 x1 n l0 x7) K112 = some r := hp
    cases n with
    | zero => rw [f30_l1] at hp; exact (noS hp).elim
    | succ n =>
      rw [f30_l1] at hp
      refine WJ.ci 206 hp rfl rfl rfl rfl rfl rfl rfl rfl rfl (fun hc15 hp => ?_) (fun hc15 hp => ?_)
      · obtain ⟨b18, e18, hp⟩ := bindS hp
        refine WJ.hd (v := .int .u8 ((b18.toNat : Nat) : Int)) 209 rfl rfl rfl rfl (fun ids H' fr => opD_index rfl (evV_eq _ _ _ _ _ rfl) (evV_eq _ _ _ _ _ rfl) (sidx us9 e18)) rfl ?_
        obtain ⟨t19, e19, hp⟩ := bindS hp
        refine WJ.cl 200 (R := R_4 t19) (fun hm h k => R_4.mono hm h k) rfl (fun ids H' fr => f54_ok e19) ?_
        rintro v B2 ⟨abB2, ivB2⟩ rfl
        refine ⟨_, rfl, ?_⟩
        cases t19
        · replace hp := (itS hp).2 Bool.false_ne_true
          obtain ⟨b24, e24, hp⟩ := bindS hp
          refine WJ.hd (v := .int .u8 ((b24.toNat : Nat) : Int)) 208 rfl rfl rfl rfl (fun ids H' fr => opD_index rfl (evV_eq _ _ _ _ _ rfl) (evV_eq _ _ _ _ _ rfl) (sidx us9 e24)) rfl ?_
          refine WJ.ci 200 hp rfl rfl rfl rfl rfl rfl rfl rfl rfl (fun hc25 hp => ?_) (fun hc25 hp => ?_)
          · exact WJ.goto 3 (j112 (l0, a0, c0, B2) hp) rfl rfl (by exact ⟨rfl, rfl, rfl, trivial⟩) rfl rfl rfl
          · obtain ⟨⟨⟨t29_0_At, t29_0_Kind, t29_0_Name, t29_0_N⟩, t29_1⟩, e29, hp⟩ := bindS hp
            refine WJ.cl 207 (R := R_36_3 ⟨⟨t29_0_At, t29_0_Kind, t29_0_Name, t29_0_N⟩, t29_1⟩) (fun hm h k => R_36_3.mono hm h k) rfl (fun ids H' fr => f55_ok e29) ?_
            rintro v B3 ⟨abB3, ivB3⟩ rfl
            refine ⟨_, rfl, ?_⟩
            refine WJ.ci 211 hp rfl rfl rfl rfl rfl rfl rfl rfl rfl (fun hc33 hp => ?_) (fun hc33 hp => ?_)
            · subst hK112
              obtain rfl := endS (show some _ = some r from hp)
              exact WJ.rt 212 rfl rfl rfl (fun ids H' fr => ⟨fr.ext0, ⟨_, _, rfl, SlF.nil⟩⟩)
            · refine WJ.bs (cs := encL RowWord.cs [(RowWord.mk (IntKind.i64.wrap (x1 + x7)) t29_0_Kind t29_0_Name t29_0_N)]) (sz := 4) (pl := [(0, .agg ⟨[.int .i64 (IntKind.i64.wrap (x1 + x7)), .int .i64 t29_0_Kind, .string (bs t29_0_Name), .int .i64 t29_0_N]⟩)]) 216 rfl rfl rfl rfl rfl (fun _ _ => rfl) (fun _ => by rfl) rfl rfl ?_
              intro b46
              refine ⟨_, rfl, ?_⟩
              obtain ⟨l47, e47, hp⟩ := bindS hp
              obtain ⟨bd47, rfl⟩ := apd_some e47
              refine WJ.ap (L := l0) (L2 := [(RowWord.mk (IntKind.i64.wrap (x1 + x7)) t29_0_Kind t29_0_Name t29_0_N)]) 200 0 rfl rfl rfl rfl rfl rfl rfl rfl (el43 rfl) rfl (fun _ => rfl) (fun _ => rfl) rfl (fun ids H' fr => fr.srcOwn (enc := RowWord.cs) (sz := 4) (j := 1) (fun _ => rfl) (by decide) rfl) bd47 ?_
              intro a47 c47
              refine ⟨_, rfl, ?_⟩
              refine WJ.pop [⟨a47, c47, 4, encL RowWord.cs (l0 ++ ([(RowWord.mk (IntKind.i64.wrap (x1 + x7)) t29_0_Kind t29_0_Name t29_0_N)]))⟩] rfl ?_
              exact WJ.ag 210 rfl (by exact ⟨rfl, rfl, rfl, rfl, rfl, rfl, trivial⟩) rfl rfl rfl (ih112 (n, (l0 ++ ([(RowWord.mk (IntKind.i64.wrap (x1 + x7)) t29_0_Kind t29_0_Name t29_0_N)])), IntKind.i64.wrap (x7 + t29_1), a47, c47, B3) hp (Nat.lt_succ_self _))
        · replace hp := (itS hp).1 rfl
          exact WJ.ag 209 rfl (by exact ⟨rfl, rfl, rfl, rfl, rfl, rfl, trivial⟩) rfl rfl rfl (ih112 (n, l0, IntKind.i64.wrap (x7 + 1), a0, c0, B2) hp (Nat.lt_succ_self _))
      · exact WJ.goto 3 (j112 (l0, a0, c0, B1) hp) rfl rfl (by exact ⟨rfl, rfl, rfl, trivial⟩) rfl rfl rfl
/-! 10 tipstaff/tipstaffref03.Rows -/
def f10_l2 (x0 : List UInt8) : Nat → Int → Option (Int)
  | 0, _ => none
  | n + 1, x6_h120 =>
    if x6_h120 < (x0.length : Int) then
      (rd x0 x6_h120).bind fun b25 =>
      if ((b25.toNat : Nat) : Int) = 10 then
        some (x6_h120)
      else
        f10_l2 x0 n (IntKind.i64.wrap (x6_h120 + 1))
    else
      some (x6_h120)

def f10_l1 (k : Nat) (x0 : List UInt8) : Nat → (List Row) → Int → Option (((List Row) × Fault) ⊕ ((List Row)))
  | 0, _, _ => none
  | n + 1, l1_h119, x5_h119 =>
    if x5_h119 < (x0.length : Int) then
      (f10_l2 x0 k x5_h119).bind fun x6_120 =>
        if (IntKind.i64.wrap (x6_120 - x5_h119)) > 1000 then
          some (Sum.inl (([], (Fault.mk 4 x5_h119)) : (List Row) × Fault))
        else
          (sub x0 x5_h119 x6_120).bind fun s40 =>
          (f30 k s40 x5_h119).bind fun (t42_0, t42_1) =>
          if t42_1.Err = 0 then
            (if (t42_0.Words.length : Int) > 0 then
              (apd 32 l1_h119 ([(Row.mk t42_0.At t42_0.Words)] : List Row)).bind fun l56 =>
              some (l56)
            else
              some (l1_h119)).bind fun l1_121 =>
              f10_l1 k x0 n l1_121 (IntKind.i64.wrap (x6_120 + 1))
          else
            some (Sum.inl (([], (Fault.mk t42_1.Err t42_1.At)) : (List Row) × Fault))
    else
      some (Sum.inr l1_h119)

def f10 (k : Nat) (x0 : List UInt8) : Option ((List Row) × Fault) :=
  if (x0.length : Int) > 20000 then
    some ([], (Fault.mk 4 20000))
  else
    (f10_l1 k x0 k ([]) 0).bind fun s => match s with
      | .inl st => some st
      | .inr l1_119 => 
        some (l1_119, (Fault.mk 0 0))
set_option maxHeartbeats 3200000 in
set_option maxRecDepth 20000 in
theorem f10_ok {k : Nat} {H : Hp} {x0 : List UInt8} {r : (List Row) × Fault} (hp : f10 k x0 = some r) :
    SCall Tryz.prog 10 [.string (bs x0)] H (Ret fun v H' => Ext H H' ∧ R_23_26 r H.next H' v) := by
  unfold f10 at hp
  replace hp := topS hp
  refine SCall.g Tryz.func10 rfl rfl rfl rfl rfl (l := [(0, .v (.string (bs x0)))]) (fun _ => rfl) (fun B abB => ?_)
  refine WJ.adv 4 rfl ?_
  refine WJ.liftS (loc := []) rfl rfl (fun bv0 => ?_)
  refine WJ.ci 206 hp rfl rfl rfl rfl rfl rfl rfl rfl rfl (fun hc11 hp => ?_) (fun hc11 hp => ?_)
  · refine WJ.sb 206 (j := 0) rfl rfl rfl rfl rfl rfl rfl rfl rfl rfl ?_
    obtain rfl := endS (show some _ = some r from hp)
    exact WJ.rto 201 rfl (.tmp rfl (.cell 0 rfl rfl rfl .nil)) rfl (fun ids H' fr => ⟨fr.ext0, ⟨_, _, rfl, SlF.nil⟩⟩)
  · refine WJ.adv 13 rfl ?_
    refine WJ.nw 2 ?_
    have rn1 : RepL RowC H.next B [] ([] : List Row) := rfl
    obtain ⟨K119, hK119, hp⟩ : ∃ K, K = _ ∧ Option.bind _ K = some r := ⟨_, rfl, cutS hp⟩
    refine WJ.cut 2 (α := (List Row) × (Option Addr) × Nat × (List Value) × Hp) (fun y => [(3, .v (.pointer (some ⟨bv0, 0, none⟩))), (4, .v (.slice y.2.1 y.1.length y.2.2.1))]) (fun y => []) (fun y => [⟨some ⟨bv0, 0, none⟩, 2, 1, [.int .i64 0, .int .i64 0]⟩, ⟨y.2.1, y.2.2.1, 2, y.2.2.2.1⟩]) (fun y => y.2.2.2.2) (fun y => K119 (Sum.inr y.1) = some r ∧ RepL RowC H.next y.2.2.2.2 [] ([] : List Row) ∧ RepL RowC H.next y.2.2.2.2 y.2.2.2.1 y.1) ?_ (fun j119 => ?_)
    · rintro ⟨l1_119, a1_119, c1_119, cs1_119, B6⟩ ⟨hp, rn1, r1_119⟩
      subst hK119
      show WJ _ _ _ B6 [⟨some ⟨bv0, 0, none⟩, 2, 1, [.int .i64 0, .int .i64 0]⟩, ⟨a1_119, c1_119, 2, cs1_119⟩] _ _ ⟨[(3, .v (.pointer (some ⟨bv0, 0, none⟩))), (4, .v (.slice a1_119 l1_119.length c1_119))], [], true, 0⟩
      refine WJ.sb 205 (j := 0) rfl rfl rfl rfl rfl rfl rfl rfl rfl rfl ?_
      obtain rfl := endS (show some _ = some r from hp)
      exact WJ.rto 201 rfl (.tmp rfl (.cell 0 rfl rfl rfl .nil)) rfl (fun ids H' fr => ⟨fr.ext0, ⟨_, _, rfl, (fr.slN (j := 1) rfl rfl rfl r1_119 (Nat.le_refl _))⟩⟩)
    · refine WJ.lp 200 (α := Nat × (List Row) × Int × (Option Addr) × Nat × (List Value) × Hp) (fun y => [(0, .v (.string (bs x0))), (3, .v (.pointer (some ⟨bv0, 0, none⟩))), (4, .v (.slice y.2.2.2.1 y.2.1.length y.2.2.2.2.1)), (5, .v (.int .i64 y.2.2.1))]) (fun y => []) (fun y => [⟨some ⟨bv0, 0, none⟩, 2, 1, [.int .i64 0, .int .i64 0]⟩, ⟨y.2.2.2.1, y.2.2.2.2.1, 2, y.2.2.2.2.2.1⟩]) (fun y => y.2.2.2.2.2.2) (fun y => y.1) (fun y => Option.bind (f10_l1 k x0 y.1 y.2.1 y.2.2.1) K119 = some r ∧ RepL RowC H.next y.2.2.2.2.2.2 [] ([] : List Row) ∧ RepL RowC H.next y.2.2.2.2.2.2 y.2.2.2.2.2.1 y.2.1) (k, ([] : List Row), 0, none, 0, [], B) rfl ⟨hp, rn1, rn1⟩ (by exact ⟨rfl, rfl, rfl, rfl, trivial⟩) rfl rfl rfl ?_
      rintro ⟨n, l1_h119, x5_h119, a1_h119, c1_h119, cs1_h119, B1⟩ ⟨hp, rn1, r1_h119⟩ ih119
      show WJ _ _ _ B1 [⟨some ⟨bv0, 0, none⟩, 2, 1, [.int .i64 0, .int .i64 0]⟩, ⟨a1_h119, c1_h119, 2, cs1_h119⟩] _ _ ⟨[(0, .v (.string (bs x0))), (3, .v (.pointer (some ⟨bv0, 0, none⟩))), (4, .v (.slice a1_h119 l1_h119.length c1_h119)), (5, .v (.int .i64 x5_h119))], [], true, 0⟩
      replace hp : Option.bind (f10_l1 k x0 n l1_h119 x5_h119) K119 = some r := hp
      cases n with
      | zero => rw [f10_l1] at hp; exact (noS hp).elim
      | succ n =>
        rw [f10_l1] at hp
        refine WJ.ci 206 hp rfl rfl rfl rfl rfl rfl rfl rfl rfl (fun hc16 hp => ?_) (fun hc16 hp => ?_)
        · refine WJ.adv 11 rfl ?_
          obtain ⟨K120, hK120, hp⟩ : ∃ K, K = _ ∧ Option.bind _ K = some r := ⟨_, rfl, cutS hp⟩
          refine WJ.cut 2 (α := Int × Hp) (fun y => [(0, .v (.string (bs x0))), (3, .v (.pointer (some ⟨bv0, 0, none⟩))), (4, .v (.slice a1_h119 l1_h119.length c1_h119)), (5, .v (.int .i64 x5_h119)), (6, .v (.int .i64 y.1))]) (fun y => []) (fun y => [⟨some ⟨bv0, 0, none⟩, 2, 1, [.int .i64 0, .int .i64 0]⟩, ⟨a1_h119, c1_h119, 2, cs1_h119⟩]) (fun y => y.2) (fun y => K120 (y.1) = some r ∧ RepL RowC H.next y.2 [] ([] : List Row) ∧ RepL RowC H.next y.2 cs1_h119 l1_h119) ?_ (fun j120 => ?_)
          · rintro ⟨x6_120, B3⟩ ⟨hp, rn1, r1_h119⟩
            subst hK120
            show WJ _ _ _ B3 [⟨some ⟨bv0, 0, none⟩, 2, 1, [.int .i64 0, .int .i64 0]⟩, ⟨a1_h119, c1_h119, 2, cs1_h119⟩] _ _ ⟨[(0, .v (.string (bs x0))), (3, .v (.pointer (some ⟨bv0, 0, none⟩))), (4, .v (.slice a1_h119 l1_h119.length c1_h119)), (5, .v (.int .i64 x5_h119)), (6, .v (.int .i64 x6_120))], [], true, 0⟩
            refine WJ.ci 206 hp rfl rfl rfl rfl rfl rfl rfl rfl rfl (fun hc33 hp => ?_) (fun hc33 hp => ?_)
            · refine WJ.sb 207 (j := 0) rfl rfl rfl rfl rfl rfl rfl rfl rfl rfl ?_
              subst hK119
              obtain rfl := endS (show some _ = some r from hp)
              exact WJ.rto 201 rfl (.tmp rfl (.cell 0 rfl rfl rfl .nil)) rfl (fun ids H' fr => ⟨fr.ext0, ⟨_, _, rfl, SlF.nil⟩⟩)
            · obtain ⟨s40, e40, hp⟩ := bindS hp
              refine WJ.hd (v := .string (bs s40)) 208 rfl rfl rfl rfl (fun ids H' fr => opD_slh rfl (evV_eq _ _ _ _ _ rfl) (evV_eq _ _ _ _ _ rfl) (evV_eq _ _ _ _ _ rfl) (sliceD_lh us9 e40)) rfl ?_
              obtain ⟨⟨⟨t42_0_At, t42_0_Words⟩, ⟨t42_1_Err, t42_1_At⟩⟩, e42, hp⟩ := bindS hp
              refine WJ.cl 201 (R := R_45_26 ⟨⟨t42_0_At, t42_0_Words⟩, ⟨t42_1_Err, t42_1_At⟩⟩) (fun hm h k => R_45_26.mono hm h k) rfl (fun ids H' fr => f30_ok e42) ?_
              rintro v B4 ⟨abB4, ivB4⟩ ⟨a_t42_0_Words, c_t42_0_Words, rfl, g_t42_0_Words⟩
              refine ⟨_, rfl, ?_⟩
              replace rn1 := rn1.mono (Nat.le_refl _) (abB4.le (Nat.zero_le _))
              replace r1_h119 := r1_h119.mono (Nat.le_refl _) (abB4.le (Nat.zero_le _))
              refine WJ.adv 4 rfl ?_
              refine WJ.liftS (loc := []) rfl rfl (fun bv1 => ?_)
              refine WJ.adv 1 rfl ?_
              refine WJ.liftS (loc := []) rfl rfl (fun bv2 => ?_)
              refine WJ.sb 200 (j := 2) rfl rfl rfl rfl rfl rfl rfl rfl rfl rfl ?_
              refine WJ.sb 200 (j := 3) rfl rfl rfl rfl rfl rfl rfl rfl rfl rfl ?_
              refine WJ.hd (v := .int .i64 t42_1_Err) 205 rfl rfl rfl rfl (fun ids H' fr => opD_load rfl (evV_eq _ _ _ _ _ rfl) (fr.ldOwn (j := 3) rfl rfl)) rfl ?_
              refine WJ.cn 200 hp rfl rfl rfl rfl rfl rfl rfl rfl rfl (fun hc47 hp => ?_) (fun hc47 hp => ?_)
              · refine WJ.dr 203 rfl gmix (by kernel_rfl) (by kernel_rfl) rfl ?_
                refine WD.hd (v := .agg ⟨[.int .i64 t42_1_Err, .int .i64 t42_1_At]⟩) rfl rfl rfl rfl (fun _ _ _ _ _ => side_no) (fun ids H' fr => opD_load rfl (evV_eq _ _ _ _ _ rfl) (fr.ldOwn (j := 3) rfl rfl)) rfl ?_
                refine WD.sb (j := 0) rfl rfl rfl rfl rfl rfl rfl rfl rfl rfl ?_
                refine WD.done rfl ?_
                subst hK119
                obtain rfl := endS (show some _ = some r from hp)
                exact WJ.rto 200 rfl (.tmp rfl (.cell 0 rfl rfl rfl .nil)) rfl (fun ids H' fr => ⟨fr.ext0, ⟨_, _, rfl, SlF.nil⟩⟩)
              · refine WJ.adv 5 rfl ?_
                obtain ⟨K121, hK121, hp⟩ : ∃ K, K = _ ∧ Option.bind _ K = some r := ⟨_, rfl, cutS hp⟩
                refine WJ.cut 2 (α := (List Row) × (Option Addr) × Nat × (List Value) × Hp) (fun y => [(0, .v (.string (bs x0))), (3, .v (.pointer (some ⟨bv0, 0, none⟩))), (4, .v (.slice y.2.1 y.1.length y.2.2.1)), (6, .v (.int .i64 x6_120))]) (fun y => []) (fun y => [⟨some ⟨bv0, 0, none⟩, 2, 1, [.int .i64 0, .int .i64 0]⟩, ⟨y.2.1, y.2.2.1, 2, y.2.2.2.1⟩, ⟨some ⟨bv1, 0, none⟩, 2, 1, [.int .i64 t42_0_At, .slice a_t42_0_Words t42_0_Words.length c_t42_0_Words]⟩, ⟨some ⟨bv2, 0, none⟩, 2, 1, [.int .i64 t42_1_Err, .int .i64 t42_1_At]⟩]) (fun y => y.2.2.2.2) (fun y => K121 ((y.1)) = some r ∧ RepL RowC H.next y.2.2.2.2 [] ([] : List Row) ∧ RepL RowC H.next y.2.2.2.2 cs1_h119 l1_h119 ∧ SlF H.next y.2.2.2.2 RowWordC a_t42_0_Words c_t42_0_Words t42_0_Words ∧ RepL RowC H.next y.2.2.2.2 y.2.2.2.1 y.1) ?_ (fun j121 => ?_)
                · rintro ⟨l1_121, a1_121, c1_121, cs1_121, B5⟩ ⟨hp, rn1, r1_h119, g_t42_0_Words, r1_121⟩
                  subst hK121
                  show WJ _ _ _ B5 [⟨some ⟨bv0, 0, none⟩, 2, 1, [.int .i64 0, .int .i64 0]⟩, ⟨a1_121, c1_121, 2, cs1_121⟩, ⟨some ⟨bv1, 0, none⟩, 2, 1, [.int .i64 t42_0_At, .slice a_t42_0_Words t42_0_Words.length c_t42_0_Words]⟩, ⟨some ⟨bv2, 0, none⟩, 2, 1, [.int .i64 t42_1_Err, .int .i64 t42_1_At]⟩] _ _ ⟨[(0, .v (.string (bs x0))), (3, .v (.pointer (some ⟨bv0, 0, none⟩))), (4, .v (.slice a1_121 l1_121.length c1_121)), (6, .v (.int .i64 x6_120))], [], true, 0⟩
                  exact WJ.ag 206 rfl (by exact ⟨rfl, rfl, rfl, rfl, trivial⟩) rfl rfl rfl (ih119 (n, l1_121, IntKind.i64.wrap (x6_120 + 1), a1_121, c1_121, cs1_121, B5) ⟨hp, rn1, r1_121⟩ (Nat.lt_succ_self _))
                · refine WJ.hd (v := .slice a_t42_0_Words t42_0_Words.length c_t42_0_Words) 202 rfl rfl rfl rfl (fun ids H' fr => opD_load rfl (evV_eq _ _ _ _ _ rfl) (fr.ldOwn (j := 2) rfl rfl)) rfl ?_
                  refine WJ.ci 201 hp rfl rfl rfl rfl rfl rfl rfl rfl rfl (fun hc52 hp => ?_) (fun hc52 hp => ?_)
                  · refine WJ.hd (v := .agg ⟨[.int .i64 t42_0_At, .slice a_t42_0_Words t42_0_Words.length c_t42_0_Words]⟩) 204 rfl rfl rfl rfl (fun ids H' fr => opD_load rfl (evV_eq _ _ _ _ _ rfl) (fr.ldOwn (j := 2) rfl rfl)) rfl ?_
                    refine WJ.bs (cs := [.int .i64 t42_0_At, .slice a_t42_0_Words t42_0_Words.length c_t42_0_Words]) (sz := 2) (pl := [(0, .agg ⟨[.int .i64 t42_0_At, .slice a_t42_0_Words t42_0_Words.length c_t42_0_Words]⟩)]) 200 rfl rfl rfl rfl rfl (fun _ _ => rfl) (fun _ => by rfl) rfl rfl ?_
                    intro b55
                    refine ⟨_, rfl, ?_⟩
                    obtain ⟨l56, e56, hp⟩ := bindS hp
                    obtain ⟨bd56, rfl⟩ := apd_some e56
                    refine WJ.apN (cs := cs1_h119) (new := [.int .i64 t42_0_At, .slice a_t42_0_Words t42_0_Words.length c_t42_0_Words]) (L := l1_h119) (L2 := ([(Row.mk t42_0_At t42_0_Words)] : List Row)) 200 1 rfl rfl rfl rfl rfl rfl rfl rfl r1_h119.len (el23 rfl) rfl rfl (fun ids H' fr => fr.srcBox (j := 4) rfl rfl (by decide)) rfl rfl bd56 ?_
                    intro a56 c56
                    refine ⟨_, rfl, ?_⟩
                    have rp56 : RepL RowC H.next B4 (cs1_h119 ++ [.int .i64 t42_0_At, .slice a_t42_0_Words t42_0_Words.length c_t42_0_Words]) (l1_h119 ++ ([(Row.mk t42_0_At t42_0_Words)] : List Row)) := r1_h119.append ⟨[.int .i64 t42_0_At, .slice a_t42_0_Words t42_0_Words.length c_t42_0_Words], [], rfl, ⟨_, _, rfl, g_t42_0_Words⟩, rfl⟩
                    refine WJ.pop [⟨some ⟨bv0, 0, none⟩, 2, 1, [.int .i64 0, .int .i64 0]⟩, ⟨a56, c56, 2, (cs1_h119 ++ [.int .i64 t42_0_At, .slice a_t42_0_Words t42_0_Words.length c_t42_0_Words])⟩, ⟨some ⟨bv1, 0, none⟩, 2, 1, [.int .i64 t42_0_At, .slice a_t42_0_Words t42_0_Words.length c_t42_0_Words]⟩, ⟨some ⟨bv2, 0, none⟩, 2, 1, [.int .i64 t42_1_Err, .int .i64 t42_1_At]⟩] rfl ?_
                    exact WJ.goto 2 (j121 ((l1_h119 ++ ([(Row.mk t42_0_At t42_0_Words)] : List Row)), a56, c56, (cs1_h119 ++ [.int .i64 t42_0_At, .slice a_t42_0_Words t42_0_Words.length c_t42_0_Words]), B4) ⟨hp, rn1, r1_h119, g_t42_0_Words, rp56⟩) rfl rfl (by exact ⟨rfl, rfl, rfl, rfl, trivial⟩) rfl rfl rfl
                  · exact WJ.goto 3 (j121 (l1_h119, a1_h119, c1_h119, cs1_h119, B4) ⟨hp, rn1, r1_h119, g_t42_0_Words, r1_h119⟩) rfl rfl (by exact ⟨rfl, rfl, rfl, rfl, trivial⟩) rfl rfl rfl
          · refine WJ.lp 200 (α := Nat × Int × Hp) (fun y => [(0, .v (.string (bs x0))), (3, .v (.pointer (some ⟨bv0, 0, none⟩))), (4, .v (.slice a1_h119 l1_h119.length c1_h119)), (5, .v (.int .i64 x5_h119)), (6, .v (.int .i64 y.2.1))]) (fun y => []) (fun y => [⟨some ⟨bv0, 0, none⟩, 2, 1, [.int .i64 0, .int .i64 0]⟩, ⟨a1_h119, c1_h119, 2, cs1_h119⟩]) (fun y => y.2.2) (fun y => y.1) (fun y => Option.bind (f10_l2 x0 y.1 y.2.1) K120 = some r ∧ RepL RowC H.next y.2.2 [] ([] : List Row) ∧ RepL RowC H.next y.2.2 cs1_h119 l1_h119) (k, x5_h119, B1) rfl ⟨hp, rn1, r1_h119⟩ (by exact ⟨rfl, rfl, rfl, rfl, rfl, trivial⟩) rfl rfl rfl ?_
            rintro ⟨n120, x6_h120, B2⟩ ⟨hp, rn1, r1_h119⟩ ih120
            show WJ _ _ _ B2 [⟨some ⟨bv0, 0, none⟩, 2, 1, [.int .i64 0, .int .i64 0]⟩, ⟨a1_h119, c1_h119, 2, cs1_h119⟩] _ _ ⟨[(0, .v (.string (bs x0))), (3, .v (.pointer (some ⟨bv0, 0, none⟩))), (4, .v (.slice a1_h119 l1_h119.length c1_h119)), (5, .v (.int .i64 x5_h119)), (6, .v (.int .i64 x6_h120))], [], true, 0⟩
            replace hp : Option.bind (f10_l2 x0 n120 x6_h120) K120 = some r := hp
            cases n120 with
            | zero => rw [f10_l2] at hp; exact (noS hp).elim
            | succ n120 =>
              rw [f10_l2] at hp
              refine WJ.ci 206 hp rfl rfl rfl rfl rfl rfl rfl rfl rfl (fun hc21 hp => ?_) (fun hc21 hp => ?_)
              · obtain ⟨b25, e25, hp⟩ := bindS hp
                refine WJ.hd (v := .int .u8 ((b25.toNat : Nat) : Int)) 203 rfl rfl rfl rfl (fun ids H' fr => opD_index rfl (evV_eq _ _ _ _ _ rfl) (evV_eq _ _ _ _ _ rfl) (sidx us9 e25)) rfl ?_
                refine WJ.cn 200 hp rfl rfl rfl rfl rfl rfl rfl rfl rfl (fun hc26 hp => ?_) (fun hc26 hp => ?_)
                · exact WJ.ag 211 rfl (by exact ⟨rfl, rfl, rfl, rfl, rfl, trivial⟩) rfl rfl rfl (ih120 (n120, IntKind.i64.wrap (x6_h120 + 1), B2) ⟨hp, rn1, r1_h119⟩ (Nat.lt_succ_self _))
                · exact WJ.goto 4 (j120 (x6_h120, B2) ⟨hp, rn1, r1_h119⟩) rfl rfl (by exact ⟨rfl, rfl, rfl, rfl, rfl, trivial⟩) rfl rfl rfl
              · exact WJ.goto 9 (j120 (x6_h120, B2) ⟨hp, rn1, r1_h119⟩) rfl rfl (by exact ⟨rfl, rfl, rfl, rfl, rfl, trivial⟩) rfl rfl rfl
        · exact WJ.goto 3 (j119 (l1_h119, a1_h119, c1_h119, cs1_h119, B1) ⟨hp, rn1, r1_h119⟩) rfl rfl (by exact ⟨rfl, rfl, trivial⟩) rfl rfl rfl
/-! 11 tipstaff/tipstafflaw03.sameRows -/
def f11_l2 (x0 : List Row) (x1 : List Row) (x2 : Bool) (x7 : Int) : Nat → Int → Option ((Bool) ⊕ (Unit))
  | 0, _ => none
  | n + 1, x8 =>
    (rd x0 x7).bind fun t54 =>
    if x8 < (t54.Words.length : Int) then
      (rd x0 x7).bind fun t63 =>
      (rd t63.Words x8).bind fun t67 =>
      (rd x1 x7).bind fun t71 =>
      (rd t71.Words x8).bind fun t75 =>
      if x2 then
        if (RowWord.mk t67.At t67.Kind t67.Name t67.N) = (RowWord.mk t75.At t75.Kind t75.Name t75.N) then
          f11_l2 x0 x1 x2 x7 n (IntKind.i64.wrap (x8 + 1))
        else
          some (Sum.inl (false : Bool))
      else
        if (RowWord.mk 0 t67.Kind t67.Name t67.N) = (RowWord.mk 0 t75.Kind t75.Name t75.N) then
          f11_l2 x0 x1 x2 x7 n (IntKind.i64.wrap (x8 + 1))
        else
          some (Sum.inl (false : Bool))
    else
      some (Sum.inr ())

def f11_l1 (k : Nat) (x0 : List Row) (x1 : List Row) (x2 : Bool) : Nat → Int → Option ((Bool) ⊕ (Unit))
  | 0, _ => none
  | n + 1, x7 =>
    if x7 < (x0.length : Int) then
      (if x2 then
        (rd x0 x7).bind fun t26 =>
        (rd x1 x7).bind fun t31 =>
        if t26.At = t31.At then
          (rd x0 x7).bind fun t39 =>
          (rd x1 x7).bind fun t45 =>
          if (t39.Words.length : Int) = (t45.Words.length : Int) then
            some (Sum.inr ())
          else
            some (Sum.inl (false : Bool))
        else
          some (Sum.inl (false : Bool))
      else
        (rd x0 x7).bind fun t39 =>
        (rd x1 x7).bind fun t45 =>
        if (t39.Words.length : Int) = (t45.Words.length : Int) then
          some (Sum.inr ())
        else
          some (Sum.inl (false : Bool))).bind fun s => match s with
        | .inl st => some (Sum.inl st)
        | .inr _ => 
          (f11_l2 x0 x1 x2 x7 k 0).bind fun s => match s with
            | .inl st => some (Sum.inl st)
            | .inr _ => 
              f11_l1 k x0 x1 x2 n (IntKind.i64.wrap (x7 + 1))
    else
      some (Sum.inr ())

def f11 (k : Nat) (x0 : List Row) (x1 : List Row) (x2 : Bool) : Option Bool :=
  if (x0.length : Int) = (x1.length : Int) then
    (f11_l1 k x0 x1 x2 k 0).bind fun s => match s with
      | .inl st => some st
      | .inr _ => 
        some true
  else
    some false
set_option maxRecDepth 20000 in
theorem f11_ok {k : Nat} {H : Hp} {a_x0 : Option Addr} {c_x0 : Nat} {a_x1 : Option Addr} {c_x1 : Nat} {x0 : List Row} {x1 : List Row} {x2 : Bool} {r : Bool} (g_x0 : SlF 0 H RowC a_x0 c_x0 x0) (g_x1 : SlF 0 H RowC a_x1 c_x1 x1) (hp : f11 k x0 x1 x2 = some r) :
    SCall Tryz.prog 11 [.slice a_x0 x0.length c_x0, .slice a_x1 x1.length c_x1, .bool x2] H (Ret fun v H' => Ext H H' ∧ R_4 r H.next H' v) := by
  unfold f11 at hp
  replace hp := topS hp
  refine SCall.g Tryz.func11 rfl rfl rfl rfl rfl (l := [(0, .v (.slice a_x0 x0.length c_x0)), (1, .v (.slice a_x1 x1.length c_x1)), (2, .v (.bool x2))]) (fun _ => rfl) (fun B abB => ?_)
  refine WJ.cn 211 hp rfl rfl rfl rfl rfl rfl rfl rfl rfl (fun hc15 hp => ?_) (fun hc15 hp => ?_)
  · obtain rfl := endS (show some _ = some r from hp)
    exact WJ.rt 206 rfl rfl rfl (fun ids H' fr => ⟨fr.ext0, rfl⟩)
  · refine WJ.adv 9 rfl ?_
    obtain ⟨K122, hK122, hp⟩ : ∃ K, K = _ ∧ Option.bind _ K = some r := ⟨_, rfl, cutS hp⟩
    refine WJ.cut 2 (α := Unit) (fun y => []) (fun y => []) (fun y => []) (fun y => B) (fun y => K122 (Sum.inr ()) = some r) ?_ (fun j122 => ?_)
    · rintro u hp
      subst hK122
      show WJ _ _ _ B [] _ _ ⟨[], [], true, 0⟩
      obtain rfl := endS (show some _ = some r from hp)
      exact WJ.rt 204 rfl rfl rfl (fun ids H' fr => ⟨fr.ext0, rfl⟩)
    · refine WJ.lp 200 (α := Nat × Int) (fun y => [(0, .v (.slice a_x0 x0.length c_x0)), (1, .v (.slice a_x1 x1.length c_x1)), (2, .v (.bool x2)), (7, .v (.int .i64 y.2))]) (fun y => []) (fun y => []) (fun y => B) (fun y => y.1) (fun y => Option.bind (f11_l1 k x0 x1 x2 y.1 y.2) K122 = some r) (k, 0) rfl hp (by exact ⟨rfl, rfl, rfl, rfl, trivial⟩) rfl rfl rfl ?_
      rintro ⟨n, x7⟩ hp ih122
      show WJ _ _ _ B [] _ _ ⟨[(0, .v (.slice a_x0 x0.length c_x0)), (1, .v (.slice a_x1 x1.length c_x1)), (2, .v (.bool x2)), (7, .v (.int .i64 x7))], [], true, 0⟩
      replace hp : Option.bind (f11_l1 k x0 x1 x2 n x7) K122 = some r := hp
      cases n with
      | zero => rw [f11_l1] at hp; exact (noS hp).elim
      | succ n =>
        rw [f11_l1] at hp
        refine WJ.ci 206 hp rfl rfl rfl rfl rfl rfl rfl rfl rfl (fun hc19 hp => ?_) (fun hc19 hp => ?_)
        · refine WJ.adv 7 rfl ?_
          obtain ⟨K123, hK123, hp⟩ : ∃ K, K = _ ∧ Option.bind _ K = some r := ⟨_, rfl, cutS hp⟩
          refine WJ.cut 2 (α := Unit) (fun y => [(0, .v (.slice a_x0 x0.length c_x0)), (1, .v (.slice a_x1 x1.length c_x1)), (2, .v (.bool x2)), (7, .v (.int .i64 x7))]) (fun y => []) (fun y => []) (fun y => B) (fun y => K123 ((Sum.inr ())) = some r) ?_ (fun j123 => ?_)
          · rintro u hp
            subst hK123
            show WJ _ _ _ B [] _ _ ⟨[(0, .v (.slice a_x0 x0.length c_x0)), (1, .v (.slice a_x1 x1.length c_x1)), (2, .v (.bool x2)), (7, .v (.int .i64 x7))], [], true, 0⟩
            refine WJ.adv 5 rfl ?_
            obtain ⟨K124, hK124, hp⟩ : ∃ K, K = _ ∧ Option.bind _ K = some r := ⟨_, rfl, cutS hp⟩
            refine WJ.cut 3 (α := Unit) (fun y => [(0, .v (.slice a_x0 x0.length c_x0)), (1, .v (.slice a_x1 x1.length c_x1)), (2, .v (.bool x2)), (7, .v (.int .i64 x7))]) (fun y => []) (fun y => []) (fun y => B) (fun y => K124 (Sum.inr ()) = some r) ?_ (fun j124 => ?_)
            · rintro u hp
              subst hK124
              show WJ _ _ _ B [] _ _ ⟨[(0, .v (.slice a_x0 x0.length c_x0)), (1, .v (.slice a_x1 x1.length c_x1)), (2, .v (.bool x2)), (7, .v (.int .i64 x7))], [], true, 0⟩
              exact WJ.ag 205 rfl (by exact ⟨rfl, rfl, rfl, rfl, trivial⟩) rfl rfl rfl (ih122 (n, IntKind.i64.wrap (x7 + 1)) hp (Nat.lt_succ_self _))
            · refine WJ.lp 200 (α := Nat × Int) (fun y => [(0, .v (.slice a_x0 x0.length c_x0)), (1, .v (.slice a_x1 x1.length c_x1)), (2, .v (.bool x2)), (7, .v (.int .i64 x7)), (8, .v (.int .i64 y.2))]) (fun y => []) (fun y => []) (fun y => B) (fun y => y.1) (fun y => Option.bind (f11_l2 x0 x1 x2 x7 y.1 y.2) K124 = some r) (k, 0) rfl hp (by exact ⟨rfl, rfl, rfl, rfl, rfl, trivial⟩) rfl rfl rfl ?_
              rintro ⟨n124, x8⟩ hp ih124
              show WJ _ _ _ B [] _ _ ⟨[(0, .v (.slice a_x0 x0.length c_x0)), (1, .v (.slice a_x1 x1.length c_x1)), (2, .v (.bool x2)), (7, .v (.int .i64 x7)), (8, .v (.int .i64 x8))], [], true, 0⟩
              replace hp : Option.bind (f11_l2 x0 x1 x2 x7 n124 x8) K124 = some r := hp
              cases n124 with
              | zero => rw [f11_l2] at hp; exact (noS hp).elim
              | succ n124 =>
                rw [f11_l2] at hp
                obtain ⟨⟨t54_At, t54_Words⟩, e54, hp⟩ := bindS hp
                obtain ⟨b54, o54, cs54, i54, ⟨a_t54_Words, c_t54_Words, rfl, g_t54_Words⟩, p54⟩ := g_x0.at e54 u23 sz45
                refine WJ.hd (v := .pointer (some ⟨b54, o54, none⟩)) 206 rfl rfl rfl rfl (fun ids H' fr => opD_indexAddr rfl (evV_eq _ _ _ _ _ rfl) (evV_eq _ _ _ _ _ rfl) (i54 _)) rfl ?_
                refine WJ.hd (v := .slice a_t54_Words t54_Words.length c_t54_Words) 201 rfl rfl rfl rfl (fun ids H' fr => opD_load rfl (evV_eq _ _ _ _ _ rfl) ((p54.mono (Nat.zero_le _) fr.ext0.abv).load (d := 1) ag43 rfl)) rfl ?_
                refine WJ.ci 201 hp rfl rfl rfl rfl rfl rfl rfl rfl rfl (fun hc58 hp => ?_) (fun hc58 hp => ?_)
                · refine WJ.drF 206 rfl gmix (by kernel_rfl) (by kernel_rfl) rfl (fun D1 eD1 abD1 => ?_)
                  obtain ⟨⟨t63_At, t63_Words⟩, e63, hp⟩ := bindS hp
                  obtain ⟨b63, o63, cs63, i63, ⟨a_t63_Words, c_t63_Words, rfl, g_t63_Words⟩, p63⟩ := g_x0.at e63 u23 sz45
                  have lt63 := Nat.lt_of_lt_of_le p63.2.1 eD1.next
                  refine WD.hd (v := .pointer (some ⟨b63, o63, none⟩)) rfl rfl rfl rfl (fun ids H' s0 h0 f => side_pure rfl rfl h0 f) (fun ids H' fr => opD_indexAddr rfl (evV_eq _ _ _ _ _ rfl) (evV_eq _ _ _ _ _ rfl) (i63 _)) rfl ?_
                  refine WD.hd (v := .slice a_t63_Words t63_Words.length c_t63_Words) rfl rfl rfl rfl (fun ids H' s0 h0 f => side_load rfl rfl rfl lt63 h0 f) (fun ids H' fr => opD_load rfl (evV_eq _ _ _ _ _ rfl) ((p63.mono (Nat.zero_le _) fr.ext0.abv).load (d := 1) ag43 rfl)) rfl ?_
                  obtain ⟨⟨t67_At, t67_Kind, t67_Name, t67_N⟩, e67, hp⟩ := bindS hp
                  obtain ⟨b67, o67, cs67, i67, rfl, p67⟩ := g_t63_Words.at e67 u43 sz36
                  have lt67 := Nat.lt_of_lt_of_le p67.2.1 eD1.next
                  refine WD.hd (v := .pointer (some ⟨b67, o67, none⟩)) rfl rfl rfl rfl (fun ids H' s0 h0 f => side_pure rfl rfl h0 f) (fun ids H' fr => opD_indexAddr rfl (evV_eq _ _ _ _ _ rfl) (evV_eq _ _ _ _ _ rfl) (i67 _)) rfl ?_
                  refine WD.hd (v := .agg ⟨[.int .i64 t67_At, .int .i64 t67_Kind, .string (bs t67_Name), .int .i64 t67_N]⟩) rfl rfl rfl rfl (fun ids H' s0 h0 f => side_load rfl rfl rfl lt67 h0 f) (fun ids H' fr => opD_load rfl (evV_eq _ _ _ _ _ rfl) ((p67.mono (Nat.zero_le _) fr.ext0.abv).loadN (d := 0) ag36 sz36 rfl rfl)) rfl ?_
                  obtain ⟨⟨t71_At, t71_Words⟩, e71, hp⟩ := bindS hp
                  obtain ⟨b71, o71, cs71, i71, ⟨a_t71_Words, c_t71_Words, rfl, g_t71_Words⟩, p71⟩ := g_x1.at e71 u23 sz45
                  have lt71 := Nat.lt_of_lt_of_le p71.2.1 eD1.next
                  refine WD.hd (v := .pointer (some ⟨b71, o71, none⟩)) rfl rfl rfl rfl (fun ids H' s0 h0 f => side_pure rfl rfl h0 f) (fun ids H' fr => opD_indexAddr rfl (evV_eq _ _ _ _ _ rfl) (evV_eq _ _ _ _ _ rfl) (i71 _)) rfl ?_
                  refine WD.hd (v := .slice a_t71_Words t71_Words.length c_t71_Words) rfl rfl rfl rfl (fun ids H' s0 h0 f => side_load rfl rfl rfl lt71 h0 f) (fun ids H' fr => opD_load rfl (evV_eq _ _ _ _ _ rfl) ((p71.mono (Nat.zero_le _) fr.ext0.abv).load (d := 1) ag43 rfl)) rfl ?_
                  obtain ⟨⟨t75_At, t75_Kind, t75_Name, t75_N⟩, e75, hp⟩ := bindS hp
                  obtain ⟨b75, o75, cs75, i75, rfl, p75⟩ := g_t71_Words.at e75 u43 sz36
                  have lt75 := Nat.lt_of_lt_of_le p75.2.1 eD1.next
                  refine WD.hd (v := .pointer (some ⟨b75, o75, none⟩)) rfl rfl rfl rfl (fun ids H' s0 h0 f => side_pure rfl rfl h0 f) (fun ids H' fr => opD_indexAddr rfl (evV_eq _ _ _ _ _ rfl) (evV_eq _ _ _ _ _ rfl) (i75 _)) rfl ?_
                  refine WD.hd (v := .agg ⟨[.int .i64 t75_At, .int .i64 t75_Kind, .string (bs t75_Name), .int .i64 t75_N]⟩) rfl rfl rfl rfl (fun ids H' s0 h0 f => side_load rfl rfl rfl lt75 h0 f) (fun ids H' fr => opD_load rfl (evV_eq _ _ _ _ _ rfl) ((p75.mono (Nat.zero_le _) fr.ext0.abv).loadN (d := 0) ag36 sz36 rfl rfl)) rfl ?_
                  refine WD.done rfl ?_
                  cases x2
                  · replace hp := (itS hp).2 Bool.false_ne_true
                    refine WJ.cn 217 hp rfl rfl rfl rfl rfl rfl (opD_neS rfl rfl rfl rfl gd36 (eq36 0 t67_Kind t67_Name t67_N 0 t75_Kind t75_Name t75_N)) rfl rfl (fun hc83 hp => ?_) (fun hc83 hp => ?_)
                    · subst hK124
                      subst hK122
                      obtain rfl := endS (show some _ = some r from hp)
                      exact WJ.rt 206 rfl rfl rfl (fun ids H' fr => ⟨fr.ext0, rfl⟩)
                    · exact WJ.ag 209 rfl (by exact ⟨rfl, rfl, rfl, rfl, rfl, trivial⟩) rfl rfl rfl (ih124 (n124, IntKind.i64.wrap (x8 + 1)) hp (Nat.lt_succ_self _))
                  · replace hp := (itS hp).1 rfl
                    refine WJ.cn 212 hp rfl rfl rfl rfl rfl rfl (opD_neS rfl rfl rfl rfl gd36 (eq36 t67_At t67_Kind t67_Name t67_N t75_At t75_Kind t75_Name t75_N)) rfl rfl (fun hc83 hp => ?_) (fun hc83 hp => ?_)
                    · subst hK124
                      subst hK122
                      obtain rfl := endS (show some _ = some r from hp)
                      exact WJ.rt 206 rfl rfl rfl (fun ids H' fr => ⟨fr.ext0, rfl⟩)
                    · exact WJ.ag 209 rfl (by exact ⟨rfl, rfl, rfl, rfl, rfl, trivial⟩) rfl rfl rfl (ih124 (n124, IntKind.i64.wrap (x8 + 1)) hp (Nat.lt_succ_self _))
                · exact WJ.goto 4 (j124 () hp) rfl rfl (by exact ⟨rfl, rfl, rfl, rfl, trivial⟩) rfl rfl rfl
          · refine WJ.dr 200 rfl gmix (by kernel_rfl) (by kernel_rfl) rfl ?_
            cases x2
            · replace hp := (itS hp).2 Bool.false_ne_true
              obtain ⟨⟨t39_At, t39_Words⟩, e39, hp⟩ := bindS hp
              obtain ⟨b39, o39, cs39, i39, ⟨a_t39_Words, c_t39_Words, rfl, g_t39_Words⟩, p39⟩ := g_x0.at e39 u23 sz45
              refine WD.hd (v := .pointer (some ⟨b39, o39, none⟩)) rfl rfl rfl rfl (fun _ _ _ _ _ => side_no) (fun ids H' fr => opD_indexAddr rfl (evV_eq _ _ _ _ _ rfl) (evV_eq _ _ _ _ _ rfl) (i39 _)) rfl ?_
              refine WD.hd (v := .slice a_t39_Words t39_Words.length c_t39_Words) rfl rfl rfl rfl (fun _ _ _ _ _ => side_no) (fun ids H' fr => opD_load rfl (evV_eq _ _ _ _ _ rfl) ((p39.mono (Nat.zero_le _) fr.ext0.abv).load (d := 1) ag43 rfl)) rfl ?_
              obtain ⟨⟨t45_At, t45_Words⟩, e45, hp⟩ := bindS hp
              obtain ⟨b45, o45, cs45, i45, ⟨a_t45_Words, c_t45_Words, rfl, g_t45_Words⟩, p45⟩ := g_x1.at e45 u23 sz45
              refine WD.hd (v := .pointer (some ⟨b45, o45, none⟩)) rfl rfl rfl rfl (fun _ _ _ _ _ => side_no) (fun ids H' fr => opD_indexAddr rfl (evV_eq _ _ _ _ _ rfl) (evV_eq _ _ _ _ _ rfl) (i45 _)) rfl ?_
              refine WD.hd (v := .slice a_t45_Words t45_Words.length c_t45_Words) rfl rfl rfl rfl (fun _ _ _ _ _ => side_no) (fun ids H' fr => opD_load rfl (evV_eq _ _ _ _ _ rfl) ((p45.mono (Nat.zero_le _) fr.ext0.abv).load (d := 1) ag43 rfl)) rfl ?_
              refine WD.cn hp rfl rfl rfl rfl rfl rfl rfl rfl rfl (fun hc49 hp => ?_) (fun hc49 hp => ?_)
              · refine WD.done rfl ?_
                subst hK123
                subst hK122
                obtain rfl := endS (show some _ = some r from hp)
                exact WJ.rt 205 rfl rfl rfl (fun ids H' fr => ⟨fr.ext0, rfl⟩)
              · refine WD.done rfl ?_
                exact WJ.goto 2 (j123 () hp) rfl rfl (by exact ⟨rfl, rfl, rfl, rfl, trivial⟩) rfl rfl rfl
            · replace hp := (itS hp).1 rfl
              obtain ⟨⟨t26_At, t26_Words⟩, e26, hp⟩ := bindS hp
              obtain ⟨b26, o26, cs26, i26, ⟨a_t26_Words, c_t26_Words, rfl, g_t26_Words⟩, p26⟩ := g_x0.at e26 u23 sz45
              refine WD.hd (v := .pointer (some ⟨b26, o26, none⟩)) rfl rfl rfl rfl (fun _ _ _ _ _ => side_no) (fun ids H' fr => opD_indexAddr rfl (evV_eq _ _ _ _ _ rfl) (evV_eq _ _ _ _ _ rfl) (i26 _)) rfl ?_
              refine WD.hd (v := .int .i64 t26_At) rfl rfl rfl rfl (fun _ _ _ _ _ => side_no) (fun ids H' fr => opD_load rfl (evV_eq _ _ _ _ _ rfl) ((p26.mono (Nat.zero_le _) fr.ext0.abv).load (d := 0) ag3 rfl)) rfl ?_
              obtain ⟨⟨t31_At, t31_Words⟩, e31, hp⟩ := bindS hp
              obtain ⟨b31, o31, cs31, i31, ⟨a_t31_Words, c_t31_Words, rfl, g_t31_Words⟩, p31⟩ := g_x1.at e31 u23 sz45
              refine WD.hd (v := .pointer (some ⟨b31, o31, none⟩)) rfl rfl rfl rfl (fun _ _ _ _ _ => side_no) (fun ids H' fr => opD_indexAddr rfl (evV_eq _ _ _ _ _ rfl) (evV_eq _ _ _ _ _ rfl) (i31 _)) rfl ?_
              refine WD.hd (v := .int .i64 t31_At) rfl rfl rfl rfl (fun _ _ _ _ _ => side_no) (fun ids H' fr => opD_load rfl (evV_eq _ _ _ _ _ rfl) ((p31.mono (Nat.zero_le _) fr.ext0.abv).load (d := 0) ag3 rfl)) rfl ?_
              refine WD.cn hp rfl rfl rfl rfl rfl rfl rfl rfl rfl (fun hc34 hp => ?_) (fun hc34 hp => ?_)
              · refine WD.done rfl ?_
                subst hK123
                subst hK122
                obtain rfl := endS (show some _ = some r from hp)
                exact WJ.rt 205 rfl rfl rfl (fun ids H' fr => ⟨fr.ext0, rfl⟩)
              · obtain ⟨⟨t39_At, t39_Words⟩, e39, hp⟩ := bindS hp
                obtain ⟨b39, o39, cs39, i39, ⟨a_t39_Words, c_t39_Words, rfl, g_t39_Words⟩, p39⟩ := g_x0.at e39 u23 sz45
                refine WD.hd (v := .pointer (some ⟨b39, o39, none⟩)) rfl rfl rfl rfl (fun _ _ _ _ _ => side_no) (fun ids H' fr => opD_indexAddr rfl (evV_eq _ _ _ _ _ rfl) (evV_eq _ _ _ _ _ rfl) (i39 _)) rfl ?_
                refine WD.hd (v := .slice a_t39_Words t39_Words.length c_t39_Words) rfl rfl rfl rfl (fun _ _ _ _ _ => side_no) (fun ids H' fr => opD_load rfl (evV_eq _ _ _ _ _ rfl) ((p39.mono (Nat.zero_le _) fr.ext0.abv).load (d := 1) ag43 rfl)) rfl ?_
                obtain ⟨⟨t45_At, t45_Words⟩, e45, hp⟩ := bindS hp
                obtain ⟨b45, o45, cs45, i45, ⟨a_t45_Words, c_t45_Words, rfl, g_t45_Words⟩, p45⟩ := g_x1.at e45 u23 sz45
                refine WD.hd (v := .pointer (some ⟨b45, o45, none⟩)) rfl rfl rfl rfl (fun _ _ _ _ _ => side_no) (fun ids H' fr => opD_indexAddr rfl (evV_eq _ _ _ _ _ rfl) (evV_eq _ _ _ _ _ rfl) (i45 _)) rfl ?_
                refine WD.hd (v := .slice a_t45_Words t45_Words.length c_t45_Words) rfl rfl rfl rfl (fun _ _ _ _ _ => side_no) (fun ids H' fr => opD_load rfl (evV_eq _ _ _ _ _ rfl) ((p45.mono (Nat.zero_le _) fr.ext0.abv).load (d := 1) ag43 rfl)) rfl ?_
                refine WD.cn hp rfl rfl rfl rfl rfl rfl rfl rfl rfl (fun hc49 hp => ?_) (fun hc49 hp => ?_)
                · refine WD.done rfl ?_
                  subst hK123
                  subst hK122
                  obtain rfl := endS (show some _ = some r from hp)
                  exact WJ.rt 205 rfl rfl rfl (fun ids H' fr => ⟨fr.ext0, rfl⟩)
                · refine WD.done rfl ?_
                  exact WJ.goto 2 (j123 () hp) rfl rfl (by exact ⟨rfl, rfl, rfl, rfl, trivial⟩) rfl rfl rfl
        · exact WJ.goto 3 (j122 () hp) rfl rfl (by exact trivial) rfl rfl rfl
/-! 3 tipstaff/tipstafflaw03.RowReads -/
def f3 (k : Nat) (x0 : List UInt8) : Option Bool :=
  (if (x0.length : Int) > 3000 then
    if (x0.length : Int) ≤ 20000 then
      (f8).bind fun t20 =>
      some (Sum.inl (t20 : Bool))
    else
      if (x0.length : Int) > 20010 then
        (f8).bind fun t20 =>
        some (Sum.inl (t20 : Bool))
      else
        some (Sum.inr ())
  else
    if (x0.length : Int) > 20010 then
      (f8).bind fun t20 =>
      some (Sum.inl (t20 : Bool))
    else
      some (Sum.inr ())).bind fun s => match s with
    | .inl st => some st
    | .inr _ => 
      (f9 k x0).bind fun (t23_0, t23_1) =>
      (f10 k x0).bind fun (t28_0, t28_1) =>
      (f11 k t23_0 t28_0 true).bind fun t33 =>
      if t33 then
        if (Fault.mk t23_1.Err t23_1.At) = (Fault.mk t28_1.Err t28_1.At) then
          (f8).bind fun t40 =>
          some t40
        else
          some false
      else
        some false
set_option maxRecDepth 20000 in
theorem f3_ok {k : Nat} {H : Hp} {x0 : List UInt8} {r : Bool} (hp : f3 k x0 = some r) :
    SCall Tryz.prog 3 [.string (bs x0)] H (Ret fun v H' => Ext H H' ∧ R_4 r H.next H' v) := by
  unfold f3 at hp
  replace hp := topS hp
  refine SCall.g Tryz.func3 rfl rfl rfl rfl rfl (l := [(0, .v (.string (bs x0)))]) (fun _ => rfl) (fun B abB => ?_)
  refine WJ.adv 6 rfl ?_
  obtain ⟨K125, hK125, hp⟩ : ∃ K, K = _ ∧ Option.bind _ K = some r := ⟨_, rfl, cutS hp⟩
  refine WJ.cut 2 (α := Hp) (fun y => [(0, .v (.string (bs x0)))]) (fun y => []) (fun y => []) (fun y => y) (fun y => K125 ((Sum.inr ())) = some r) ?_ (fun j125 => ?_)
  · rintro B4 hp
    subst hK125
    show WJ _ _ _ B4 [] _ _ ⟨[(0, .v (.string (bs x0)))], [], true, 0⟩
    obtain ⟨⟨t23_0, ⟨t23_1_Err, t23_1_At⟩⟩, e23, hp⟩ := bindS hp
    refine WJ.cl 203 (R := R_23_26 ⟨t23_0, ⟨t23_1_Err, t23_1_At⟩⟩) (fun hm h k => R_23_26.mono hm h k) rfl (fun ids H' fr => f9_ok e23) ?_
    rintro v B5 ⟨abB5, ivB5⟩ ⟨a_t23_0, c_t23_0, rfl, g_t23_0⟩
    refine ⟨_, rfl, ?_⟩
    obtain ⟨⟨t28_0, ⟨t28_1_Err, t28_1_At⟩⟩, e28, hp⟩ := bindS hp
    refine WJ.cl 210 (R := R_23_26 ⟨t28_0, ⟨t28_1_Err, t28_1_At⟩⟩) (fun hm h k => R_23_26.mono hm h k) rfl (fun ids H' fr => f10_ok e28) ?_
    rintro v B6 ⟨abB6, ivB6⟩ ⟨a_t28_0, c_t28_0, rfl, g_t28_0⟩
    refine ⟨_, rfl, ?_⟩
    replace g_t23_0 := g_t23_0.mono (Nat.le_refl _) (abB6.le (Nat.zero_le _))
    obtain ⟨t33, e33, hp⟩ := bindS hp
    refine WJ.cl 211 (R := R_4 t33) (fun hm h k => R_4.mono hm h k) rfl (fun ids H' fr => f11_ok (g_t23_0.mono (Nat.zero_le _) (fr.abv.le (Nat.zero_le _))) (g_t28_0.mono (Nat.zero_le _) (fr.abv.le (Nat.zero_le _))) e33) ?_
    rintro v B7 ⟨abB7, ivB7⟩ rfl
    refine ⟨_, rfl, ?_⟩
    replace g_t23_0 := g_t23_0.mono (Nat.le_refl _) (abB7.le (Nat.zero_le _))
    replace g_t28_0 := g_t28_0.mono (Nat.le_refl _) (abB7.le (Nat.zero_le _))
    cases t33
    · replace hp := (itS hp).2 Bool.false_ne_true
      obtain rfl := endS (show some _ = some r from hp)
      exact WJ.rt 210 rfl rfl rfl (fun ids H' fr => ⟨fr.ext0, rfl⟩)
    · replace hp := (itS hp).1 rfl
      refine WJ.ci 203 hp rfl rfl rfl rfl rfl rfl (opD_eqS rfl rfl rfl rfl gd26 (eq26 t23_1_Err t23_1_At t28_1_Err t28_1_At)) rfl rfl (fun hc37 hp => ?_) (fun hc37 hp => ?_)
      · obtain ⟨t40, e40, hp⟩ := bindS hp
        refine WJ.cl 202 (R := R_4 t40) (fun hm h k => R_4.mono hm h k) rfl (fun ids H' fr => f8_ok e40) ?_
        rintro v B8 ⟨abB8, ivB8⟩ rfl
        refine ⟨_, rfl, ?_⟩
        replace g_t23_0 := g_t23_0.mono (Nat.le_refl _) (abB8.le (Nat.zero_le _))
        replace g_t28_0 := g_t28_0.mono (Nat.le_refl _) (abB8.le (Nat.zero_le _))
        obtain rfl := endS (show some _ = some r from hp)
        exact WJ.rt 203 rfl rfl rfl (fun ids H' fr => ⟨fr.ext0, rfl⟩)
      · obtain rfl := endS (show some _ = some r from hp)
        exact WJ.rt 206 rfl rfl rfl (fun ids H' fr => ⟨fr.ext0, rfl⟩)
  · refine WJ.ci 203 hp rfl rfl rfl rfl rfl rfl rfl rfl rfl (fun hc9 hp => ?_) (fun hc9 hp => ?_)
    · refine WJ.ci 203 hp rfl rfl rfl rfl rfl rfl rfl rfl rfl (fun hc13 hp => ?_) (fun hc13 hp => ?_)
      · obtain ⟨t20, e20, hp⟩ := bindS hp
        refine WJ.cl 210 (R := R_4 t20) (fun hm h k => R_4.mono hm h k) rfl (fun ids H' fr => f8_ok e20) ?_
        rintro v B1 ⟨abB1, ivB1⟩ rfl
        refine ⟨_, rfl, ?_⟩
        subst hK125
        obtain rfl := endS (show some _ = some r from hp)
        exact WJ.rt 202 rfl rfl rfl (fun ids H' fr => ⟨fr.ext0, rfl⟩)
      · refine WJ.ci 204 hp rfl rfl rfl rfl rfl rfl rfl rfl rfl (fun hc18 hp => ?_) (fun hc18 hp => ?_)
        · obtain ⟨t20, e20, hp⟩ := bindS hp
          refine WJ.cl 205 (R := R_4 t20) (fun hm h k => R_4.mono hm h k) rfl (fun ids H' fr => f8_ok e20) ?_
          rintro v B2 ⟨abB2, ivB2⟩ rfl
          refine ⟨_, rfl, ?_⟩
          subst hK125
          obtain rfl := endS (show some _ = some r from hp)
          exact WJ.rt 202 rfl rfl rfl (fun ids H' fr => ⟨fr.ext0, rfl⟩)
        · exact WJ.goto 4 (j125 B hp) rfl rfl (by exact ⟨rfl, trivial⟩) rfl rfl rfl
    · refine WJ.ci 208 hp rfl rfl rfl rfl rfl rfl rfl rfl rfl (fun hc18 hp => ?_) (fun hc18 hp => ?_)
      · obtain ⟨t20, e20, hp⟩ := bindS hp
        refine WJ.cl 205 (R := R_4 t20) (fun hm h k => R_4.mono hm h k) rfl (fun ids H' fr => f8_ok e20) ?_
        rintro v B3 ⟨abB3, ivB3⟩ rfl
        refine ⟨_, rfl, ?_⟩
        subst hK125
        obtain rfl := endS (show some _ = some r from hp)
        exact WJ.rt 202 rfl rfl rfl (fun ids H' fr => ⟨fr.ext0, rfl⟩)
      · exact WJ.goto 4 (j125 B hp) rfl rfl (by exact ⟨rfl, trivial⟩) rfl rfl rfl
end
end Go.Proofs.YtgmejigjajcbfaaGreatDoor

set_option linter.unusedVariables false
namespace Go.Proofs.YtgmejigjajcbfaaGreatDoor
open Go Go.Det Go.RowKit
theorem ul9 : Tryz.prog.underlying 9 = some .string := by kernel_rfl
def ok9 (x : List UInt8) : Prop := x.length ≤ reachBytes
theorem rd9 {H : Hp} {cs : List Value} (h : Rd Tryz.prog H 9 cs) : ∃ x : List UInt8, Cod.rep strC 0 H cs x ∧ ok9 x := by
  obtain ⟨x, rfl, hx⟩ := h.str_inv ul9
  exact ⟨x, rfl, hx⟩
def Pure3 : Prop := ∀ (x0 : List UInt8), ok9 x0 → ∃ k : Nat, f3 k x0 = some true
theorem law3 (hp : Pure3) (H : Hp) (args : List Value) (_ : Tryz.prog.globals.size ≤ H.next) (h : RdArgs Tryz.prog H Tryz.f3.params.toList args) : SCall Tryz.prog 3 args H (fun e _ => e = .ret (.bool true)) := by
  replace h : RdArgs Tryz.prog H [9] args := h
  obtain ⟨v0, args0, ea0, h0, h⟩ := h.scal (by kernel_rfl)
  obtain ⟨x0, e0, k0⟩ := rd9 h0
  obtain rfl := (List.cons.inj e0).1
  obtain rfl := h.nil_inv
  subst ea0
  obtain ⟨k, hk⟩ := hp x0 k0
  exact (f3_ok hk).mono fun e H' ⟨v, h1, _, h2⟩ => by rw [h1, h2]
end Go.Proofs.YtgmejigjajcbfaaGreatDoor
