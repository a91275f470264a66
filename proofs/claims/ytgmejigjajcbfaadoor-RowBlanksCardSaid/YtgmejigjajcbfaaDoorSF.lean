import Derived.Test.YtgmejigjajcbfaaDoorSM
import Derived.Test.YtgmejigjajcbfaaDoorST
import Derived.Test.YtgmejigjajcbfaaDoorD51
set_option linter.unusedVariables false
set_option linter.unusedSimpArgs false
namespace Go.Proofs.YtgmejigjajcbfaaDoor
open Go Go.Det Go.RowKit
noncomputable section
/-! 25 tipstaff/row.blank -/
def f25 (x0 : Int) : Option Bool :=
  if x0 = 32 then
    some true
  else
    (some (x0 == 9)).bind fun t7 =>
    some t7
set_option maxRecDepth 20000 in
theorem f25_ok {H : Hp} {x0 : Int} {r : Bool} (hp : f25 x0 = some r) :
    SCall Tryd.prog 25 [.int .u8 x0] H (Ret fun v H' => Ext H H' ∧ R_4 r H.next H' v) := by
  unfold f25 at hp
  replace hp := topS hp
  refine SCall.g Tryd.func25 rfl rfl rfl rfl rfl (l := [(0, .v (.int .u8 x0))]) (fun _ => rfl) (fun B abB => ?_)
  refine WJ.ci 207 hp rfl rfl rfl rfl rfl rfl rfl rfl rfl (fun hc4 hp => ?_) (fun hc4 hp => ?_)
  · obtain rfl := endS (show some _ = some r from hp)
    exact WJ.rt 206 rfl rfl rfl (fun ids H' fr => ⟨fr.ext0, rfl⟩)
  · obtain ⟨t7, e7, hp⟩ := bindS hp
    refine WJ.cv 202 (b := t7) (H0 := ⟨.nil, 0, 0⟩) rfl rfl rfl rfl rfl rfl (by rw [← endS e7]; exact rfl) rfl ?_
    obtain rfl := endS (show some _ = some r from hp)
    exact WJ.rt 203 rfl rfl rfl (fun ids H' fr => ⟨fr.ext0, rfl⟩)
/-! 48 tipstaff/row.letter -/
def f48 (x0 : Int) : Option Bool :=
  if x0 ≥ 97 then
    if x0 ≤ 122 then
      some true
    else
      if x0 ≥ 65 then
        (some (decide (x0 ≤ 90))).bind fun t14 =>
        some t14
      else
        some false
  else
    if x0 ≥ 65 then
      (some (decide (x0 ≤ 90))).bind fun t14 =>
      some t14
    else
      some false
set_option maxRecDepth 20000 in
theorem f48_ok {H : Hp} {x0 : Int} {r : Bool} (hp : f48 x0 = some r) :
    SCall Tryd.prog 48 [.int .i32 x0] H (Ret fun v H' => Ext H H' ∧ R_4 r H.next H' v) := by
  unfold f48 at hp
  replace hp := topS hp
  refine SCall.g Tryd.func48 rfl rfl rfl rfl rfl (l := [(0, .v (.int .i32 x0))]) (fun _ => rfl) (fun B abB => ?_)
  refine WJ.ci 207 hp rfl rfl rfl rfl rfl rfl rfl rfl rfl (fun hc4 hp => ?_) (fun hc4 hp => ?_)
  · refine WJ.ci 202 hp rfl rfl rfl rfl rfl rfl rfl rfl rfl (fun hc7 hp => ?_) (fun hc7 hp => ?_)
    · obtain rfl := endS (show some _ = some r from hp)
      exact WJ.rt 211 rfl rfl rfl (fun ids H' fr => ⟨fr.ext0, rfl⟩)
    · refine WJ.ci 203 hp rfl rfl rfl rfl rfl rfl rfl rfl rfl (fun hc11 hp => ?_) (fun hc11 hp => ?_)
      · obtain ⟨t14, e14, hp⟩ := bindS hp
        refine WJ.cv 202 (b := t14) (H0 := ⟨.nil, 0, 0⟩) rfl rfl rfl rfl rfl rfl (by rw [← endS e14]; exact rfl) rfl ?_
        obtain rfl := endS (show some _ = some r from hp)
        exact WJ.rt 204 rfl rfl rfl (fun ids H' fr => ⟨fr.ext0, rfl⟩)
      · obtain rfl := endS (show some _ = some r from hp)
        exact WJ.rt 207 rfl rfl rfl (fun ids H' fr => ⟨fr.ext0, rfl⟩)
  · refine WJ.ci 206 hp rfl rfl rfl rfl rfl rfl rfl rfl rfl (fun hc11 hp => ?_) (fun hc11 hp => ?_)
    · obtain ⟨t14, e14, hp⟩ := bindS hp
      refine WJ.cv 202 (b := t14) (H0 := ⟨.nil, 0, 0⟩) rfl rfl rfl rfl rfl rfl (by rw [← endS e14]; exact rfl) rfl ?_
      obtain rfl := endS (show some _ = some r from hp)
      exact WJ.rt 204 rfl rfl rfl (fun ids H' fr => ⟨fr.ext0, rfl⟩)
    · obtain rfl := endS (show some _ = some r from hp)
      exact WJ.rt 207 rfl rfl rfl (fun ids H' fr => ⟨fr.ext0, rfl⟩)
/-! 38 tipstaff/row.digit -/
def f38 (x0 : Int) : Option (Int × Bool) :=
  (f52 ([48, 49, 50, 51, 52, 53, 54, 55, 56, 57, 97, 98, 99, 100, 101, 102] : List UInt8) (bits .or .u8 x0 32)).bind fun t7 =>
  (if x0 ≥ 48 then
    if x0 ≤ 57 then
      (f52 ([48, 49, 50, 51, 52, 53, 54, 55, 56, 57, 97, 98, 99, 100, 101, 102] : List UInt8) x0).bind fun t15 =>
      some (t15)
    else
      some (t7)
  else
    some (t7)).bind fun x4_1 =>
    if x4_1 ≥ 0 then
      if x0 ≥ 48 then
        if x0 ≤ 57 then
          some (IntKind.u8.wrap (gmax x4_1 0), true)
        else
          (f48 (IntKind.i32.wrap x0)).bind fun t31 =>
          some (IntKind.u8.wrap (gmax x4_1 0), t31)
      else
        (f48 (IntKind.i32.wrap x0)).bind fun t31 =>
        some (IntKind.u8.wrap (gmax x4_1 0), t31)
    else
      some (IntKind.u8.wrap (gmax x4_1 0), false)
set_option maxRecDepth 20000 in
theorem f38_ok {H : Hp} {x0 : Int} {r : Int × Bool} (hp : f38 x0 = some r) :
    SCall Tryd.prog 38 [.int .u8 x0] H (Ret fun v H' => Ext H H' ∧ R_5_4 r H.next H' v) := by
  unfold f38 at hp
  replace hp := topS hp
  refine SCall.g Tryd.func38 rfl rfl rfl rfl rfl (l := [(0, .v (.int .u8 x0))]) (fun _ => rfl) (fun B abB => ?_)
  obtain ⟨t7, e7, hp⟩ := bindS hp
  refine WJ.cl 209 (R := R_3 t7) (fun hm h k => R_3.mono hm h k) rfl (fun ids H' fr => f52_ok e7) ?_
  rintro v B1 ⟨abB1, ivB1⟩ rfl
  refine ⟨_, rfl, ?_⟩
  refine WJ.adv 4 rfl ?_
  obtain ⟨K1, hK1, hp⟩ : ∃ K, K = _ ∧ Option.bind _ K = some r := ⟨_, rfl, cutS hp⟩
  refine WJ.cut 2 (α := Int × Hp) (fun y => [(0, .v (.int .u8 x0)), (4, .v (.int .i64 y.1))]) (fun y => []) (fun y => []) (fun y => y.2) (fun y => K1 ((y.1)) = some r) ?_ (fun j1 => ?_)
  · rintro ⟨x4_1, B3⟩ hp
    subst hK1
    show WJ _ _ _ B3 [] _ _ ⟨[(0, .v (.int .u8 x0)), (4, .v (.int .i64 x4_1))], [], true, 0⟩
    refine WJ.hd (v := .int .i64 (gmax x4_1 0)) 203 rfl rfl rfl rfl (fun ids H' fr => opD_max rfl rfl rfl (evV_eq (v := .v (.int .i64 x4_1)) _ _ _ _ _ rfl) (evV_eq (v := .v (.int .i64 0)) _ _ _ _ _ rfl)) rfl ?_
    refine WJ.ci 202 hp rfl rfl rfl rfl rfl rfl rfl rfl rfl (fun hc20 hp => ?_) (fun hc20 hp => ?_)
    · refine WJ.ci 202 hp rfl rfl rfl rfl rfl rfl rfl rfl rfl (fun hc23 hp => ?_) (fun hc23 hp => ?_)
      · refine WJ.ci 202 hp rfl rfl rfl rfl rfl rfl rfl rfl rfl (fun hc26 hp => ?_) (fun hc26 hp => ?_)
        · obtain rfl := endS (show some _ = some r from hp)
          exact WJ.rt 210 rfl rfl rfl (fun ids H' fr => ⟨fr.ext0, rfl⟩)
        · obtain ⟨t31, e31, hp⟩ := bindS hp
          refine WJ.cl 204 (R := R_4 t31) (fun hm h k => R_4.mono hm h k) rfl (fun ids H' fr => f48_ok e31) ?_
          rintro v B4 ⟨abB4, ivB4⟩ rfl
          refine ⟨_, rfl, ?_⟩
          obtain rfl := endS (show some _ = some r from hp)
          exact WJ.rt 205 rfl rfl rfl (fun ids H' fr => ⟨fr.ext0, rfl⟩)
      · obtain ⟨t31, e31, hp⟩ := bindS hp
        refine WJ.cl 207 (R := R_4 t31) (fun hm h k => R_4.mono hm h k) rfl (fun ids H' fr => f48_ok e31) ?_
        rintro v B5 ⟨abB5, ivB5⟩ rfl
        refine ⟨_, rfl, ?_⟩
        obtain rfl := endS (show some _ = some r from hp)
        exact WJ.rt 205 rfl rfl rfl (fun ids H' fr => ⟨fr.ext0, rfl⟩)
    · obtain rfl := endS (show some _ = some r from hp)
      exact WJ.rt 216 rfl rfl rfl (fun ids H' fr => ⟨fr.ext0, rfl⟩)
  · refine WJ.ci 202 hp rfl rfl rfl rfl rfl rfl rfl rfl rfl (fun hc9 hp => ?_) (fun hc9 hp => ?_)
    · refine WJ.ci 202 hp rfl rfl rfl rfl rfl rfl rfl rfl rfl (fun hc12 hp => ?_) (fun hc12 hp => ?_)
      · obtain ⟨t15, e15, hp⟩ := bindS hp
        refine WJ.cl 205 (R := R_3 t15) (fun hm h k => R_3.mono hm h k) rfl (fun ids H' fr => f52_ok e15) ?_
        rintro v B2 ⟨abB2, ivB2⟩ rfl
        refine ⟨_, rfl, ?_⟩
        exact WJ.goto 2 (j1 (t15, B2) hp) rfl rfl (by exact ⟨rfl, rfl, trivial⟩) rfl rfl rfl
      · exact WJ.goto 4 (j1 (t7, B1) hp) rfl rfl (by exact ⟨rfl, rfl, trivial⟩) rfl rfl rfl
    · exact WJ.goto 7 (j1 (t7, B1) hp) rfl rfl (by exact ⟨rfl, rfl, trivial⟩) rfl rfl rfl
/-! 28 tipstaff/row.escape -/
def f28 (x0 : List UInt8) : Option (Int × Int) :=
  if x0 = ([] : List UInt8) then
    some (0, 0)
  else
    (rd x0 0).bind fun b13 =>
    if ((b13.toNat : Nat) : Int) = 34 then
      (rd x0 0).bind fun b21 =>
      some (((b21.toNat : Nat) : Int), 1)
    else
      (rd x0 0).bind fun b17 =>
      if ((b17.toNat : Nat) : Int) = 92 then
        (rd x0 0).bind fun b21 =>
        some (((b21.toNat : Nat) : Int), 1)
      else
        (rd x0 0).bind fun b24 =>
        if ((b24.toNat : Nat) : Int) = 120 then
          if (x0.length : Int) < 3 then
            some (0, 0)
          else
            (rd x0 1).bind fun b33 =>
            (f38 ((b33.toNat : Nat) : Int)).bind fun (t34_0, t34_1) =>
            (rd x0 2).bind fun b39 =>
            (f38 ((b39.toNat : Nat) : Int)).bind fun (t40_0, t40_1) =>
            if t34_1 then
              if t40_1 then
                some (bits .or .u8 (gshl .u8 t34_0 4) t40_0, 3)
              else
                some (0, 0)
            else
              some (0, 0)
        else
          some (0, 0)
set_option maxRecDepth 20000 in
theorem f28_ok {H : Hp} {x0 : List UInt8} {r : Int × Int} (hp : f28 x0 = some r) :
    SCall Tryd.prog 28 [.string (bs x0)] H (Ret fun v H' => Ext H H' ∧ R_5_3 r H.next H' v) := by
  unfold f28 at hp
  replace hp := topS hp
  refine SCall.g Tryd.func28 rfl rfl rfl rfl rfl (l := [(0, .v (.string (bs x0)))]) (fun _ => rfl) (fun B abB => ?_)
  refine WJ.ci 210 hp rfl rfl rfl rfl rfl rfl (opD_streq rfl rfl rfl) rfl rfl (fun hc10 hp => ?_) (fun hc10 hp => ?_)
  · obtain rfl := endS (show some _ = some r from hp)
    exact WJ.rt 208 rfl rfl rfl (fun ids H' fr => ⟨fr.ext0, rfl⟩)
  · obtain ⟨b13, e13, hp⟩ := bindS hp
    refine WJ.hd (v := .int .u8 ((b13.toNat : Nat) : Int)) 206 rfl rfl rfl rfl (fun ids H' fr => opD_index rfl (evV_eq _ _ _ _ _ rfl) (evV_eq _ _ _ _ _ rfl) (sidx us9 e13)) rfl ?_
    refine WJ.ci 200 hp rfl rfl rfl rfl rfl rfl rfl rfl rfl (fun hc14 hp => ?_) (fun hc14 hp => ?_)
    · obtain ⟨b21, e21, hp⟩ := bindS hp
      refine WJ.hd (v := .int .u8 ((b21.toNat : Nat) : Int)) 211 rfl rfl rfl rfl (fun ids H' fr => opD_index rfl (evV_eq _ _ _ _ _ rfl) (evV_eq _ _ _ _ _ rfl) (sidx us9 e21)) rfl ?_
      obtain rfl := endS (show some _ = some r from hp)
      exact WJ.rt 203 rfl rfl rfl (fun ids H' fr => ⟨fr.ext0, rfl⟩)
    · obtain ⟨b17, e17, hp⟩ := bindS hp
      refine WJ.hd (v := .int .u8 ((b17.toNat : Nat) : Int)) 202 rfl rfl rfl rfl (fun ids H' fr => opD_index rfl (evV_eq _ _ _ _ _ rfl) (evV_eq _ _ _ _ _ rfl) (sidx us9 e17)) rfl ?_
      refine WJ.ci 200 hp rfl rfl rfl rfl rfl rfl rfl rfl rfl (fun hc18 hp => ?_) (fun hc18 hp => ?_)
      · obtain ⟨b21, e21, hp⟩ := bindS hp
        refine WJ.hd (v := .int .u8 ((b21.toNat : Nat) : Int)) 207 rfl rfl rfl rfl (fun ids H' fr => opD_index rfl (evV_eq _ _ _ _ _ rfl) (evV_eq _ _ _ _ _ rfl) (sidx us9 e21)) rfl ?_
        obtain rfl := endS (show some _ = some r from hp)
        exact WJ.rt 203 rfl rfl rfl (fun ids H' fr => ⟨fr.ext0, rfl⟩)
      · obtain ⟨b24, e24, hp⟩ := bindS hp
        refine WJ.hd (v := .int .u8 ((b24.toNat : Nat) : Int)) 207 rfl rfl rfl rfl (fun ids H' fr => opD_index rfl (evV_eq _ _ _ _ _ rfl) (evV_eq _ _ _ _ _ rfl) (sidx us9 e24)) rfl ?_
        refine WJ.cn 200 hp rfl rfl rfl rfl rfl rfl rfl rfl rfl (fun hc25 hp => ?_) (fun hc25 hp => ?_)
        · obtain rfl := endS (show some _ = some r from hp)
          exact WJ.rt 213 rfl rfl rfl (fun ids H' fr => ⟨fr.ext0, rfl⟩)
        · refine WJ.ci 203 hp rfl rfl rfl rfl rfl rfl rfl rfl rfl (fun hc29 hp => ?_) (fun hc29 hp => ?_)
          · obtain rfl := endS (show some _ = some r from hp)
            exact WJ.rt 209 rfl rfl rfl (fun ids H' fr => ⟨fr.ext0, rfl⟩)
          · obtain ⟨b33, e33, hp⟩ := bindS hp
            refine WJ.hd (v := .int .u8 ((b33.toNat : Nat) : Int)) 209 rfl rfl rfl rfl (fun ids H' fr => opD_index rfl (evV_eq _ _ _ _ _ rfl) (evV_eq _ _ _ _ _ rfl) (sidx us9 e33)) rfl ?_
            obtain ⟨⟨t34_0, t34_1⟩, e34, hp⟩ := bindS hp
            refine WJ.cl 200 (R := R_5_4 ⟨t34_0, t34_1⟩) (fun hm h k => R_5_4.mono hm h k) rfl (fun ids H' fr => f38_ok e34) ?_
            rintro v B1 ⟨abB1, ivB1⟩ rfl
            refine ⟨_, rfl, ?_⟩
            obtain ⟨b39, e39, hp⟩ := bindS hp
            refine WJ.hd (v := .int .u8 ((b39.toNat : Nat) : Int)) 209 rfl rfl rfl rfl (fun ids H' fr => opD_index rfl (evV_eq _ _ _ _ _ rfl) (evV_eq _ _ _ _ _ rfl) (sidx us9 e39)) rfl ?_
            obtain ⟨⟨t40_0, t40_1⟩, e40, hp⟩ := bindS hp
            refine WJ.cl 200 (R := R_5_4 ⟨t40_0, t40_1⟩) (fun hm h k => R_5_4.mono hm h k) rfl (fun ids H' fr => f38_ok e40) ?_
            rintro v B2 ⟨abB2, ivB2⟩ rfl
            refine ⟨_, rfl, ?_⟩
            cases t34_1
            · replace hp := (itS hp).2 Bool.false_ne_true
              obtain rfl := endS (show some _ = some r from hp)
              exact WJ.rt 222 rfl rfl rfl (fun ids H' fr => ⟨fr.ext0, rfl⟩)
            · replace hp := (itS hp).1 rfl
              cases t40_1
              · replace hp := (itS hp).2 Bool.false_ne_true
                obtain rfl := endS (show some _ = some r from hp)
                exact WJ.rt 222 rfl rfl rfl (fun ids H' fr => ⟨fr.ext0, rfl⟩)
              · replace hp := (itS hp).1 rfl
                refine WJ.hd (v := .int .u8 (gshl .u8 t34_0 4)) 221 rfl rfl rfl rfl (fun ids H' fr => opD_bin rfl (evV_eq _ _ _ _ _ rfl) (evV_eq _ _ _ _ _ rfl) (bin_shl (by decide))) rfl ?_
                obtain rfl := endS (show some _ = some r from hp)
                exact WJ.rt 205 rfl rfl rfl (fun ids H' fr => ⟨fr.ext0, rfl⟩)
/-! 21 tipstaff/row.plain -/
def f21 (x0 : Int) (x1 : Int) : Option Bool :=
  if x0 = 34 then
    some false
  else
    if x0 = 92 then
      some false
    else
      if x1 = 1 then
        if x0 ≥ 32 then
          (some (decide (x0 ≤ 126))).bind fun t19 =>
          some t19
        else
          some false
      else
        (some (decide (x0 ≥ 160))).bind fun t22 =>
        some t22
set_option maxRecDepth 20000 in
theorem f21_ok {H : Hp} {x0 : Int} {x1 : Int} {r : Bool} (hp : f21 x0 x1 = some r) :
    SCall Tryd.prog 21 [.int .i32 x0, .int .i64 x1] H (Ret fun v H' => Ext H H' ∧ R_4 r H.next H' v) := by
  unfold f21 at hp
  replace hp := topS hp
  refine SCall.g Tryd.func21 rfl rfl rfl rfl rfl (l := [(0, .v (.int .i32 x0)), (1, .v (.int .i64 x1))]) (fun _ => rfl) (fun B abB => ?_)
  refine WJ.ci 209 hp rfl rfl rfl rfl rfl rfl rfl rfl rfl (fun hc7 hp => ?_) (fun hc7 hp => ?_)
  · obtain rfl := endS (show some _ = some r from hp)
    exact WJ.rt 211 rfl rfl rfl (fun ids H' fr => ⟨fr.ext0, rfl⟩)
  · refine WJ.ci 202 hp rfl rfl rfl rfl rfl rfl rfl rfl rfl (fun hc10 hp => ?_) (fun hc10 hp => ?_)
    · obtain rfl := endS (show some _ = some r from hp)
      exact WJ.rt 208 rfl rfl rfl (fun ids H' fr => ⟨fr.ext0, rfl⟩)
    · refine WJ.ci 207 hp rfl rfl rfl rfl rfl rfl rfl rfl rfl (fun hc14 hp => ?_) (fun hc14 hp => ?_)
      · refine WJ.ci 206 hp rfl rfl rfl rfl rfl rfl rfl rfl rfl (fun hc16 hp => ?_) (fun hc16 hp => ?_)
        · obtain ⟨t19, e19, hp⟩ := bindS hp
          refine WJ.cv 202 (b := t19) (H0 := ⟨.nil, 0, 0⟩) rfl rfl rfl rfl rfl rfl (by rw [← endS e19]; exact rfl) rfl ?_
          obtain rfl := endS (show some _ = some r from hp)
          exact WJ.rt 203 rfl rfl rfl (fun ids H' fr => ⟨fr.ext0, rfl⟩)
        · obtain rfl := endS (show some _ = some r from hp)
          exact WJ.rt 206 rfl rfl rfl (fun ids H' fr => ⟨fr.ext0, rfl⟩)
      · obtain ⟨t22, e22, hp⟩ := bindS hp
        refine WJ.cv 208 (b := t22) (H0 := ⟨.nil, 0, 0⟩) rfl rfl rfl rfl rfl rfl (by rw [← endS e22]; exact rfl) rfl ?_
        obtain rfl := endS (show some _ = some r from hp)
        exact WJ.rt 202 rfl rfl rfl (fun ids H' fr => ⟨fr.ext0, rfl⟩)
/-! 16 tipstaff/row.unquote -/
def f16_l1 (x0 : List UInt8) : Nat → (List UInt8) → Int → Option (((List UInt8) × Int) ⊕ ((List UInt8)))
  | 0, _, _ => none
  | n + 1, l1_h3, x5_h3 =>
    if x5_h3 < (x0.length : Int) then
      (sub x0 x5_h3 (x0.length : Int)).bind fun s24u1 =>
      (f19 s24u1).bind fun (t25u1_0, t25u1_1) =>
      if t25u1_0 = 34 then
        (apd 1 l1_h3 ([] : List UInt8)).bind fun lB31u1 =>
        some (Sum.inl ((l1_h3, IntKind.i64.wrap (x5_h3 + 1)) : (List UInt8) × Int))
      else
        if t25u1_0 = 92 then
          (sub x0 (IntKind.i64.wrap (x5_h3 + 1)) (x0.length : Int)).bind fun s41u1 =>
          (f28 s41u1).bind fun (t42u1_0, t42u1_1) =>
          if t42u1_1 = 0 then
            some (Sum.inr l1_h3)
          else
            (c8 t42u1_0).bind fun uB48u1 =>
            (apd 1 l1_h3 ([uB48u1])).bind fun lB48u1 =>
            f16_l1 x0 n lB48u1 (IntKind.i64.wrap (x5_h3 + (IntKind.i64.wrap (1 + t42u1_1))))
        else
          (f21 t25u1_0 t25u1_1).bind fun t56 =>
          if t56 then
            (sub x0 x5_h3 (IntKind.i64.wrap (x5_h3 + t25u1_1))).bind fun s63 =>
            (apd 1 l1_h3 s63).bind fun lB64 =>
            f16_l1 x0 n lB64 (IntKind.i64.wrap (x5_h3 + t25u1_1))
          else
            some (Sum.inr l1_h3)
    else
      some (Sum.inr l1_h3)

def f16 (k : Nat) (x0 : List UInt8) : Option ((List UInt8) × Int) :=
  if x0 = ([] : List UInt8) then
    some (([] : List UInt8), 0)
  else
    (rd x0 0).bind fun b14 =>
    if ((b14.toNat : Nat) : Int) = 34 then
      (f16_l1 x0 k ([]) 1).bind fun s => match s with
        | .inl st => some st
        | .inr l1_3 => 
          some (([] : List UInt8), 0)
    else
      some (([] : List UInt8), 0)
set_option maxHeartbeats 3200000 in
set_option maxRecDepth 20000 in
theorem f16_ok {k : Nat} {H : Hp} {x0 : List UInt8} {r : (List UInt8) × Int} (hp : f16 k x0 = some r) :
    SCall Tryd.prog 16 [.string (bs x0)] H (Ret fun v H' => Ext H H' ∧ R_9_3 r H.next H' v) := by
  unfold f16 at hp
  replace hp := topS hp
  refine SCall.g Tryd.func16 rfl rfl rfl rfl rfl (l := [(0, .v (.string (bs x0)))]) (fun _ => rfl) (fun B abB => ?_)
  refine WJ.nb (U := 5) 208 rfl rfl rfl rfl rfl bzero bis rfl rfl ?_
  intro bw4
  refine ⟨_, rfl, ?_⟩
  refine WJ.ci 205 hp rfl rfl rfl rfl rfl rfl (opD_streq rfl rfl rfl) rfl rfl (fun hc11 hp => ?_) (fun hc11 hp => ?_)
  · obtain rfl := endS (show some _ = some r from hp)
    exact WJ.rt 212 rfl rfl rfl (fun ids H' fr => ⟨fr.ext0, rfl⟩)
  · obtain ⟨b14, e14, hp⟩ := bindS hp
    refine WJ.hd (v := .int .u8 ((b14.toNat : Nat) : Int)) 202 rfl rfl rfl rfl (fun ids H' fr => opD_index rfl (evV_eq _ _ _ _ _ rfl) (evV_eq _ _ _ _ _ rfl) (sidx us9 e14)) rfl ?_
    refine WJ.cn 200 hp rfl rfl rfl rfl rfl rfl rfl rfl rfl (fun hc15 hp => ?_) (fun hc15 hp => ?_)
    · obtain rfl := endS (show some _ = some r from hp)
      exact WJ.rt 208 rfl rfl rfl (fun ids H' fr => ⟨fr.ext0, rfl⟩)
    · refine WJ.adv 12 rfl ?_
      obtain ⟨K3, hK3, hp⟩ : ∃ K, K = _ ∧ Option.bind _ K = some r := ⟨_, rfl, cutS hp⟩
      refine WJ.cut 2 (α := (List UInt8) × (Option Addr) × Nat × Hp) (fun y => []) (fun y => []) (fun y => [bldS 56 bw4 y.2.1 y.1, bldB 5 y.2.1 y.1]) (fun y => y.2.2.2) (fun y => K3 (Sum.inr y.1) = some r) ?_ (fun j3 => ?_)
      · rintro ⟨l1_3, a1_3, c1_3, B5⟩ hp
        subst hK3
        show WJ _ _ _ B5 [bldS 56 bw4 a1_3 l1_3, bldB 5 a1_3 l1_3] _ _ ⟨[], [], true, 0⟩
        obtain rfl := endS (show some _ = some r from hp)
        exact WJ.rt 205 rfl rfl rfl (fun ids H' fr => ⟨fr.ext0, rfl⟩)
      · refine WJ.lp 200 (α := Nat × (List UInt8) × Int × (Option Addr) × Nat × Hp) (fun y => [(0, .v (.string (bs x0))), (4, .v (.pointer (some ⟨bw4, 0, none⟩))), (5, .v (.int .i64 y.2.2.1))]) (fun y => []) (fun y => [bldS 56 bw4 y.2.2.2.1 y.2.1, bldB 5 y.2.2.2.1 y.2.1]) (fun y => y.2.2.2.2.2) (fun y => y.1) (fun y => Option.bind (f16_l1 x0 y.1 y.2.1 y.2.2.1) K3 = some r) (k, ([] : List UInt8), 1, none, 0, B) rfl hp (by exact ⟨rfl, rfl, rfl, trivial⟩) rfl rfl rfl ?_
        rintro ⟨n, l1_h3, x5_h3, a1_h3, c1_h3, B1⟩ hp ih3
        show WJ _ _ _ B1 [bldS 56 bw4 a1_h3 l1_h3, bldB 5 a1_h3 l1_h3] _ _ ⟨[(0, .v (.string (bs x0))), (4, .v (.pointer (some ⟨bw4, 0, none⟩))), (5, .v (.int .i64 x5_h3))], [], true, 0⟩
        replace hp : Option.bind (f16_l1 x0 n l1_h3 x5_h3) K3 = some r := hp
        cases n with
        | zero => rw [f16_l1] at hp; exact (noS hp).elim
        | succ n =>
          rw [f16_l1] at hp
          refine WJ.ci 206 hp rfl rfl rfl rfl rfl rfl rfl rfl rfl (fun hc20u1 hp => ?_) (fun hc20u1 hp => ?_)
          · obtain ⟨s24u1, e24u1, hp⟩ := bindS hp
            refine WJ.hd (v := .string (bs s24u1)) 208 rfl rfl rfl rfl (fun ids H' fr => opD_sl rfl (evV_eq _ _ _ _ _ rfl) (evV_eq _ _ _ _ _ rfl) (sliceD_l us9 e24u1)) rfl ?_
            obtain ⟨⟨t25u1_0, t25u1_1⟩, e25u1, hp⟩ := bindS hp
            refine WJ.cl 200 (R := R_21_3 ⟨t25u1_0, t25u1_1⟩) (fun hm h k => R_21_3.mono hm h k) rfl (fun ids H' fr => f19_ok e25u1) ?_
            rintro v B2 ⟨abB2, ivB2⟩ rfl
            refine ⟨_, rfl, ?_⟩
            refine WJ.ci 211 hp rfl rfl rfl rfl rfl rfl rfl rfl rfl (fun hc30u1 hp => ?_) (fun hc30u1 hp => ?_)
            · obtain ⟨lB31u1, eB31u1, hp⟩ := bindS hp
              obtain ⟨bdB31u1, rfl⟩ := apd_some eB31u1
              refine WJ.bg 205 0 rfl st_ok (fun _ => rfl) rfl rfl rfl (by simpa using bdB31u1) ?_
              refine ⟨_, rfl, ?_⟩
              subst hK3
              obtain rfl := endS (show some _ = some r from hp)
              exact WJ.rt 205 rfl rfl rfl (fun ids H' fr => ⟨fr.ext0, rfl⟩)
            · refine WJ.ci 206 hp rfl rfl rfl rfl rfl rfl rfl rfl rfl (fun hc36u1 hp => ?_) (fun hc36u1 hp => ?_)
              · obtain ⟨s41u1, e41u1, hp⟩ := bindS hp
                refine WJ.hd (v := .string (bs s41u1)) 208 rfl rfl rfl rfl (fun ids H' fr => opD_sl rfl (evV_eq _ _ _ _ _ rfl) (evV_eq _ _ _ _ _ rfl) (sliceD_l us9 e41u1)) rfl ?_
                obtain ⟨⟨t42u1_0, t42u1_1⟩, e42u1, hp⟩ := bindS hp
                refine WJ.cl 200 (R := R_5_3 ⟨t42u1_0, t42u1_1⟩) (fun hm h k => R_5_3.mono hm h k) rfl (fun ids H' fr => f28_ok e42u1) ?_
                rintro v B3 ⟨abB3, ivB3⟩ rfl
                refine ⟨_, rfl, ?_⟩
                refine WJ.ci 210 hp rfl rfl rfl rfl rfl rfl rfl rfl rfl (fun hc46u1 hp => ?_) (fun hc46u1 hp => ?_)
                · exact WJ.goto 3 (j3 (l1_h3, a1_h3, 0, B3) hp) rfl rfl (by exact trivial) rfl rfl rfl
                · obtain ⟨uB48u1, euB48u1, hp⟩ := bindS hp
                  obtain ⟨lB48u1, eB48u1, hp⟩ := bindS hp
                  obtain ⟨bdB48u1, rfl⟩ := apd_some eB48u1
                  refine WJ.bw 206 (s := [uB48u1]) 0 rfl (wb_ok euB48u1) (fun _ => rfl) rfl rfl rfl bdB48u1 ?_
                  intro aB48u1
                  refine ⟨_, rfl, ?_⟩
                  exact WJ.ag 210 rfl (by exact ⟨rfl, rfl, rfl, trivial⟩) rfl rfl rfl (ih3 (n, (l1_h3 ++ ([uB48u1])), IntKind.i64.wrap (x5_h3 + (IntKind.i64.wrap (1 + t42u1_1))), aB48u1, 0, B3) hp (Nat.lt_succ_self _))
              · obtain ⟨t56, e56, hp⟩ := bindS hp
                refine WJ.cl 207 (R := R_4 t56) (fun hm h k => R_4.mono hm h k) rfl (fun ids H' fr => f21_ok e56) ?_
                rintro v B4 ⟨abB4, ivB4⟩ rfl
                refine ⟨_, rfl, ?_⟩
                cases t56
                · replace hp := (itS hp).2 Bool.false_ne_true
                  exact WJ.goto 5 (j3 (l1_h3, a1_h3, 0, B4) hp) rfl rfl (by exact trivial) rfl rfl rfl
                · replace hp := (itS hp).1 rfl
                  obtain ⟨s63, e63, hp⟩ := bindS hp
                  refine WJ.hd (v := .string (bs s63)) 213 rfl rfl rfl rfl (fun ids H' fr => opD_slh rfl (evV_eq _ _ _ _ _ rfl) (evV_eq _ _ _ _ _ rfl) (evV_eq _ _ _ _ _ rfl) (sliceD_lh us9 e63)) rfl ?_
                  obtain ⟨lB64, eB64, hp⟩ := bindS hp
                  obtain ⟨bdB64, rfl⟩ := apd_some eB64
                  refine WJ.bw 200 (s := s63) 0 rfl (ws_ok s63) (fun _ => rfl) rfl rfl rfl bdB64 ?_
                  intro aB64
                  refine ⟨_, rfl, ?_⟩
                  exact WJ.ag 208 rfl (by exact ⟨rfl, rfl, rfl, trivial⟩) rfl rfl rfl (ih3 (n, (l1_h3 ++ s63), IntKind.i64.wrap (x5_h3 + t25u1_1), aB64, 0, B4) hp (Nat.lt_succ_self _))
          · exact WJ.goto 3 (j3 (l1_h3, a1_h3, 0, B1) hp) rfl rfl (by exact trivial) rfl rfl rfl
/-! 36 tipstaff/row.Name -/
def f36_l1 (x0 : List UInt8) : Nat → Nat → Option ((Bool) ⊕ (Unit))
  | 0, _ => none
  | n + 1, p0 =>
    if p0 < x0.length then
      (f48 (decL x0 p0)).bind fun t12 =>
      if t12 then
        f36_l1 x0 n (p0 + decN x0 p0)
      else
        if ((p0 : Nat) : Int) = 0 then
          some (Sum.inl (false : Bool))
        else
          if (decL x0 p0) = 45 then
            f36_l1 x0 n (p0 + decN x0 p0)
          else
            if (decL x0 p0) < 48 then
              some (Sum.inl (false : Bool))
            else
              if (decL x0 p0) > 57 then
                some (Sum.inl (false : Bool))
              else
                f36_l1 x0 n (p0 + decN x0 p0)
    else
      some (Sum.inr ())

def f36 (k : Nat) (x0 : List UInt8) : Option Bool :=
  (f36_l1 x0 k 0).bind fun s => match s with
    | .inl st => some st
    | .inr _ => 
      if x0 = ([] : List UInt8) then
        some false
      else
        (some (decide ((x0.length : Int) ≤ 16))).bind fun t35 =>
        some t35
set_option maxRecDepth 20000 in
theorem f36_ok {k : Nat} {H : Hp} {x0 : List UInt8} {r : Bool} (hp : f36 k x0 = some r) :
    SCall Tryd.prog 36 [.string (bs x0)] H (Ret fun v H' => Ext H H' ∧ R_4 r H.next H' v) := by
  unfold f36 at hp
  replace hp := topS hp
  refine SCall.g Tryd.func36 rfl rfl rfl rfl rfl (l := [(0, .v (.string (bs x0)))]) (fun _ => rfl) (fun B abB => ?_)
  refine WJ.rg 208 rfl rfl rfl rfl rfl us9 rfl ?_
  rintro b6 B1 ⟨abB1, ivB1⟩ h06 it6
  refine ⟨_, rfl, ?_⟩
  refine WJ.adv 2 rfl ?_
  obtain ⟨K4, hK4, hp⟩ : ∃ K, K = _ ∧ Option.bind _ K = some r := ⟨_, rfl, cutS hp⟩
  refine WJ.cut 2 (α := Hp) (fun y => [(0, .v (.string (bs x0)))]) (fun y => []) (fun y => []) (fun y => y) (fun y => K4 (Sum.inr ()) = some r) ?_ (fun j4 => ?_)
  · rintro B5 hp
    subst hK4
    show WJ _ _ _ B5 [] _ _ ⟨[(0, .v (.string (bs x0)))], [], true, 0⟩
    refine WJ.cn 203 hp rfl rfl rfl rfl rfl rfl (opD_strne rfl rfl rfl) rfl rfl (fun hc31 hp => ?_) (fun hc31 hp => ?_)
    · obtain ⟨t35, e35, hp⟩ := bindS hp
      refine WJ.cv 203 (b := t35) (H0 := ⟨.nil, 0, 0⟩) rfl rfl rfl rfl rfl rfl (by rw [← endS e35]; exact rfl) rfl ?_
      obtain rfl := endS (show some _ = some r from hp)
      exact WJ.rt 203 rfl rfl rfl (fun ids H' fr => ⟨fr.ext0, rfl⟩)
    · obtain rfl := endS (show some _ = some r from hp)
      exact WJ.rt 207 rfl rfl rfl (fun ids H' fr => ⟨fr.ext0, rfl⟩)
  · refine WJ.lp 200 (α := Nat × Nat × Hp) (fun y => [(0, .v (.string (bs x0))), (6, .v (.pointer (some ⟨b6, 0, none⟩)))]) (fun y => []) (fun y => []) (fun y => y.2.2) (fun y => y.1) (fun y => Option.bind (f36_l1 x0 y.1 y.2.1) K4 = some r ∧ y.2.2.get b6 = some (.iter (bs x0) y.2.1)) (k, 0, B1) rfl ⟨hp, it6⟩ (by exact ⟨rfl, rfl, trivial⟩) rfl rfl rfl ?_
    rintro ⟨n, p0, B2⟩ ⟨hp, it6⟩ ih4
    show WJ _ _ _ B2 [] _ _ ⟨[(0, .v (.string (bs x0))), (6, .v (.pointer (some ⟨b6, 0, none⟩)))], [], true, 0⟩
    replace hp : Option.bind (f36_l1 x0 n p0) K4 = some r := hp
    cases n with
    | zero => rw [f36_l1] at hp; exact (noS hp).elim
    | succ n =>
      rw [f36_l1] at hp
      refine WJ.nx 202 hp rfl rfl rfl rfl rfl rfl it6 h06 rfl rfl (fun hp B3 abB3 neB3 it_new => ?_) (fun hp => ?_)
      · replace it6 := it_new
        obtain ⟨t12, e12, hp⟩ := bindS hp
        refine WJ.cl 216 (R := R_4 t12) (fun hm h k => R_4.mono hm h k) rfl (fun ids H' fr => f48_ok e12) ?_
        rintro v B4 ⟨abB4, ivB4⟩ rfl
        refine ⟨_, rfl, ?_⟩
        replace it6 := ivB4 _ _ it6
        cases t12
        · replace hp := (itS hp).2 Bool.false_ne_true
          refine WJ.ci 203 hp rfl rfl rfl rfl rfl rfl rfl rfl rfl (fun hc16 hp => ?_) (fun hc16 hp => ?_)
          · subst hK4
            obtain rfl := endS (show some _ = some r from hp)
            exact WJ.rt 219 rfl rfl rfl (fun ids H' fr => ⟨fr.ext0, rfl⟩)
          · refine WJ.cn 202 hp rfl rfl rfl rfl rfl rfl rfl rfl rfl (fun hc19 hp => ?_) (fun hc19 hp => ?_)
            · refine WJ.ci 202 hp rfl rfl rfl rfl rfl rfl rfl rfl rfl (fun hc22 hp => ?_) (fun hc22 hp => ?_)
              · subst hK4
                obtain rfl := endS (show some _ = some r from hp)
                exact WJ.rt 213 rfl rfl rfl (fun ids H' fr => ⟨fr.ext0, rfl⟩)
              · refine WJ.ci 202 hp rfl rfl rfl rfl rfl rfl rfl rfl rfl (fun hc25 hp => ?_) (fun hc25 hp => ?_)
                · subst hK4
                  obtain rfl := endS (show some _ = some r from hp)
                  exact WJ.rt 210 rfl rfl rfl (fun ids H' fr => ⟨fr.ext0, rfl⟩)
                · exact WJ.ag 208 rfl (by exact ⟨rfl, rfl, trivial⟩) rfl rfl rfl (ih4 (n, (p0 + decN x0 p0), B4) ⟨hp, it6⟩ (Nat.lt_succ_self _))
            · exact WJ.ag 214 rfl (by exact ⟨rfl, rfl, trivial⟩) rfl rfl rfl (ih4 (n, (p0 + decN x0 p0), B4) ⟨hp, it6⟩ (Nat.lt_succ_self _))
        · replace hp := (itS hp).1 rfl
          exact WJ.ag 221 rfl (by exact ⟨rfl, rfl, trivial⟩) rfl rfl rfl (ih4 (n, (p0 + decN x0 p0), B4) ⟨hp, it6⟩ (Nat.lt_succ_self _))
      · exact WJ.goto 5 (j4 B2 hp) rfl rfl (by exact ⟨rfl, trivial⟩) rfl rfl rfl
/-! 69 internal/stringslite.HasPrefix -/
def f69 (x0 : List UInt8) (x1 : List UInt8) : Option Bool :=
  if (x0.length : Int) ≥ (x1.length : Int) then
    (sub x0 0 (x1.length : Int)).bind fun s14 =>
    (some (decide (s14 = x1))).bind fun t16 =>
    some t16
  else
    some false
set_option maxRecDepth 20000 in
theorem f69_ok {H : Hp} {x0 : List UInt8} {x1 : List UInt8} {r : Bool} (hp : f69 x0 x1 = some r) :
    SCall Tryd.prog 69 [.string (bs x0), .string (bs x1)] H (Ret fun v H' => Ext H H' ∧ R_4 r H.next H' v) := by
  unfold f69 at hp
  replace hp := topS hp
  refine SCall.g Tryd.func69 rfl rfl rfl rfl rfl (l := [(0, .v (.string (bs x0))), (1, .v (.string (bs x1)))]) (fun _ => rfl) (fun B abB => ?_)
  refine WJ.ci 210 hp rfl rfl rfl rfl rfl rfl rfl rfl rfl (fun hc9 hp => ?_) (fun hc9 hp => ?_)
  · obtain ⟨s14, e14, hp⟩ := bindS hp
    refine WJ.hd (v := .string (bs s14)) 204 rfl rfl rfl rfl (fun ids H' fr => opD_sh rfl (evV_eq _ _ _ _ _ rfl) (evV_eq _ _ _ _ _ rfl) (sliceD_h us9 e14)) rfl ?_
    obtain ⟨t16, e16, hp⟩ := bindS hp
    refine WJ.cv 201 (b := t16) (H0 := ⟨.nil, 0, 0⟩) rfl rfl rfl rfl rfl rfl (by rw [← endS e16]; exact (opD_streq rfl rfl rfl)) rfl ?_
    obtain rfl := endS (show some _ = some r from hp)
    exact WJ.rt 203 rfl rfl rfl (fun ids H' fr => ⟨fr.ext0, rfl⟩)
  · obtain rfl := endS (show some _ = some r from hp)
    exact WJ.rt 210 rfl rfl rfl (fun ids H' fr => ⟨fr.ext0, rfl⟩)
/-! 58 internal/stringslite.TrimPrefix -/
def f58 (x0 : List UInt8) (x1 : List UInt8) : Option (List UInt8) :=
  (f69 x0 x1).bind fun t7 =>
  if t7 then
    (sub x0 (x1.length : Int) (x0.length : Int)).bind fun s11 =>
    some s11
  else
    some x0
set_option maxRecDepth 20000 in
theorem f58_ok {H : Hp} {x0 : List UInt8} {x1 : List UInt8} {r : List UInt8} (hp : f58 x0 x1 = some r) :
    SCall Tryd.prog 58 [.string (bs x0), .string (bs x1)] H (Ret fun v H' => Ext H H' ∧ R_9 r H.next H' v) := by
  unfold f58 at hp
  replace hp := topS hp
  refine SCall.g Tryd.func58 rfl rfl rfl rfl rfl (l := [(0, .v (.string (bs x0))), (1, .v (.string (bs x1)))]) (fun _ => rfl) (fun B abB => ?_)
  obtain ⟨t7, e7, hp⟩ := bindS hp
  refine WJ.cl 209 (R := R_4 t7) (fun hm h k => R_4.mono hm h k) rfl (fun ids H' fr => f69_ok e7) ?_
  rintro v B1 ⟨abB1, ivB1⟩ rfl
  refine ⟨_, rfl, ?_⟩
  cases t7
  · replace hp := (itS hp).2 Bool.false_ne_true
    obtain rfl := endS (show some _ = some r from hp)
    exact WJ.rt 208 rfl rfl rfl (fun ids H' fr => ⟨fr.ext0, rfl⟩)
  · replace hp := (itS hp).1 rfl
    obtain ⟨s11, e11, hp⟩ := bindS hp
    refine WJ.hd (v := .string (bs s11)) 207 rfl rfl rfl rfl (fun ids H' fr => opD_sl rfl (evV_eq _ _ _ _ _ rfl) (evV_eq _ _ _ _ _ rfl) (sliceD_l us9 e11)) rfl ?_
    obtain rfl := endS (show some _ = some r from hp)
    exact WJ.rt 202 rfl rfl rfl (fun ids H' fr => ⟨fr.ext0, rfl⟩)
/-! 49 strings.TrimPrefix -/
def f49 (x0 : List UInt8) (x1 : List UInt8) : Option (List UInt8) :=
  (f58 x0 x1).bind fun t7 =>
  some t7
set_option maxRecDepth 20000 in
theorem f49_ok {H : Hp} {x0 : List UInt8} {x1 : List UInt8} {r : List UInt8} (hp : f49 x0 x1 = some r) :
    SCall Tryd.prog 49 [.string (bs x0), .string (bs x1)] H (Ret fun v H' => Ext H H' ∧ R_9 r H.next H' v) := by
  unfold f49 at hp
  replace hp := topS hp
  refine SCall.g Tryd.func49 rfl rfl rfl rfl rfl (l := [(0, .v (.string (bs x0))), (1, .v (.string (bs x1)))]) (fun _ => rfl) (fun B abB => ?_)
  obtain ⟨t7, e7, hp⟩ := bindS hp
  refine WJ.cl 208 (R := R_9 t7) (fun hm h k => R_9.mono hm h k) rfl (fun ids H' fr => f58_ok e7) ?_
  rintro v B1 ⟨abB1, ivB1⟩ rfl
  refine ⟨_, rfl, ?_⟩
  obtain rfl := endS (show some _ = some r from hp)
  exact WJ.rt 202 rfl rfl rfl (fun ids H' fr => ⟨fr.ext0, rfl⟩)
/-! 37 tipstaff/row.number -/
def f37 (x0 : List UInt8) : Option (Int × Bool) :=
  (f49 x0 ([45] : List UInt8)).bind fun t7 =>
  (if t7 = ([] : List UInt8) then
    some (Sum.inl ((0, false) : Int × Bool))
  else
    if (t7.length : Int) > 13 then
      some (Sum.inl ((0, false) : Int × Bool))
    else
      (f50 t7 ([48, 49, 50, 51, 52, 53, 54, 55, 56, 57] : List UInt8)).bind fun t17 =>
      if t17 = ([] : List UInt8) then
        (rd t7 0).bind fun b22 =>
        if ((b22.toNat : Nat) : Int) = 48 then
          if x0 = ([48] : List UInt8) then
            some (Sum.inr ())
          else
            some (Sum.inl ((0, false) : Int × Bool))
        else
          some (Sum.inr ())
      else
        some (Sum.inl ((0, false) : Int × Bool))).bind fun s => match s with
    | .inl st => some st
    | .inr _ => 
      (f51 x0).bind fun (t31_0, t31_1) =>
      if t31_1 then
        if t31_0 ≥ (-1099511627776) then
          (some (decide (t31_0 ≤ 1099511627776))).bind fun t43 =>
          some (t31_0, t43)
        else
          some (t31_0, false)
      else
        some (t31_0, false)
set_option maxRecDepth 20000 in
theorem f37_ok {H : Hp} {x0 : List UInt8} {r : Int × Bool} (hp : f37 x0 = some r) :
    SCall Tryd.prog 37 [.string (bs x0)] H (Ret fun v H' => Ext H H' ∧ R_3_4 r H.next H' v) := by
  unfold f37 at hp
  replace hp := topS hp
  refine SCall.g Tryd.func37 rfl rfl rfl rfl rfl (l := [(0, .v (.string (bs x0)))]) (fun _ => rfl) (fun B abB => ?_)
  obtain ⟨t7, e7, hp⟩ := bindS hp
  refine WJ.cl 208 (R := R_9 t7) (fun hm h k => R_9.mono hm h k) rfl (fun ids H' fr => f49_ok e7) ?_
  rintro v B1 ⟨abB1, ivB1⟩ rfl
  refine ⟨_, rfl, ?_⟩
  refine WJ.adv 4 rfl ?_
  obtain ⟨K5, hK5, hp⟩ : ∃ K, K = _ ∧ Option.bind _ K = some r := ⟨_, rfl, cutS hp⟩
  refine WJ.cut 2 (α := Hp) (fun y => [(0, .v (.string (bs x0)))]) (fun y => []) (fun y => []) (fun y => y) (fun y => K5 ((Sum.inr ())) = some r) ?_ (fun j5 => ?_)
  · rintro B3 hp
    subst hK5
    show WJ _ _ _ B3 [] _ _ ⟨[(0, .v (.string (bs x0)))], [], true, 0⟩
    obtain ⟨⟨t31_0, t31_1⟩, e31, hp⟩ := bindS hp
    refine WJ.cl 203 (R := R_3_58 ⟨t31_0, t31_1⟩) (fun hm h k => R_3_58.mono hm h k) rfl (fun ids H' fr => f51_ok e31) ?_
    rintro v B4 ⟨abB4, ivB4⟩ ⟨y31, rfl, hy31⟩
    refine ⟨_, rfl, ?_⟩
    cases t31_1
    · replace hp := (itS hp).2 Bool.false_ne_true
      obtain ⟨ty31, z31, rfl⟩ : ∃ t z, y31 = .iface t z := hy31
      refine WJ.cv 210 (b := false) (H0 := ⟨.nil, 0, 0⟩) rfl rfl rfl rfl rfl rfl (opD_ifE rfl rfl rfl ui58) rfl ?_
      obtain rfl := endS (show some _ = some r from hp)
      exact WJ.rt 211 rfl rfl rfl (fun ids H' fr => ⟨fr.ext0, rfl⟩)
    · replace hp := (itS hp).1 rfl
      obtain rfl : y31 = .nilIface := hy31
      refine WJ.cv 210 (b := true) (H0 := ⟨.nil, 0, 0⟩) rfl rfl rfl rfl rfl rfl (opD_nnE rfl rfl rfl ui58) rfl ?_
      refine WJ.ci 202 hp rfl rfl rfl rfl rfl rfl rfl rfl rfl (fun hc39 hp => ?_) (fun hc39 hp => ?_)
      · obtain ⟨t43, e43, hp⟩ := bindS hp
        refine WJ.cv 203 (b := t43) (H0 := ⟨.nil, 0, 0⟩) rfl rfl rfl rfl rfl rfl (by rw [← endS e43]; exact rfl) rfl ?_
        obtain rfl := endS (show some _ = some r from hp)
        exact WJ.rt 204 rfl rfl rfl (fun ids H' fr => ⟨fr.ext0, rfl⟩)
      · obtain rfl := endS (show some _ = some r from hp)
        exact WJ.rt 208 rfl rfl rfl (fun ids H' fr => ⟨fr.ext0, rfl⟩)
  · refine WJ.ci 202 hp rfl rfl rfl rfl rfl rfl (opD_streq rfl rfl rfl) rfl rfl (fun hc9 hp => ?_) (fun hc9 hp => ?_)
    · subst hK5
      obtain rfl := endS (show some _ = some r from hp)
      exact WJ.rt 226 rfl rfl rfl (fun ids H' fr => ⟨fr.ext0, rfl⟩)
    · refine WJ.ci 203 hp rfl rfl rfl rfl rfl rfl rfl rfl rfl (fun hc13 hp => ?_) (fun hc13 hp => ?_)
      · subst hK5
        obtain rfl := endS (show some _ = some r from hp)
        exact WJ.rt 222 rfl rfl rfl (fun ids H' fr => ⟨fr.ext0, rfl⟩)
      · obtain ⟨t17, e17, hp⟩ := bindS hp
        refine WJ.cl 203 (R := R_9 t17) (fun hm h k => R_9.mono hm h k) rfl (fun ids H' fr => f50_ok e17) ?_
        rintro v B2 ⟨abB2, ivB2⟩ rfl
        refine ⟨_, rfl, ?_⟩
        refine WJ.cn 200 hp rfl rfl rfl rfl rfl rfl (opD_strne rfl rfl rfl) rfl rfl (fun hc18 hp => ?_) (fun hc18 hp => ?_)
        · subst hK5
          obtain rfl := endS (show some _ = some r from hp)
          exact WJ.rt 217 rfl rfl rfl (fun ids H' fr => ⟨fr.ext0, rfl⟩)
        · obtain ⟨b22, e22, hp⟩ := bindS hp
          refine WJ.hd (v := .int .u8 ((b22.toNat : Nat) : Int)) 203 rfl rfl rfl rfl (fun ids H' fr => opD_index rfl (evV_eq _ _ _ _ _ rfl) (evV_eq _ _ _ _ _ rfl) (sidx us9 e22)) rfl ?_
          refine WJ.ci 200 hp rfl rfl rfl rfl rfl rfl rfl rfl rfl (fun hc23 hp => ?_) (fun hc23 hp => ?_)
          · refine WJ.cn 202 hp rfl rfl rfl rfl rfl rfl (opD_strne rfl rfl rfl) rfl rfl (fun hc26 hp => ?_) (fun hc26 hp => ?_)
            · subst hK5
              obtain rfl := endS (show some _ = some r from hp)
              exact WJ.rt 209 rfl rfl rfl (fun ids H' fr => ⟨fr.ext0, rfl⟩)
            · exact WJ.goto 5 (j5 B2 hp) rfl rfl (by exact ⟨rfl, trivial⟩) rfl rfl rfl
          · exact WJ.goto 8 (j5 B2 hp) rfl rfl (by exact ⟨rfl, trivial⟩) rfl rfl rfl
/-! 6 tipstaff/tipstaffkit.Mod -/
def f6 (x0 : Int) (x1 : Int) : Option Int :=
  if x1 < 1 then
    some 0
  else
    if x1 ≠ 0 then
      (if (x0.tmod x1) < 0 then
        some ((IntKind.i64.wrap ((x0.tmod x1) + x1)))
      else
        some ((x0.tmod x1))).bind fun x0_6 =>
        some x0_6
    else none
set_option maxRecDepth 20000 in
theorem f6_ok {H : Hp} {x0 : Int} {x1 : Int} {r : Int} (hp : f6 x0 x1 = some r) :
    SCall Tryd.prog 6 [.int .i64 x0, .int .i64 x1] H (Ret fun v H' => Ext H H' ∧ R_3 r H.next H' v) := by
  unfold f6 at hp
  replace hp := topS hp
  refine SCall.g Tryd.func6 rfl rfl rfl rfl rfl (l := [(0, .v (.int .i64 x0)), (1, .v (.int .i64 x1))]) (fun _ => rfl) (fun B abB => ?_)
  refine WJ.ci 208 hp rfl rfl rfl rfl rfl rfl rfl rfl rfl (fun hc6 hp => ?_) (fun hc6 hp => ?_)
  · obtain rfl := endS (show some _ = some r from hp)
    exact WJ.rt 206 rfl rfl rfl (fun ids H' fr => ⟨fr.ext0, rfl⟩)
  · obtain ⟨nz9, hp⟩ := ifS hp
    refine WJ.hd (v := .int .i64 (x0.tmod x1)) 207 rfl rfl rfl rfl (fun ids H' fr => opD_bin rfl (evV_eq _ _ _ _ _ rfl) (evV_eq _ _ _ _ _ rfl) (bin_rem nz9)) rfl ?_
    refine WJ.adv 4 rfl ?_
    obtain ⟨K6, hK6, hp⟩ : ∃ K, K = _ ∧ Option.bind _ K = some r := ⟨_, rfl, cutS hp⟩
    refine WJ.cut 2 (α := Int) (fun y => [(0, .v (.int .i64 y))]) (fun y => []) (fun y => []) (fun y => B) (fun y => K6 ((y)) = some r) ?_ (fun j6 => ?_)
    · rintro x0_6 hp
      subst hK6
      show WJ _ _ _ B [] _ _ ⟨[(0, .v (.int .i64 x0_6))], [], true, 0⟩
      obtain rfl := endS (show some _ = some r from hp)
      exact WJ.rt 205 rfl rfl rfl (fun ids H' fr => ⟨fr.ext0, rfl⟩)
    · refine WJ.ci 202 hp rfl rfl rfl rfl rfl rfl rfl rfl rfl (fun hc11 hp => ?_) (fun hc11 hp => ?_)
      · exact WJ.goto 8 (j6 (IntKind.i64.wrap ((x0.tmod x1) + x1)) hp) rfl rfl (by exact ⟨rfl, trivial⟩) rfl rfl rfl
      · exact WJ.goto 3 (j6 (x0.tmod x1) hp) rfl rfl (by exact ⟨rfl, trivial⟩) rfl rfl rfl
/-! 7 tipstaff/row.Rows -/
def f7_l2 (k : Nat) : Nat → (List RowWord) → Int → (List UInt8) → Option (((List RowWord) × Int × (List UInt8)) ⊕ (Int × (List UInt8) × (List RowWord) × Int × Int))
  | 0, _, _, _ => none
  | n + 1, l4_h89, v1_0_h89, v1_1_h89 =>
    if v1_1_h89 = ([] : List UInt8) then
      some (Sum.inl (l4_h89, v1_0_h89, v1_1_h89))
    else
      (rd v1_1_h89 0).bind fun b17u33 =>
      (f25 ((b17u33.toNat : Nat) : Int)).bind fun t18u33 =>
      if t18u33 then
        (sub v1_1_h89 1 (v1_1_h89.length : Int)).bind fun s17u41 =>
        f7_l2 k n l4_h89 (IntKind.i64.wrap (v1_0_h89 + 1)) s17u41
      else
        (rd v1_1_h89 0).bind fun b26u17 =>
        if ((b26u17.toNat : Nat) : Int) = 35 then
          some (Sum.inl (l4_h89, v1_0_h89, v1_1_h89))
        else
          ((rd v1_1_h89 0).bind fun b17u38 =>
          if ((b17u38.toNat : Nat) : Int) = 34 then
            (f16 k v1_1_h89).bind fun (t24u20_0, t24u20_1) =>
            (if t24u20_1 = 0 then
              some (Sum.inl ((v1_0_h89, v1_1_h89, v1_0_h89, 0, ([] : List UInt8), 0, false) : Int × (List UInt8) × Int × Int × (List UInt8) × Int × Bool))
            else
              if t24u20_1 < (v1_1_h89.length : Int) then
                (rd v1_1_h89 t24u20_1).bind fun b43u16 =>
                (f25 ((b43u16.toNat : Nat) : Int)).bind fun t44u16 =>
                if t44u16 then
                  some (Sum.inr ())
                else
                  some (Sum.inl ((v1_0_h89, v1_1_h89, v1_0_h89, 0, ([] : List UInt8), 0, false) : Int × (List UInt8) × Int × Int × (List UInt8) × Int × Bool))
              else
                some (Sum.inr ())).bind fun s => match s with
              | .inl st => some (st)
              | .inr _ => 
                (sub v1_1_h89 t24u20_1 (v1_1_h89.length : Int)).bind fun s17u39 =>
                some (((IntKind.i64.wrap (v1_0_h89 + t24u20_1), s17u39, v1_0_h89, 3, t24u20_0, 0, true) : Int × (List UInt8) × Int × Int × (List UInt8) × Int × Bool))
          else
            (f35 v1_1_h89 ([32, 9] : List UInt8)).bind fun t60u4 =>
            (if t60u4 < 0 then
              some ((v1_1_h89.length : Int))
            else
              some (t60u4)).bind fun x6_96 =>
              (sub v1_1_h89 0 x6_96).bind fun s73u4 =>
              (sub v1_1_h89 x6_96 (v1_1_h89.length : Int)).bind fun s17u40 =>
              (f36 k s73u4).bind fun t78u4 =>
              if t78u4 then
                some (((IntKind.i64.wrap (v1_0_h89 + x6_96), s17u40, v1_0_h89, 1, s73u4, 0, true) : Int × (List UInt8) × Int × Int × (List UInt8) × Int × Bool))
              else
                (f37 s73u4).bind fun (t86u4_0, t86u4_1) =>
                some (((IntKind.i64.wrap (v1_0_h89 + x6_96), s17u40, v1_0_h89, 2, ([] : List UInt8), t86u4_0, t86u4_1) : Int × (List UInt8) × Int × Int × (List UInt8) × Int × Bool))).bind fun (v1_0_94, v1_1_94, x34_94_0_0, x34_94_0_1, x34_94_0_2, x34_94_0_3, x34_94_1) =>
            if x34_94_1 then
              (apd 40 l4_h89 ([(RowWord.mk x34_94_0_0 x34_94_0_1 x34_94_0_2 x34_94_0_3)])).bind fun l44u17 =>
              f7_l2 k n l44u17 v1_0_94 v1_1_94
            else
              some (Sum.inr ((v1_0_94, v1_1_94, [], 3, v1_0_h89) : Int × (List UInt8) × (List RowWord) × Int × Int))

def f7_l1 (k : Nat) (t16 : List (List UInt8)) : Nat → (List Row) → Int → Int → Option (((List Row)) ⊕ ((List Row) × Fault))
  | 0, _, _, _ => none
  | n + 1, l1_h53, x5_h53, x18_h53 =>
    (some (decide (x18_h53 < (t16.length : Int)))).bind fun t19 =>
    if t19 then
      (rd t16 x18_h53).bind fun t20 =>
      if (t20.length : Int) > 1000 then
        some (Sum.inr (([], (Fault.mk 4 x5_h53)) : (List Row) × Fault))
      else
        ((f7_l2 k k ([]) x5_h53 t20).bind fun s => match s with
          | .inl (l4_89, v1_0_89, v1_1_89) => 
            some (((v1_0_89, v1_1_89, l4_89, 0, 0) : Int × (List UInt8) × (List RowWord) × Int × Int))
          | .inr st => some (st)).bind fun (v1_0_72, v1_1_72, x33_72_0, x33_72_1_0, x33_72_1_1) =>
          if x33_72_1_0 = 0 then
            (if (x33_72_0.length : Int) > 0 then
              (apd 32 l1_h53 ([(Row.mk x5_h53 x33_72_0)] : List Row)).bind fun l48u30 =>
              some (l48u30)
            else
              some (l1_h53)).bind fun l1_97 =>
              f7_l1 k t16 n l1_97 (IntKind.i64.wrap (x5_h53 + (IntKind.i64.wrap ((t20.length : Int) + 1)))) (IntKind.i64.wrap (x18_h53 + 1))
          else
            some (Sum.inr (([], (Fault.mk x33_72_1_0 x33_72_1_1)) : (List Row) × Fault))
    else
      some (Sum.inl l1_h53)

def f7 (k : Nat) (x0 : List UInt8) : Option ((List Row) × Fault) :=
  if (x0.length : Int) > 20000 then
    some ([], (Fault.mk 4 20000))
  else
    (f14 x0 ([10] : List UInt8)).bind fun t16 =>
    (f7_l1 k t16 k ([]) 0 0).bind fun s => match s with
      | .inl l1_53 => 
        some (l1_53, (Fault.mk 0 0))
      | .inr st => some st
set_option maxHeartbeats 3200000 in
set_option maxRecDepth 20000 in
theorem f7_ok {k : Nat} {H : Hp} {x0 : List UInt8} {r : (List Row) × Fault} (hp : f7 k x0 = some r) :
    SCall Tryd.prog 7 [.string (bs x0)] H (Ret fun v H' => Ext H H' ∧ R_25_28 r H.next H' v) := by
  unfold f7 at hp
  replace hp := topS hp
  refine SCall.g Tryd.func7 rfl rfl rfl rfl rfl (l := [(0, .v (.string (bs x0)))]) (fun _ => rfl) (fun B abB => ?_)
  refine WJ.adv 4 rfl ?_
  refine WJ.liftS (loc := []) rfl rfl (fun bv0 => ?_)
  refine WJ.ci 206 hp rfl rfl rfl rfl rfl rfl rfl rfl rfl (fun hc13 hp => ?_) (fun hc13 hp => ?_)
  · refine WJ.sb 206 (j := 0) rfl rfl rfl rfl rfl rfl rfl rfl rfl rfl ?_
    obtain rfl := endS (show some _ = some r from hp)
    exact WJ.rto 201 rfl (.tmp rfl (.cell 0 rfl rfl rfl .nil)) rfl (fun ids H' fr => ⟨fr.ext0, ⟨_, _, rfl, SlF.nil⟩⟩)
  · obtain ⟨t16, e16, hp⟩ := bindS hp
    refine WJ.cl 215 (R := R_24 t16) (fun hm h k => R_24.mono hm h k) rfl (fun ids H' fr => f14_ok e16) ?_
    rintro v B1 ⟨abB1, ivB1⟩ ⟨a_t16, c_t16, rfl, g_t16⟩
    refine ⟨_, rfl, ?_⟩
    refine WJ.adv 4 rfl ?_
    refine WJ.nw 2 ?_
    have rn1 : RepL RowC H.next B1 [] ([] : List Row) := rfl
    obtain ⟨K53, hK53, hp⟩ : ∃ K, K = _ ∧ Option.bind _ K = some r := ⟨_, rfl, cutS hp⟩
    refine WJ.cut 2 (α := (List Row) × (Option Addr) × Nat × (List Value) × Hp) (fun y => [(3, .v (.pointer (some ⟨bv0, 0, none⟩))), (4, .v (.slice y.2.1 y.1.length y.2.2.1))]) (fun y => []) (fun y => [⟨some ⟨bv0, 0, none⟩, 2, 1, [.int .i64 0, .int .i64 0]⟩, ⟨y.2.1, y.2.2.1, 2, y.2.2.2.1⟩]) (fun y => y.2.2.2.2) (fun y => K53 (Sum.inl y.1) = some r ∧ SlF H.next y.2.2.2.2 strC a_t16 c_t16 t16 ∧ RepL RowC H.next y.2.2.2.2 [] ([] : List Row) ∧ RepL RowC H.next y.2.2.2.2 y.2.2.2.1 y.1) ?_ (fun j53 => ?_)
    · rintro ⟨l1_53, a1_53, c1_53, cs1_53, B17⟩ ⟨hp, g_t16, rn1, r1_53⟩
      subst hK53
      show WJ _ _ _ B17 [⟨some ⟨bv0, 0, none⟩, 2, 1, [.int .i64 0, .int .i64 0]⟩, ⟨a1_53, c1_53, 2, cs1_53⟩] _ _ ⟨[(3, .v (.pointer (some ⟨bv0, 0, none⟩))), (4, .v (.slice a1_53 l1_53.length c1_53))], [], true, 0⟩
      refine WJ.sb 205 (j := 0) rfl rfl rfl rfl rfl rfl rfl rfl rfl rfl ?_
      obtain rfl := endS (show some _ = some r from hp)
      exact WJ.rto 201 rfl (.tmp rfl (.cell 0 rfl rfl rfl .nil)) rfl (fun ids H' fr => ⟨fr.ext0, ⟨_, _, rfl, (fr.slN (j := 1) rfl rfl rfl r1_53 (Nat.le_refl _))⟩⟩)
    · refine WJ.lp 200 (α := Nat × (List Row) × Int × Int × (Option Addr) × Nat × (List Value) × Hp) (fun y => [(3, .v (.pointer (some ⟨bv0, 0, none⟩))), (4, .v (.slice y.2.2.2.2.1 y.2.1.length y.2.2.2.2.2.1)), (5, .v (.int .i64 y.2.2.1)), (16, .v (.slice a_t16 t16.length c_t16)), (17, .v (.int .i64 ((t16.length : Nat) : Int))), (18, .v (.int .i64 y.2.2.2.1))]) (fun y => []) (fun y => [⟨some ⟨bv0, 0, none⟩, 2, 1, [.int .i64 0, .int .i64 0]⟩, ⟨y.2.2.2.2.1, y.2.2.2.2.2.1, 2, y.2.2.2.2.2.2.1⟩]) (fun y => y.2.2.2.2.2.2.2) (fun y => y.1) (fun y => Option.bind (f7_l1 k t16 y.1 y.2.1 y.2.2.1 y.2.2.2.1) K53 = some r ∧ SlF H.next y.2.2.2.2.2.2.2 strC a_t16 c_t16 t16 ∧ RepL RowC H.next y.2.2.2.2.2.2.2 [] ([] : List Row) ∧ RepL RowC H.next y.2.2.2.2.2.2.2 y.2.2.2.2.2.2.1 y.2.1) (k, ([] : List Row), 0, 0, none, 0, [], B1) rfl ⟨hp, g_t16, rn1, rn1⟩ (by exact ⟨rfl, rfl, rfl, rfl, rfl, rfl, trivial⟩) rfl rfl rfl ?_
      rintro ⟨n, l1_h53, x5_h53, x18_h53, a1_h53, c1_h53, cs1_h53, B2⟩ ⟨hp, g_t16, rn1, r1_h53⟩ ih53
      show WJ _ _ _ B2 [⟨some ⟨bv0, 0, none⟩, 2, 1, [.int .i64 0, .int .i64 0]⟩, ⟨a1_h53, c1_h53, 2, cs1_h53⟩] _ _ ⟨[(3, .v (.pointer (some ⟨bv0, 0, none⟩))), (4, .v (.slice a1_h53 l1_h53.length c1_h53)), (5, .v (.int .i64 x5_h53)), (16, .v (.slice a_t16 t16.length c_t16)), (17, .v (.int .i64 ((t16.length : Nat) : Int))), (18, .v (.int .i64 x18_h53))], [], true, 0⟩
      replace hp : Option.bind (f7_l1 k t16 n l1_h53 x5_h53 x18_h53) K53 = some r := hp
      cases n with
      | zero => rw [f7_l1] at hp; exact (noS hp).elim
      | succ n =>
        rw [f7_l1] at hp
        obtain ⟨t19, e19, hp⟩ := bindS hp
        refine WJ.cv 202 (b := t19) (H0 := ⟨.nil, 0, 0⟩) rfl rfl rfl rfl rfl rfl (by rw [← endS e19]; exact rfl) rfl ?_
        cases t19
        · replace hp := (itS hp).2 Bool.false_ne_true
          exact WJ.goto 4 (j53 (l1_h53, a1_h53, c1_h53, cs1_h53, B2) ⟨hp, g_t16, rn1, r1_h53⟩) rfl rfl (by exact ⟨rfl, rfl, trivial⟩) rfl rfl rfl
        · replace hp := (itS hp).1 rfl
          obtain ⟨t20, e20, hp⟩ := bindS hp
          obtain ⟨b20, o20, cs20, i20, rfl, p20⟩ := g_t16.at e20 u24 sz9
          refine WJ.hd (v := .pointer (some ⟨b20, o20, none⟩)) 208 rfl rfl rfl rfl (fun ids H' fr => opD_indexAddr rfl (evV_eq _ _ _ _ _ rfl) (evV_eq _ _ _ _ _ rfl) (i20 _)) rfl ?_
          refine WJ.hd (v := .string (bs t20)) 200 rfl rfl rfl rfl (fun ids H' fr => opD_load rfl (evV_eq _ _ _ _ _ rfl) ((p20.mono (Nat.zero_le _) (fr.abv.le (Nat.zero_le _))).load (d := 0) ag9 rfl)) rfl ?_
          refine WJ.ci 207 hp rfl rfl rfl rfl rfl rfl rfl rfl rfl (fun hc24 hp => ?_) (fun hc24 hp => ?_)
          · refine WJ.sb 207 (j := 0) rfl rfl rfl rfl rfl rfl rfl rfl rfl rfl ?_
            subst hK53
            obtain rfl := endS (show some _ = some r from hp)
            exact WJ.rto 201 rfl (.tmp rfl (.cell 0 rfl rfl rfl .nil)) rfl (fun ids H' fr => ⟨fr.ext0, ⟨_, _, rfl, SlF.nil⟩⟩)
          · refine WJ.adv 9 rfl ?_
            refine WJ.liftS (loc := []) rfl rfl (fun bv1 => ?_)
            obtain ⟨K72, hK72, hp⟩ : ∃ K, K = _ ∧ Option.bind _ K = some r := ⟨_, rfl, cutS hp⟩
            refine WJ.inlC 205 (α := Int × (List UInt8) × (List RowWord) × Int × Int × (Option Addr) × Nat × Hp) (fun y => [(3, .v (.pointer (some ⟨bv0, 0, none⟩))), (4, .v (.slice a1_h53 l1_h53.length c1_h53)), (5, .v (.int .i64 x5_h53)), (7, .v (.string (bs t20))), (16, .v (.slice a_t16 t16.length c_t16)), (17, .v (.int .i64 ((t16.length : Nat) : Int))), (18, .v (.int .i64 x18_h53)), (33, .v (.tuple ⟨[.slice y.2.2.2.2.2.1 y.2.2.1.length y.2.2.2.2.2.2.1, .agg ⟨[.int .i64 y.2.2.2.1, .int .i64 y.2.2.2.2.1]⟩]⟩))]) (fun y => [⟨some ⟨bv0, 0, none⟩, 2, 1, [.int .i64 0, .int .i64 0]⟩, ⟨a1_h53, c1_h53, 2, cs1_h53⟩, ⟨some ⟨bv1, 0, none⟩, 2, 1, [.int .i64 y.1, .string (bs y.2.1)]⟩]) (fun y => y.2.2.2.2.2.2.2) (fun y => K72 (((y.1, y.2.1, y.2.2.1, y.2.2.2.1, y.2.2.2.2.1))) = some r ∧ SlF H.next y.2.2.2.2.2.2.2 strC a_t16 c_t16 t16 ∧ RepL RowC H.next y.2.2.2.2.2.2.2 [] ([] : List Row) ∧ RepL RowC H.next y.2.2.2.2.2.2.2 cs1_h53 l1_h53 ∧ SlF H.next y.2.2.2.2.2.2.2 RowWordC y.2.2.2.2.2.1 y.2.2.2.2.2.2.1 y.2.2.1) rfl rfl Tryd.func15 rfl rfl rfl rfl rfl (lc := [(0, .v (.pointer (some ⟨bv1, 0, none⟩)))]) (fun _ => rfl) ?_ (fun j72 => ?_)
            · rintro ⟨v1_0_72, v1_1_72, x33_72_0, x33_72_1_0, x33_72_1_1, a_x33_72_0, c_x33_72_0, B15⟩ ⟨hp, g_t16, rn1, r1_h53, g_x33_72_0⟩
              subst hK72
              show WJ _ _ _ B15 [⟨some ⟨bv0, 0, none⟩, 2, 1, [.int .i64 0, .int .i64 0]⟩, ⟨a1_h53, c1_h53, 2, cs1_h53⟩, ⟨some ⟨bv1, 0, none⟩, 2, 1, [.int .i64 v1_0_72, .string (bs v1_1_72)]⟩] _ _ ⟨[(3, .v (.pointer (some ⟨bv0, 0, none⟩))), (4, .v (.slice a1_h53 l1_h53.length c1_h53)), (5, .v (.int .i64 x5_h53)), (7, .v (.string (bs t20))), (16, .v (.slice a_t16 t16.length c_t16)), (17, .v (.int .i64 ((t16.length : Nat) : Int))), (18, .v (.int .i64 x18_h53)), (33, .v (.tuple ⟨[.slice a_x33_72_0 x33_72_0.length c_x33_72_0, .agg ⟨[.int .i64 x33_72_1_0, .int .i64 x33_72_1_1]⟩]⟩))], [], true, 0⟩
              refine WJ.adv 4 rfl ?_
              refine WJ.liftS (loc := []) rfl rfl (fun bv2u3 => ?_)
              refine WJ.sb 201 (j := 3) rfl rfl rfl rfl rfl rfl rfl rfl rfl rfl ?_
              refine WJ.hd (v := .int .i64 x33_72_1_0) 205 rfl rfl rfl rfl (fun ids H' fr => opD_load rfl (evV_eq _ _ _ _ _ rfl) (fr.ldOwn (j := 3) rfl rfl)) rfl ?_
              refine WJ.cn 200 hp rfl rfl rfl rfl rfl rfl rfl rfl rfl (fun hc38u28 hp => ?_) (fun hc38u28 hp => ?_)
              · refine WJ.dr 203 rfl gmix (by kernel_rfl) (by kernel_rfl) rfl ?_
                refine WD.hd (v := .agg ⟨[.int .i64 x33_72_1_0, .int .i64 x33_72_1_1]⟩) rfl rfl rfl rfl (fun _ _ _ _ _ => side_no) (fun ids H' fr => opD_load rfl (evV_eq _ _ _ _ _ rfl) (fr.ldOwn (j := 3) rfl rfl)) rfl ?_
                refine WD.sb (j := 0) rfl rfl rfl rfl rfl rfl rfl rfl rfl rfl ?_
                refine WD.done rfl ?_
                subst hK53
                obtain rfl := endS (show some _ = some r from hp)
                exact WJ.rto 200 rfl (.tmp rfl (.cell 0 rfl rfl rfl .nil)) rfl (fun ids H' fr => ⟨fr.ext0, ⟨_, _, rfl, SlF.nil⟩⟩)
              · refine WJ.adv 5 rfl ?_
                obtain ⟨K97, hK97, hp⟩ : ∃ K, K = _ ∧ Option.bind _ K = some r := ⟨_, rfl, cutS hp⟩
                refine WJ.cut 2 (α := (List Row) × (Option Addr) × Nat × (List Value) × Hp) (fun y => [(3, .v (.pointer (some ⟨bv0, 0, none⟩))), (4, .v (.slice y.2.1 y.1.length y.2.2.1)), (5, .v (.int .i64 x5_h53)), (7, .v (.string (bs t20))), (16, .v (.slice a_t16 t16.length c_t16)), (17, .v (.int .i64 ((t16.length : Nat) : Int))), (18, .v (.int .i64 x18_h53))]) (fun y => []) (fun y => [⟨some ⟨bv0, 0, none⟩, 2, 1, [.int .i64 0, .int .i64 0]⟩, ⟨y.2.1, y.2.2.1, 2, y.2.2.2.1⟩, ⟨some ⟨bv1, 0, none⟩, 2, 1, [.int .i64 v1_0_72, .string (bs v1_1_72)]⟩, ⟨some ⟨bv2u3, 0, none⟩, 2, 1, [.int .i64 x33_72_1_0, .int .i64 x33_72_1_1]⟩]) (fun y => y.2.2.2.2) (fun y => K97 ((y.1)) = some r ∧ SlF H.next y.2.2.2.2 strC a_t16 c_t16 t16 ∧ RepL RowC H.next y.2.2.2.2 [] ([] : List Row) ∧ RepL RowC H.next y.2.2.2.2 cs1_h53 l1_h53 ∧ SlF H.next y.2.2.2.2 RowWordC a_x33_72_0 c_x33_72_0 x33_72_0 ∧ RepL RowC H.next y.2.2.2.2 y.2.2.2.1 y.1) ?_ (fun j97 => ?_)
                · rintro ⟨l1_97, a1_97, c1_97, cs1_97, B16⟩ ⟨hp, g_t16, rn1, r1_h53, g_x33_72_0, r1_97⟩
                  subst hK97
                  show WJ _ _ _ B16 [⟨some ⟨bv0, 0, none⟩, 2, 1, [.int .i64 0, .int .i64 0]⟩, ⟨a1_97, c1_97, 2, cs1_97⟩, ⟨some ⟨bv1, 0, none⟩, 2, 1, [.int .i64 v1_0_72, .string (bs v1_1_72)]⟩, ⟨some ⟨bv2u3, 0, none⟩, 2, 1, [.int .i64 x33_72_1_0, .int .i64 x33_72_1_1]⟩] _ _ ⟨[(3, .v (.pointer (some ⟨bv0, 0, none⟩))), (4, .v (.slice a1_97 l1_97.length c1_97)), (5, .v (.int .i64 x5_h53)), (7, .v (.string (bs t20))), (16, .v (.slice a_t16 t16.length c_t16)), (17, .v (.int .i64 ((t16.length : Nat) : Int))), (18, .v (.int .i64 x18_h53))], [], true, 0⟩
                  exact WJ.ag 213 rfl (by exact ⟨rfl, rfl, rfl, rfl, rfl, rfl, trivial⟩) rfl rfl rfl (ih53 (n, l1_97, IntKind.i64.wrap (x5_h53 + (IntKind.i64.wrap (((t20.length : Nat) : Int) + 1))), IntKind.i64.wrap (x18_h53 + 1), a1_97, c1_97, cs1_97, B16) ⟨hp, g_t16, rn1, r1_97⟩ (Nat.lt_succ_self _))
                · refine WJ.ci 203 hp rfl rfl rfl rfl rfl rfl rfl rfl rfl (fun hc42u18 hp => ?_) (fun hc42u18 hp => ?_)
                  · refine WJ.bs (cs := [.int .i64 x5_h53, .slice a_x33_72_0 x33_72_0.length c_x33_72_0]) (sz := 2) (pl := [(0, .agg ⟨[.int .i64 x5_h53, .slice a_x33_72_0 x33_72_0.length c_x33_72_0]⟩)]) 207 rfl rfl rfl rfl rfl (fun _ _ => rfl) (fun _ => by rfl) rfl rfl ?_
                    intro b47u60
                    refine ⟨_, rfl, ?_⟩
                    obtain ⟨l48u30, e48u30, hp⟩ := bindS hp
                    obtain ⟨bd48u30, rfl⟩ := apd_some e48u30
                    refine WJ.apN (cs := cs1_h53) (new := [.int .i64 x5_h53, .slice a_x33_72_0 x33_72_0.length c_x33_72_0]) (L := l1_h53) (L2 := ([(Row.mk x5_h53 x33_72_0)] : List Row)) 200 1 rfl rfl rfl rfl rfl rfl rfl rfl r1_h53.len (el25 rfl) rfl rfl (fun ids H' fr => fr.srcBox (j := 4) rfl rfl (by decide)) rfl rfl bd48u30 ?_
                    intro a48u30 c48u30
                    refine ⟨_, rfl, ?_⟩
                    have rp48u30 : RepL RowC H.next B15 (cs1_h53 ++ [.int .i64 x5_h53, .slice a_x33_72_0 x33_72_0.length c_x33_72_0]) (l1_h53 ++ ([(Row.mk x5_h53 x33_72_0)] : List Row)) := r1_h53.append ⟨[.int .i64 x5_h53, .slice a_x33_72_0 x33_72_0.length c_x33_72_0], [], rfl, ⟨_, _, rfl, g_x33_72_0⟩, rfl⟩
                    refine WJ.pop [⟨some ⟨bv0, 0, none⟩, 2, 1, [.int .i64 0, .int .i64 0]⟩, ⟨a48u30, c48u30, 2, (cs1_h53 ++ [.int .i64 x5_h53, .slice a_x33_72_0 x33_72_0.length c_x33_72_0])⟩, ⟨some ⟨bv1, 0, none⟩, 2, 1, [.int .i64 v1_0_72, .string (bs v1_1_72)]⟩, ⟨some ⟨bv2u3, 0, none⟩, 2, 1, [.int .i64 x33_72_1_0, .int .i64 x33_72_1_1]⟩] rfl ?_
                    exact WJ.goto 2 (j97 ((l1_h53 ++ ([(Row.mk x5_h53 x33_72_0)] : List Row)), a48u30, c48u30, (cs1_h53 ++ [.int .i64 x5_h53, .slice a_x33_72_0 x33_72_0.length c_x33_72_0]), B15) ⟨hp, g_t16, rn1, r1_h53, g_x33_72_0, rp48u30⟩) rfl rfl (by exact ⟨rfl, rfl, rfl, rfl, rfl, rfl, rfl, trivial⟩) rfl rfl rfl
                  · exact WJ.goto 3 (j97 (l1_h53, a1_h53, c1_h53, cs1_h53, B15) ⟨hp, g_t16, rn1, r1_h53, g_x33_72_0, r1_h53⟩) rfl rfl (by exact ⟨rfl, rfl, rfl, rfl, rfl, rfl, rfl, trivial⟩) rfl rfl rfl
            · refine WJ.adv 4 rfl ?_
              refine WJ.liftS (loc := []) rfl rfl (fun bv2u2 => ?_)
              refine WJ.adv 6 rfl ?_
              refine WJ.nw 4 ?_
              obtain ⟨K89, hK89, hp⟩ : ∃ K, K = _ ∧ Option.bind _ K = some r := ⟨_, rfl, cutS hp⟩
              refine WJ.cut 2 (α := (List RowWord) × Int × (List UInt8) × (Option Addr) × Nat × Hp) (fun y => [(2, .v (.slice y.2.2.2.1 y.1.length y.2.2.2.2.1)), (3, .v (.pointer (some ⟨bv2u2, 0, none⟩)))]) (fun y => []) (fun y => [⟨some ⟨bv0, 0, none⟩, 2, 1, [.int .i64 0, .int .i64 0]⟩, ⟨a1_h53, c1_h53, 2, cs1_h53⟩, ⟨some ⟨bv1, 0, none⟩, 2, 1, [.int .i64 y.2.1, .string (bs y.2.2.1)]⟩, ⟨some ⟨bv2u2, 0, none⟩, 2, 1, [.int .i64 0, .int .i64 0]⟩, ⟨y.2.2.2.1, y.2.2.2.2.1, 4, encL RowWord.cs y.1⟩]) (fun y => y.2.2.2.2.2) (fun y => K89 (Sum.inl (y.1, y.2.1, y.2.2.1)) = some r ∧ SlF H.next y.2.2.2.2.2 strC a_t16 c_t16 t16 ∧ RepL RowC H.next y.2.2.2.2.2 [] ([] : List Row) ∧ RepL RowC H.next y.2.2.2.2.2 cs1_h53 l1_h53) ?_ (fun j89 => ?_)
              · rintro ⟨l4_89, v1_0_89, v1_1_89, a4_89, c4_89, B13⟩ ⟨hp, g_t16, rn1, r1_h53⟩
                subst hK89
                show WJ _ _ _ B13 [⟨some ⟨bv0, 0, none⟩, 2, 1, [.int .i64 0, .int .i64 0]⟩, ⟨a1_h53, c1_h53, 2, cs1_h53⟩, ⟨some ⟨bv1, 0, none⟩, 2, 1, [.int .i64 v1_0_89, .string (bs v1_1_89)]⟩, ⟨some ⟨bv2u2, 0, none⟩, 2, 1, [.int .i64 0, .int .i64 0]⟩, ⟨a4_89, c4_89, 4, encL RowWord.cs l4_89⟩] _ _ ⟨[(2, .v (.slice a4_89 l4_89.length c4_89)), (3, .v (.pointer (some ⟨bv2u2, 0, none⟩)))], [], true, 0⟩
                refine WJ.dr 201 rfl gmix (by kernel_rfl) (by kernel_rfl) rfl ?_
                refine WD.hd (v := .agg ⟨[.int .i64 0, .int .i64 0]⟩) rfl rfl rfl rfl (fun _ _ _ _ _ => side_no) (fun ids H' fr => opD_load rfl (evV_eq _ _ _ _ _ rfl) (fr.ldOwn (j := 3) rfl rfl)) rfl ?_
                refine WD.sb (j := 3) rfl rfl rfl rfl rfl rfl rfl rfl rfl rfl ?_
                refine WD.done rfl ?_
                refine WJ.inlRo 200 rfl (.tmp rfl (.cell 3 rfl rfl rfl .nil)) rfl rfl ?_
                refine WJ.fz (c := RowWordC) (j := 4) rfl rfl rfl (repL_flat.2 rfl) ?_
                rintro B14 ⟨abB14, ivB14⟩ gz4
                replace g_t16 := g_t16.mono (Nat.le_refl _) (abB14.le (Nat.zero_le _))
                replace rn1 := rn1.mono (Nat.le_refl _) (abB14.le (Nat.zero_le _))
                replace r1_h53 := r1_h53.mono (Nat.le_refl _) (abB14.le (Nat.zero_le _))
                exact WJ.gotoO (j72 (v1_0_89, v1_1_89, l4_89, 0, 0, a4_89, c4_89, B14) ⟨hp, g_t16, rn1, r1_h53, gz4⟩) (by exact ⟨rfl, rfl, rfl, rfl, rfl, rfl, rfl, rfl, trivial⟩) rfl rfl
              · refine WJ.lp 200 (α := Nat × (List RowWord) × Int × (List UInt8) × (Option Addr) × Nat × Hp) (fun y => [(0, .v (.pointer (some ⟨bv1, 0, none⟩))), (2, .v (.slice y.2.2.2.2.1 y.2.1.length y.2.2.2.2.2.1)), (3, .v (.pointer (some ⟨bv2u2, 0, none⟩)))]) (fun y => []) (fun y => [⟨some ⟨bv0, 0, none⟩, 2, 1, [.int .i64 0, .int .i64 0]⟩, ⟨a1_h53, c1_h53, 2, cs1_h53⟩, ⟨some ⟨bv1, 0, none⟩, 2, 1, [.int .i64 y.2.2.1, .string (bs y.2.2.2.1)]⟩, ⟨some ⟨bv2u2, 0, none⟩, 2, 1, [.int .i64 0, .int .i64 0]⟩, ⟨y.2.2.2.2.1, y.2.2.2.2.2.1, 4, encL RowWord.cs y.2.1⟩]) (fun y => y.2.2.2.2.2.2) (fun y => y.1) (fun y => Option.bind (f7_l2 k y.1 y.2.1 y.2.2.1 y.2.2.2.1) K89 = some r ∧ SlF H.next y.2.2.2.2.2.2 strC a_t16 c_t16 t16 ∧ RepL RowC H.next y.2.2.2.2.2.2 [] ([] : List Row) ∧ RepL RowC H.next y.2.2.2.2.2.2 cs1_h53 l1_h53) (k, ([] : List RowWord), x5_h53, t20, none, 0, B2) rfl ⟨hp, g_t16, rn1, r1_h53⟩ (by exact ⟨rfl, rfl, rfl, trivial⟩) rfl rfl rfl ?_
                rintro ⟨n89, l4_h89, v1_0_h89, v1_1_h89, a4_h89, c4_h89, B3⟩ ⟨hp, g_t16, rn1, r1_h53⟩ ih89
                show WJ _ _ _ B3 [⟨some ⟨bv0, 0, none⟩, 2, 1, [.int .i64 0, .int .i64 0]⟩, ⟨a1_h53, c1_h53, 2, cs1_h53⟩, ⟨some ⟨bv1, 0, none⟩, 2, 1, [.int .i64 v1_0_h89, .string (bs v1_1_h89)]⟩, ⟨some ⟨bv2u2, 0, none⟩, 2, 1, [.int .i64 0, .int .i64 0]⟩, ⟨a4_h89, c4_h89, 4, encL RowWord.cs l4_h89⟩] _ _ ⟨[(0, .v (.pointer (some ⟨bv1, 0, none⟩))), (2, .v (.slice a4_h89 l4_h89.length c4_h89)), (3, .v (.pointer (some ⟨bv2u2, 0, none⟩)))], [], true, 0⟩
                replace hp : Option.bind (f7_l2 k n89 l4_h89 v1_0_h89 v1_1_h89) K89 = some r := hp
                cases n89 with
                | zero => rw [f7_l2] at hp; exact (noS hp).elim
                | succ n89 =>
                  rw [f7_l2] at hp
                  refine WJ.hd (v := .string (bs v1_1_h89)) 206 rfl rfl rfl rfl (fun ids H' fr => opD_load rfl (evV_eq _ _ _ _ _ rfl) (fr.ldOwn (j := 2) rfl rfl)) rfl ?_
                  refine WJ.cn 200 hp rfl rfl rfl rfl rfl rfl (opD_strne rfl rfl rfl) rfl rfl (fun hc11u33 hp => ?_) (fun hc11u33 hp => ?_)
                  · refine WJ.hd (v := .string (bs v1_1_h89)) 211 rfl rfl rfl rfl (fun ids H' fr => opD_load rfl (evV_eq _ _ _ _ _ rfl) (fr.ldOwn (j := 2) rfl rfl)) rfl ?_
                    obtain ⟨b17u33, e17u33, hp⟩ := bindS hp
                    refine WJ.hd (v := .int .u8 ((b17u33.toNat : Nat) : Int)) 200 rfl rfl rfl rfl (fun ids H' fr => opD_index rfl (evV_eq _ _ _ _ _ rfl) (evV_eq _ _ _ _ _ rfl) (sidx us9 e17u33)) rfl ?_
                    obtain ⟨t18u33, e18u33, hp⟩ := bindS hp
                    refine WJ.cl 200 (R := R_4 t18u33) (fun hm h k => R_4.mono hm h k) rfl (fun ids H' fr => f25_ok e18u33) ?_
                    rintro v B4 ⟨abB4, ivB4⟩ rfl
                    refine ⟨_, rfl, ?_⟩
                    replace g_t16 := g_t16.mono (Nat.le_refl _) (abB4.le (Nat.zero_le _))
                    replace rn1 := rn1.mono (Nat.le_refl _) (abB4.le (Nat.zero_le _))
                    replace r1_h53 := r1_h53.mono (Nat.le_refl _) (abB4.le (Nat.zero_le _))
                    cases t18u33
                    · replace hp := (itS hp).2 Bool.false_ne_true
                      refine WJ.hd (v := .string (bs v1_1_h89)) 208 rfl rfl rfl rfl (fun ids H' fr => opD_load rfl (evV_eq _ _ _ _ _ rfl) (fr.ldOwn (j := 2) rfl rfl)) rfl ?_
                      obtain ⟨b26u17, e26u17, hp⟩ := bindS hp
                      refine WJ.hd (v := .int .u8 ((b26u17.toNat : Nat) : Int)) 200 rfl rfl rfl rfl (fun ids H' fr => opD_index rfl (evV_eq _ _ _ _ _ rfl) (evV_eq _ _ _ _ _ rfl) (sidx us9 e26u17)) rfl ?_
                      refine WJ.ci 200 hp rfl rfl rfl rfl rfl rfl rfl rfl rfl (fun hc27u17 hp => ?_) (fun hc27u17 hp => ?_)
                      · exact WJ.goto 4 (j89 (l4_h89, v1_0_h89, v1_1_h89, a4_h89, c4_h89, B4) ⟨hp, g_t16, rn1, r1_h53⟩) rfl rfl (by exact ⟨rfl, rfl, trivial⟩) rfl rfl rfl
                      · refine WJ.hd (v := .int .i64 v1_0_h89) 210 rfl rfl rfl rfl (fun ids H' fr => opD_load rfl (evV_eq _ _ _ _ _ rfl) (fr.ldOwn (j := 2) rfl rfl)) rfl ?_
                        obtain ⟨K94, hK94, hp⟩ : ∃ K, K = _ ∧ Option.bind _ K = some r := ⟨_, rfl, cutS hp⟩
                        refine WJ.inlC 205 (α := Int × (List UInt8) × Int × Int × (List UInt8) × Int × Bool × Hp) (fun y => [(0, .v (.pointer (some ⟨bv1, 0, none⟩))), (2, .v (.slice a4_h89 l4_h89.length c4_h89)), (3, .v (.pointer (some ⟨bv2u2, 0, none⟩))), (4, .v (.int .i64 v1_0_h89)), (34, .v (.tuple ⟨[.agg ⟨[.int .i64 y.2.2.1, .int .i64 y.2.2.2.1, .string (bs y.2.2.2.2.1), .int .i64 y.2.2.2.2.2.1]⟩, .bool y.2.2.2.2.2.2.1]⟩))]) (fun y => [⟨some ⟨bv0, 0, none⟩, 2, 1, [.int .i64 0, .int .i64 0]⟩, ⟨a1_h53, c1_h53, 2, cs1_h53⟩, ⟨some ⟨bv1, 0, none⟩, 2, 1, [.int .i64 y.1, .string (bs y.2.1)]⟩, ⟨some ⟨bv2u2, 0, none⟩, 2, 1, [.int .i64 0, .int .i64 0]⟩, ⟨a4_h89, c4_h89, 4, encL RowWord.cs l4_h89⟩]) (fun y => y.2.2.2.2.2.2.2) (fun y => K94 (((y.1, y.2.1, y.2.2.1, y.2.2.2.1, y.2.2.2.2.1, y.2.2.2.2.2.1, y.2.2.2.2.2.2.1))) = some r ∧ SlF H.next y.2.2.2.2.2.2.2 strC a_t16 c_t16 t16 ∧ RepL RowC H.next y.2.2.2.2.2.2.2 [] ([] : List Row) ∧ RepL RowC H.next y.2.2.2.2.2.2.2 cs1_h53 l1_h53) rfl rfl Tryd.func27 rfl rfl rfl rfl rfl (lc := [(0, .v (.pointer (some ⟨bv1, 0, none⟩)))]) (fun _ => rfl) ?_ (fun j94 => ?_)
                        · rintro ⟨v1_0_94, v1_1_94, x34_94_0_0, x34_94_0_1, x34_94_0_2, x34_94_0_3, x34_94_1, B12⟩ ⟨hp, g_t16, rn1, r1_h53⟩
                          subst hK94
                          show WJ _ _ _ B12 [⟨some ⟨bv0, 0, none⟩, 2, 1, [.int .i64 0, .int .i64 0]⟩, ⟨a1_h53, c1_h53, 2, cs1_h53⟩, ⟨some ⟨bv1, 0, none⟩, 2, 1, [.int .i64 v1_0_94, .string (bs v1_1_94)]⟩, ⟨some ⟨bv2u2, 0, none⟩, 2, 1, [.int .i64 0, .int .i64 0]⟩, ⟨a4_h89, c4_h89, 4, encL RowWord.cs l4_h89⟩] _ _ ⟨[(0, .v (.pointer (some ⟨bv1, 0, none⟩))), (2, .v (.slice a4_h89 l4_h89.length c4_h89)), (3, .v (.pointer (some ⟨bv2u2, 0, none⟩))), (4, .v (.int .i64 v1_0_h89)), (34, .v (.tuple ⟨[.agg ⟨[.int .i64 x34_94_0_0, .int .i64 x34_94_0_1, .string (bs x34_94_0_2), .int .i64 x34_94_0_3]⟩, .bool x34_94_1]⟩))], [], true, 0⟩
                          refine WJ.adv 4 rfl ?_
                          refine WJ.liftS (loc := []) rfl rfl (fun bv3u19 => ?_)
                          refine WJ.sb 200 (j := 5) rfl rfl rfl rfl rfl rfl rfl rfl rfl rfl ?_
                          cases x34_94_1
                          · replace hp := (itS hp).2 Bool.false_ne_true
                            refine WJ.sb 214 (j := 3) rfl rfl rfl rfl rfl rfl rfl rfl rfl rfl ?_
                            refine WJ.inlRo 201 rfl (.tmp rfl (.cell 3 rfl rfl rfl .nil)) rfl rfl ?_
                            subst hK89
                            exact WJ.gotoO (j72 (v1_0_94, v1_1_94, ([] : List RowWord), 3, v1_0_h89, none, 0, B12) ⟨hp, g_t16, rn1, r1_h53, SlF.nil⟩) (by exact ⟨rfl, rfl, rfl, rfl, rfl, rfl, rfl, rfl, trivial⟩) rfl rfl
                          · replace hp := (itS hp).1 rfl
                            refine WJ.hd (v := .agg ⟨[.int .i64 x34_94_0_0, .int .i64 x34_94_0_1, .string (bs x34_94_0_2), .int .i64 x34_94_0_3]⟩) 212 rfl rfl rfl rfl (fun ids H' fr => opD_load rfl (evV_eq _ _ _ _ _ rfl) (fr.ldOwn (j := 5) rfl rfl)) rfl ?_
                            refine WJ.bs (cs := encL RowWord.cs [(RowWord.mk x34_94_0_0 x34_94_0_1 x34_94_0_2 x34_94_0_3)]) (sz := 4) (pl := [(0, .agg ⟨[.int .i64 x34_94_0_0, .int .i64 x34_94_0_1, .string (bs x34_94_0_2), .int .i64 x34_94_0_3]⟩)]) 200 rfl rfl rfl rfl rfl (fun _ _ => rfl) (fun _ => by rfl) rfl rfl ?_
                            intro b43u17
                            refine ⟨_, rfl, ?_⟩
                            obtain ⟨l44u17, e44u17, hp⟩ := bindS hp
                            obtain ⟨bd44u17, rfl⟩ := apd_some e44u17
                            refine WJ.ap (L := l4_h89) (L2 := [(RowWord.mk x34_94_0_0 x34_94_0_1 x34_94_0_2 x34_94_0_3)]) 200 4 rfl rfl rfl rfl rfl rfl rfl rfl (el46 rfl) rfl (fun _ => rfl) (fun _ => rfl) rfl (fun ids H' fr => fr.srcOwn (enc := RowWord.cs) (sz := 4) (j := 6) (fun _ => rfl) (by decide) rfl) bd44u17 ?_
                            intro a44u17 c44u17
                            refine ⟨_, rfl, ?_⟩
                            refine WJ.pop [⟨some ⟨bv0, 0, none⟩, 2, 1, [.int .i64 0, .int .i64 0]⟩, ⟨a1_h53, c1_h53, 2, cs1_h53⟩, ⟨some ⟨bv1, 0, none⟩, 2, 1, [.int .i64 v1_0_94, .string (bs v1_1_94)]⟩, ⟨some ⟨bv2u2, 0, none⟩, 2, 1, [.int .i64 0, .int .i64 0]⟩, ⟨a44u17, c44u17, 4, encL RowWord.cs (l4_h89 ++ ([(RowWord.mk x34_94_0_0 x34_94_0_1 x34_94_0_2 x34_94_0_3)]))⟩, ⟨some ⟨bv3u19, 0, none⟩, 4, 1, [.int .i64 x34_94_0_0, .int .i64 x34_94_0_1, .string (bs x34_94_0_2), .int .i64 x34_94_0_3]⟩] rfl ?_
                            exact WJ.ag 203 rfl (by exact ⟨rfl, rfl, rfl, trivial⟩) rfl rfl rfl (ih89 (n89, (l4_h89 ++ ([(RowWord.mk x34_94_0_0 x34_94_0_1 x34_94_0_2 x34_94_0_3)])), v1_0_94, v1_1_94, a44u17, c44u17, B12) ⟨hp, g_t16, rn1, r1_h53⟩ (Nat.lt_succ_self _))
                        · refine WJ.adv 3 rfl ?_
                          refine WJ.liftS (loc := []) rfl rfl (fun bv3u18 => ?_)
                          refine WJ.hd (v := .int .i64 v1_0_h89) 207 rfl rfl rfl rfl (fun ids H' fr => opD_load rfl (evV_eq _ _ _ _ _ rfl) (fr.ldOwn (j := 2) rfl rfl)) rfl ?_
                          refine WJ.sb 201 (j := 5) rfl rfl rfl rfl rfl rfl rfl rfl rfl rfl ?_
                          refine WJ.hd (v := .string (bs v1_1_h89)) 207 rfl rfl rfl rfl (fun ids H' fr => opD_load rfl (evV_eq _ _ _ _ _ rfl) (fr.ldOwn (j := 2) rfl rfl)) rfl ?_
                          obtain ⟨b17u38, e17u38, hp⟩ := bindS hp
                          refine WJ.hd (v := .int .u8 ((b17u38.toNat : Nat) : Int)) 200 rfl rfl rfl rfl (fun ids H' fr => opD_index rfl (evV_eq _ _ _ _ _ rfl) (evV_eq _ _ _ _ _ rfl) (sidx us9 e17u38)) rfl ?_
                          refine WJ.ci 200 hp rfl rfl rfl rfl rfl rfl rfl rfl rfl (fun hc18u38 hp => ?_) (fun hc18u38 hp => ?_)
                          · refine WJ.hd (v := .string (bs v1_1_h89)) 207 rfl rfl rfl rfl (fun ids H' fr => opD_load rfl (evV_eq _ _ _ _ _ rfl) (fr.ldOwn (j := 2) rfl rfl)) rfl ?_
                            obtain ⟨⟨t24u20_0, t24u20_1⟩, e24u20, hp⟩ := bindS hp
                            refine WJ.cl 200 (R := R_9_3 ⟨t24u20_0, t24u20_1⟩) (fun hm h k => R_9_3.mono hm h k) rfl (fun ids H' fr => f16_ok e24u20) ?_
                            rintro v B5 ⟨abB5, ivB5⟩ rfl
                            refine ⟨_, rfl, ?_⟩
                            replace g_t16 := g_t16.mono (Nat.le_refl _) (abB5.le (Nat.zero_le _))
                            replace rn1 := rn1.mono (Nat.le_refl _) (abB5.le (Nat.zero_le _))
                            replace r1_h53 := r1_h53.mono (Nat.le_refl _) (abB5.le (Nat.zero_le _))
                            refine WJ.adv 8 rfl ?_
                            obtain ⟨K95, hK95, hp⟩ : ∃ K, K = _ ∧ Option.bind _ K = some r := ⟨_, rfl, cutS hp⟩
                            refine WJ.cut 2 (α := Hp) (fun y => [(0, .v (.pointer (some ⟨bv1, 0, none⟩))), (2, .v (.pointer (some ⟨bv3u18, 0, none⟩))), (4, .v (.string (bs t24u20_0))), (5, .v (.int .i64 t24u20_1))]) (fun y => []) (fun y => [⟨some ⟨bv0, 0, none⟩, 2, 1, [.int .i64 0, .int .i64 0]⟩, ⟨a1_h53, c1_h53, 2, cs1_h53⟩, ⟨some ⟨bv1, 0, none⟩, 2, 1, [.int .i64 v1_0_h89, .string (bs v1_1_h89)]⟩, ⟨some ⟨bv2u2, 0, none⟩, 2, 1, [.int .i64 0, .int .i64 0]⟩, ⟨a4_h89, c4_h89, 4, encL RowWord.cs l4_h89⟩, ⟨some ⟨bv3u18, 0, none⟩, 4, 1, [.int .i64 v1_0_h89, .int .i64 0, .string (bs ([] : List UInt8)), .int .i64 0]⟩]) (fun y => y) (fun y => K95 ((Sum.inr ())) = some r ∧ SlF H.next y strC a_t16 c_t16 t16 ∧ RepL RowC H.next y [] ([] : List Row) ∧ RepL RowC H.next y cs1_h53 l1_h53) ?_ (fun j95 => ?_)
                            · rintro B7 ⟨hp, g_t16, rn1, r1_h53⟩
                              subst hK95
                              show WJ _ _ _ B7 [⟨some ⟨bv0, 0, none⟩, 2, 1, [.int .i64 0, .int .i64 0]⟩, ⟨a1_h53, c1_h53, 2, cs1_h53⟩, ⟨some ⟨bv1, 0, none⟩, 2, 1, [.int .i64 v1_0_h89, .string (bs v1_1_h89)]⟩, ⟨some ⟨bv2u2, 0, none⟩, 2, 1, [.int .i64 0, .int .i64 0]⟩, ⟨a4_h89, c4_h89, 4, encL RowWord.cs l4_h89⟩, ⟨some ⟨bv3u18, 0, none⟩, 4, 1, [.int .i64 v1_0_h89, .int .i64 0, .string (bs ([] : List UInt8)), .int .i64 0]⟩] _ _ ⟨[(0, .v (.pointer (some ⟨bv1, 0, none⟩))), (2, .v (.pointer (some ⟨bv3u18, 0, none⟩))), (4, .v (.string (bs t24u20_0))), (5, .v (.int .i64 t24u20_1))], [], true, 0⟩
                              refine WJ.sb 204 (j := 5) rfl rfl rfl rfl rfl rfl rfl rfl rfl rfl ?_
                              refine WJ.sb 201 (j := 5) rfl rfl rfl rfl rfl rfl rfl rfl rfl rfl ?_
                              refine WJ.inl 205 rfl rfl Tryd.func26 rfl rfl rfl rfl rfl (lc := [(0, .v (.pointer (some ⟨bv1, 0, none⟩))), (1, .v (.int .i64 t24u20_1))]) (fun _ => rfl) ?_
                              refine WJ.dr 200 rfl gmix (by kernel_rfl) (by kernel_rfl) rfl ?_
                              refine WD.hd (v := .int .i64 v1_0_h89) rfl rfl rfl rfl (fun _ _ _ _ _ => side_no) (fun ids H' fr => opD_load rfl (evV_eq _ _ _ _ _ rfl) (fr.ldOwn (j := 2) rfl rfl)) rfl ?_
                              refine WD.hd (v := .string (bs v1_1_h89)) rfl rfl rfl rfl (fun _ _ _ _ _ => side_no) (fun ids H' fr => opD_load rfl (evV_eq _ _ _ _ _ rfl) (fr.ldOwn (j := 2) rfl rfl)) rfl ?_
                              obtain ⟨s17u39, e17u39, hp⟩ := bindS hp
                              refine WD.hd (v := .string (bs s17u39)) rfl rfl rfl rfl (fun _ _ _ _ _ => side_no) (fun ids H' fr => opD_sl rfl (evV_eq _ _ _ _ _ rfl) (evV_eq _ _ _ _ _ rfl) (sliceD_l us9 e17u39)) rfl ?_
                              refine WD.sb (j := 2) rfl rfl rfl rfl rfl rfl rfl rfl rfl rfl ?_
                              refine WD.sb (j := 2) rfl rfl rfl rfl rfl rfl rfl rfl rfl rfl ?_
                              refine WD.done rfl ?_
                              refine WJ.inlN 200 rfl rfl rfl rfl ?_
                              refine WJ.hd (v := .agg ⟨[.int .i64 v1_0_h89, .int .i64 3, .string (bs t24u20_0), .int .i64 0]⟩) 203 rfl rfl rfl rfl (fun ids H' fr => opD_load rfl (evV_eq _ _ _ _ _ rfl) (fr.ldOwn (j := 5) rfl rfl)) rfl ?_
                              refine WJ.sb 200 (j := 5) rfl rfl rfl rfl rfl rfl rfl rfl rfl rfl ?_
                              refine WJ.inlRo 202 rfl (.cell 5 rfl rfl rfl (.tmp rfl .nil)) rfl rfl ?_
                              exact WJ.gotoO (j94 (IntKind.i64.wrap (v1_0_h89 + t24u20_1), s17u39, v1_0_h89, 3, t24u20_0, 0, true, B7) ⟨hp, g_t16, rn1, r1_h53⟩) (by exact ⟨rfl, rfl, rfl, rfl, rfl, trivial⟩) rfl rfl
                            · refine WJ.ci 202 hp rfl rfl rfl rfl rfl rfl rfl rfl rfl (fun hc28u20 hp => ?_) (fun hc28u20 hp => ?_)
                              · refine WJ.hd (v := .agg ⟨[.int .i64 v1_0_h89, .int .i64 0, .string (bs ([] : List UInt8)), .int .i64 0]⟩) 223 rfl rfl rfl rfl (fun ids H' fr => opD_load rfl (evV_eq _ _ _ _ _ rfl) (fr.ldOwn (j := 5) rfl rfl)) rfl ?_
                                refine WJ.sb 200 (j := 5) rfl rfl rfl rfl rfl rfl rfl rfl rfl rfl ?_
                                refine WJ.inlRo 202 rfl (.cell 5 rfl rfl rfl (.tmp rfl .nil)) rfl rfl ?_
                                subst hK95
                                exact WJ.gotoO (j94 (v1_0_h89, v1_1_h89, v1_0_h89, 0, ([] : List UInt8), 0, false, B5) ⟨hp, g_t16, rn1, r1_h53⟩) (by exact ⟨rfl, rfl, rfl, rfl, rfl, trivial⟩) rfl rfl
                              · refine WJ.hd (v := .string (bs v1_1_h89)) 205 rfl rfl rfl rfl (fun ids H' fr => opD_load rfl (evV_eq _ _ _ _ _ rfl) (fr.ldOwn (j := 2) rfl rfl)) rfl ?_
                                refine WJ.ci 201 hp rfl rfl rfl rfl rfl rfl rfl rfl rfl (fun hc36u18 hp => ?_) (fun hc36u18 hp => ?_)
                                · refine WJ.hd (v := .string (bs v1_1_h89)) 204 rfl rfl rfl rfl (fun ids H' fr => opD_load rfl (evV_eq _ _ _ _ _ rfl) (fr.ldOwn (j := 2) rfl rfl)) rfl ?_
                                  obtain ⟨b43u16, e43u16, hp⟩ := bindS hp
                                  refine WJ.hd (v := .int .u8 ((b43u16.toNat : Nat) : Int)) 201 rfl rfl rfl rfl (fun ids H' fr => opD_index rfl (evV_eq _ _ _ _ _ rfl) (evV_eq _ _ _ _ _ rfl) (sidx us9 e43u16)) rfl ?_
                                  obtain ⟨t44u16, e44u16, hp⟩ := bindS hp
                                  refine WJ.cl 200 (R := R_4 t44u16) (fun hm h k => R_4.mono hm h k) rfl (fun ids H' fr => f25_ok e44u16) ?_
                                  rintro v B6 ⟨abB6, ivB6⟩ rfl
                                  refine ⟨_, rfl, ?_⟩
                                  replace g_t16 := g_t16.mono (Nat.le_refl _) (abB6.le (Nat.zero_le _))
                                  replace rn1 := rn1.mono (Nat.le_refl _) (abB6.le (Nat.zero_le _))
                                  replace r1_h53 := r1_h53.mono (Nat.le_refl _) (abB6.le (Nat.zero_le _))
                                  cases t44u16
                                  · replace hp := (itS hp).2 Bool.false_ne_true
                                    refine WJ.hd (v := .agg ⟨[.int .i64 v1_0_h89, .int .i64 0, .string (bs ([] : List UInt8)), .int .i64 0]⟩) 207 rfl rfl rfl rfl (fun ids H' fr => opD_load rfl (evV_eq _ _ _ _ _ rfl) (fr.ldOwn (j := 5) rfl rfl)) rfl ?_
                                    refine WJ.sb 200 (j := 5) rfl rfl rfl rfl rfl rfl rfl rfl rfl rfl ?_
                                    refine WJ.inlRo 202 rfl (.cell 5 rfl rfl rfl (.tmp rfl .nil)) rfl rfl ?_
                                    subst hK95
                                    exact WJ.gotoO (j94 (v1_0_h89, v1_1_h89, v1_0_h89, 0, ([] : List UInt8), 0, false, B6) ⟨hp, g_t16, rn1, r1_h53⟩) (by exact ⟨rfl, rfl, rfl, rfl, rfl, trivial⟩) rfl rfl
                                  · replace hp := (itS hp).1 rfl
                                    exact WJ.goto 6 (j95 B6 ⟨hp, g_t16, rn1, r1_h53⟩) rfl rfl (by exact ⟨rfl, rfl, rfl, rfl, trivial⟩) rfl rfl rfl
                                · exact WJ.goto 14 (j95 B5 ⟨hp, g_t16, rn1, r1_h53⟩) rfl rfl (by exact ⟨rfl, rfl, rfl, rfl, trivial⟩) rfl rfl rfl
                          · refine WJ.hd (v := .string (bs v1_1_h89)) 208 rfl rfl rfl rfl (fun ids H' fr => opD_load rfl (evV_eq _ _ _ _ _ rfl) (fr.ldOwn (j := 2) rfl rfl)) rfl ?_
                            obtain ⟨t60u4, e60u4, hp⟩ := bindS hp
                            refine WJ.cl 200 (R := R_3 t60u4) (fun hm h k => R_3.mono hm h k) rfl (fun ids H' fr => f35_ok e60u4) ?_
                            rintro v B8 ⟨abB8, ivB8⟩ rfl
                            refine ⟨_, rfl, ?_⟩
                            replace g_t16 := g_t16.mono (Nat.le_refl _) (abB8.le (Nat.zero_le _))
                            replace rn1 := rn1.mono (Nat.le_refl _) (abB8.le (Nat.zero_le _))
                            replace r1_h53 := r1_h53.mono (Nat.le_refl _) (abB8.le (Nat.zero_le _))
                            refine WJ.adv 4 rfl ?_
                            obtain ⟨K96, hK96, hp⟩ : ∃ K, K = _ ∧ Option.bind _ K = some r := ⟨_, rfl, cutS hp⟩
                            refine WJ.cut 2 (α := Int × Hp) (fun y => [(0, .v (.pointer (some ⟨bv1, 0, none⟩))), (2, .v (.pointer (some ⟨bv3u18, 0, none⟩))), (6, .v (.int .i64 y.1))]) (fun y => []) (fun y => [⟨some ⟨bv0, 0, none⟩, 2, 1, [.int .i64 0, .int .i64 0]⟩, ⟨a1_h53, c1_h53, 2, cs1_h53⟩, ⟨some ⟨bv1, 0, none⟩, 2, 1, [.int .i64 v1_0_h89, .string (bs v1_1_h89)]⟩, ⟨some ⟨bv2u2, 0, none⟩, 2, 1, [.int .i64 0, .int .i64 0]⟩, ⟨a4_h89, c4_h89, 4, encL RowWord.cs l4_h89⟩, ⟨some ⟨bv3u18, 0, none⟩, 4, 1, [.int .i64 v1_0_h89, .int .i64 0, .string (bs ([] : List UInt8)), .int .i64 0]⟩]) (fun y => y.2) (fun y => K96 ((y.1)) = some r ∧ SlF H.next y.2 strC a_t16 c_t16 t16 ∧ RepL RowC H.next y.2 [] ([] : List Row) ∧ RepL RowC H.next y.2 cs1_h53 l1_h53) ?_ (fun j96 => ?_)
                            · rintro ⟨x6_96, B9⟩ ⟨hp, g_t16, rn1, r1_h53⟩
                              subst hK96
                              show WJ _ _ _ B9 [⟨some ⟨bv0, 0, none⟩, 2, 1, [.int .i64 0, .int .i64 0]⟩, ⟨a1_h53, c1_h53, 2, cs1_h53⟩, ⟨some ⟨bv1, 0, none⟩, 2, 1, [.int .i64 v1_0_h89, .string (bs v1_1_h89)]⟩, ⟨some ⟨bv2u2, 0, none⟩, 2, 1, [.int .i64 0, .int .i64 0]⟩, ⟨a4_h89, c4_h89, 4, encL RowWord.cs l4_h89⟩, ⟨some ⟨bv3u18, 0, none⟩, 4, 1, [.int .i64 v1_0_h89, .int .i64 0, .string (bs ([] : List UInt8)), .int .i64 0]⟩] _ _ ⟨[(0, .v (.pointer (some ⟨bv1, 0, none⟩))), (2, .v (.pointer (some ⟨bv3u18, 0, none⟩))), (6, .v (.int .i64 x6_96))], [], true, 0⟩
                              refine WJ.hd (v := .string (bs v1_1_h89)) 205 rfl rfl rfl rfl (fun ids H' fr => opD_load rfl (evV_eq _ _ _ _ _ rfl) (fr.ldOwn (j := 2) rfl rfl)) rfl ?_
                              obtain ⟨s73u4, e73u4, hp⟩ := bindS hp
                              refine WJ.hd (v := .string (bs s73u4)) 201 rfl rfl rfl rfl (fun ids H' fr => opD_sh rfl (evV_eq _ _ _ _ _ rfl) (evV_eq _ _ _ _ _ rfl) (sliceD_h us9 e73u4)) rfl ?_
                              refine WJ.inl 206 rfl rfl Tryd.func26 rfl rfl rfl rfl rfl (lc := [(0, .v (.pointer (some ⟨bv1, 0, none⟩))), (1, .v (.int .i64 x6_96))]) (fun _ => rfl) ?_
                              refine WJ.dr 200 rfl gmix (by kernel_rfl) (by kernel_rfl) rfl ?_
                              refine WD.hd (v := .int .i64 v1_0_h89) rfl rfl rfl rfl (fun _ _ _ _ _ => side_no) (fun ids H' fr => opD_load rfl (evV_eq _ _ _ _ _ rfl) (fr.ldOwn (j := 2) rfl rfl)) rfl ?_
                              refine WD.hd (v := .string (bs v1_1_h89)) rfl rfl rfl rfl (fun _ _ _ _ _ => side_no) (fun ids H' fr => opD_load rfl (evV_eq _ _ _ _ _ rfl) (fr.ldOwn (j := 2) rfl rfl)) rfl ?_
                              obtain ⟨s17u40, e17u40, hp⟩ := bindS hp
                              refine WD.hd (v := .string (bs s17u40)) rfl rfl rfl rfl (fun _ _ _ _ _ => side_no) (fun ids H' fr => opD_sl rfl (evV_eq _ _ _ _ _ rfl) (evV_eq _ _ _ _ _ rfl) (sliceD_l us9 e17u40)) rfl ?_
                              refine WD.sb (j := 2) rfl rfl rfl rfl rfl rfl rfl rfl rfl rfl ?_
                              refine WD.sb (j := 2) rfl rfl rfl rfl rfl rfl rfl rfl rfl rfl ?_
                              refine WD.done rfl ?_
                              refine WJ.inlN 200 rfl rfl rfl rfl ?_
                              obtain ⟨t78u4, e78u4, hp⟩ := bindS hp
                              refine WJ.cl 205 (R := R_4 t78u4) (fun hm h k => R_4.mono hm h k) rfl (fun ids H' fr => f36_ok e78u4) ?_
                              rintro v B10 ⟨abB10, ivB10⟩ rfl
                              refine ⟨_, rfl, ?_⟩
                              replace g_t16 := g_t16.mono (Nat.le_refl _) (abB10.le (Nat.zero_le _))
                              replace rn1 := rn1.mono (Nat.le_refl _) (abB10.le (Nat.zero_le _))
                              replace r1_h53 := r1_h53.mono (Nat.le_refl _) (abB10.le (Nat.zero_le _))
                              cases t78u4
                              · replace hp := (itS hp).2 Bool.false_ne_true
                                refine WJ.sb 206 (j := 5) rfl rfl rfl rfl rfl rfl rfl rfl rfl rfl ?_
                                obtain ⟨⟨t86u4_0, t86u4_1⟩, e86u4, hp⟩ := bindS hp
                                refine WJ.cl 204 (R := R_3_4 ⟨t86u4_0, t86u4_1⟩) (fun hm h k => R_3_4.mono hm h k) rfl (fun ids H' fr => f37_ok e86u4) ?_
                                rintro v B11 ⟨abB11, ivB11⟩ rfl
                                refine ⟨_, rfl, ?_⟩
                                replace g_t16 := g_t16.mono (Nat.le_refl _) (abB11.le (Nat.zero_le _))
                                replace rn1 := rn1.mono (Nat.le_refl _) (abB11.le (Nat.zero_le _))
                                replace r1_h53 := r1_h53.mono (Nat.le_refl _) (abB11.le (Nat.zero_le _))
                                refine WJ.sb 204 (j := 5) rfl rfl rfl rfl rfl rfl rfl rfl rfl rfl ?_
                                refine WJ.hd (v := .agg ⟨[.int .i64 v1_0_h89, .int .i64 2, .string (bs ([] : List UInt8)), .int .i64 t86u4_0]⟩) 204 rfl rfl rfl rfl (fun ids H' fr => opD_load rfl (evV_eq _ _ _ _ _ rfl) (fr.ldOwn (j := 5) rfl rfl)) rfl ?_
                                refine WJ.sb 201 (j := 5) rfl rfl rfl rfl rfl rfl rfl rfl rfl rfl ?_
                                refine WJ.inlRo 202 rfl (.cell 5 rfl rfl rfl (.tmp rfl .nil)) rfl rfl ?_
                                exact WJ.gotoO (j94 (IntKind.i64.wrap (v1_0_h89 + x6_96), s17u40, v1_0_h89, 2, ([] : List UInt8), t86u4_0, t86u4_1, B11) ⟨hp, g_t16, rn1, r1_h53⟩) (by exact ⟨rfl, rfl, rfl, rfl, rfl, trivial⟩) rfl rfl
                              · replace hp := (itS hp).1 rfl
                                refine WJ.sb 206 (j := 5) rfl rfl rfl rfl rfl rfl rfl rfl rfl rfl ?_
                                refine WJ.sb 201 (j := 5) rfl rfl rfl rfl rfl rfl rfl rfl rfl rfl ?_
                                refine WJ.hd (v := .agg ⟨[.int .i64 v1_0_h89, .int .i64 1, .string (bs s73u4), .int .i64 0]⟩) 203 rfl rfl rfl rfl (fun ids H' fr => opD_load rfl (evV_eq _ _ _ _ _ rfl) (fr.ldOwn (j := 5) rfl rfl)) rfl ?_
                                refine WJ.sb 200 (j := 5) rfl rfl rfl rfl rfl rfl rfl rfl rfl rfl ?_
                                refine WJ.inlRo 202 rfl (.cell 5 rfl rfl rfl (.tmp rfl .nil)) rfl rfl ?_
                                exact WJ.gotoO (j94 (IntKind.i64.wrap (v1_0_h89 + x6_96), s17u40, v1_0_h89, 1, s73u4, 0, true, B10) ⟨hp, g_t16, rn1, r1_h53⟩) (by exact ⟨rfl, rfl, rfl, rfl, rfl, trivial⟩) rfl rfl
                            · refine WJ.ci 202 hp rfl rfl rfl rfl rfl rfl rfl rfl rfl (fun hc62u4 hp => ?_) (fun hc62u4 hp => ?_)
                              · refine WJ.hd (v := .string (bs v1_1_h89)) 206 rfl rfl rfl rfl (fun ids H' fr => opD_load rfl (evV_eq _ _ _ _ _ rfl) (fr.ldOwn (j := 2) rfl rfl)) rfl ?_
                                exact WJ.goto 3 (j96 (((v1_1_h89.length : Nat) : Int), B8) ⟨hp, g_t16, rn1, r1_h53⟩) rfl rfl (by exact ⟨rfl, rfl, rfl, trivial⟩) rfl rfl rfl
                              · exact WJ.goto 3 (j96 (t60u4, B8) ⟨hp, g_t16, rn1, r1_h53⟩) rfl rfl (by exact ⟨rfl, rfl, rfl, trivial⟩) rfl rfl rfl
                    · replace hp := (itS hp).1 rfl
                      refine WJ.inl 206 rfl rfl Tryd.func26 rfl rfl rfl rfl rfl (lc := [(0, .v (.pointer (some ⟨bv1, 0, none⟩))), (1, .v (.int .i64 1))]) (fun _ => rfl) ?_
                      refine WJ.dr 200 rfl gmix (by kernel_rfl) (by kernel_rfl) rfl ?_
                      refine WD.hd (v := .int .i64 v1_0_h89) rfl rfl rfl rfl (fun _ _ _ _ _ => side_no) (fun ids H' fr => opD_load rfl (evV_eq _ _ _ _ _ rfl) (fr.ldOwn (j := 2) rfl rfl)) rfl ?_
                      refine WD.hd (v := .string (bs v1_1_h89)) rfl rfl rfl rfl (fun _ _ _ _ _ => side_no) (fun ids H' fr => opD_load rfl (evV_eq _ _ _ _ _ rfl) (fr.ldOwn (j := 2) rfl rfl)) rfl ?_
                      obtain ⟨s17u41, e17u41, hp⟩ := bindS hp
                      refine WD.hd (v := .string (bs s17u41)) rfl rfl rfl rfl (fun _ _ _ _ _ => side_no) (fun ids H' fr => opD_sl rfl (evV_eq _ _ _ _ _ rfl) (evV_eq _ _ _ _ _ rfl) (sliceD_l us9 e17u41)) rfl ?_
                      refine WD.sb (j := 2) rfl rfl rfl rfl rfl rfl rfl rfl rfl rfl ?_
                      refine WD.sb (j := 2) rfl rfl rfl rfl rfl rfl rfl rfl rfl rfl ?_
                      refine WD.done rfl ?_
                      refine WJ.inlN 200 rfl rfl rfl rfl ?_
                      exact WJ.ag 202 rfl (by exact ⟨rfl, rfl, rfl, trivial⟩) rfl rfl rfl (ih89 (n89, l4_h89, IntKind.i64.wrap (v1_0_h89 + 1), s17u41, a4_h89, c4_h89, B4) ⟨hp, g_t16, rn1, r1_h53⟩ (Nat.lt_succ_self _))
                  · exact WJ.goto 3 (j89 (l4_h89, v1_0_h89, v1_1_h89, a4_h89, c4_h89, B3) ⟨hp, g_t16, rn1, r1_h53⟩) rfl rfl (by exact ⟨rfl, rfl, trivial⟩) rfl rfl rfl
/-! 8 tipstaff/tipstafflaw03.sameRows -/
def f8_l2 (x0 : List Row) (x1 : List Row) (x2 : Bool) (x7 : Int) : Nat → Int → Option ((Bool) ⊕ (Unit))
  | 0, _ => none
  | n + 1, x8 =>
    (rd x0 x7).bind fun t54 =>
    if x8 < (t54.Words.length : Int) then
      (rd x0 x7).bind fun t63 =>
      (rd t63.Words x8).bind fun t67 =>
      (rd x1 x7).bind fun t71 =>
      (rd t71.Words x8).bind fun t75 =>
      if x2 then
        if (RowWord.mk t67.At t67.Kind t67.Name t67.N) = (RowWord.mk t75.At t75.Kind t75.Name t75.N) then
          f8_l2 x0 x1 x2 x7 n (IntKind.i64.wrap (x8 + 1))
        else
          some (Sum.inl (false : Bool))
      else
        if (RowWord.mk 0 t67.Kind t67.Name t67.N) = (RowWord.mk 0 t75.Kind t75.Name t75.N) then
          f8_l2 x0 x1 x2 x7 n (IntKind.i64.wrap (x8 + 1))
        else
          some (Sum.inl (false : Bool))
    else
      some (Sum.inr ())

def f8_l1 (k : Nat) (x0 : List Row) (x1 : List Row) (x2 : Bool) : Nat → Int → Option ((Bool) ⊕ (Unit))
  | 0, _ => none
  | n + 1, x7 =>
    if x7 < (x0.length : Int) then
      (if x2 then
        (rd x0 x7).bind fun t26 =>
        (rd x1 x7).bind fun t31 =>
        if t26.At = t31.At then
          (rd x0 x7).bind fun t39 =>
          (rd x1 x7).bind fun t45 =>
          if (t39.Words.length : Int) = (t45.Words.length : Int) then
            some (Sum.inr ())
          else
            some (Sum.inl (false : Bool))
        else
          some (Sum.inl (false : Bool))
      else
        (rd x0 x7).bind fun t39 =>
        (rd x1 x7).bind fun t45 =>
        if (t39.Words.length : Int) = (t45.Words.length : Int) then
          some (Sum.inr ())
        else
          some (Sum.inl (false : Bool))).bind fun s => match s with
        | .inl st => some (Sum.inl st)
        | .inr _ => 
          (f8_l2 x0 x1 x2 x7 k 0).bind fun s => match s with
            | .inl st => some (Sum.inl st)
            | .inr _ => 
              f8_l1 k x0 x1 x2 n (IntKind.i64.wrap (x7 + 1))
    else
      some (Sum.inr ())

def f8 (k : Nat) (x0 : List Row) (x1 : List Row) (x2 : Bool) : Option Bool :=
  if (x0.length : Int) = (x1.length : Int) then
    (f8_l1 k x0 x1 x2 k 0).bind fun s => match s with
      | .inl st => some st
      | .inr _ => 
        some true
  else
    some false
set_option maxRecDepth 20000 in
theorem f8_ok {k : Nat} {H : Hp} {a_x0 : Option Addr} {c_x0 : Nat} {a_x1 : Option Addr} {c_x1 : Nat} {x0 : List Row} {x1 : List Row} {x2 : Bool} {r : Bool} (g_x0 : SlF 0 H RowC a_x0 c_x0 x0) (g_x1 : SlF 0 H RowC a_x1 c_x1 x1) (hp : f8 k x0 x1 x2 = some r) :
    SCall Tryd.prog 8 [.slice a_x0 x0.length c_x0, .slice a_x1 x1.length c_x1, .bool x2] H (Ret fun v H' => Ext H H' ∧ R_4 r H.next H' v) := by
  unfold f8 at hp
  replace hp := topS hp
  refine SCall.g Tryd.func8 rfl rfl rfl rfl rfl (l := [(0, .v (.slice a_x0 x0.length c_x0)), (1, .v (.slice a_x1 x1.length c_x1)), (2, .v (.bool x2))]) (fun _ => rfl) (fun B abB => ?_)
  refine WJ.cn 211 hp rfl rfl rfl rfl rfl rfl rfl rfl rfl (fun hc15 hp => ?_) (fun hc15 hp => ?_)
  · obtain rfl := endS (show some _ = some r from hp)
    exact WJ.rt 206 rfl rfl rfl (fun ids H' fr => ⟨fr.ext0, rfl⟩)
  · refine WJ.adv 9 rfl ?_
    obtain ⟨K98, hK98, hp⟩ : ∃ K, K = _ ∧ Option.bind _ K = some r := ⟨_, rfl, cutS hp⟩
    refine WJ.cut 2 (α := Unit) (fun y => []) (fun y => []) (fun y => []) (fun y => B) (fun y => K98 (Sum.inr ()) = some r) ?_ (fun j98 => ?_)
    · rintro u hp
      subst hK98
      show WJ _ _ _ B [] _ _ ⟨[], [], true, 0⟩
      obtain rfl := endS (show some _ = some r from hp)
      exact WJ.rt 204 rfl rfl rfl (fun ids H' fr => ⟨fr.ext0, rfl⟩)
    · refine WJ.lp 200 (α := Nat × Int) (fun y => [(0, .v (.slice a_x0 x0.length c_x0)), (1, .v (.slice a_x1 x1.length c_x1)), (2, .v (.bool x2)), (7, .v (.int .i64 y.2))]) (fun y => []) (fun y => []) (fun y => B) (fun y => y.1) (fun y => Option.bind (f8_l1 k x0 x1 x2 y.1 y.2) K98 = some r) (k, 0) rfl hp (by exact ⟨rfl, rfl, rfl, rfl, trivial⟩) rfl rfl rfl ?_
      rintro ⟨n, x7⟩ hp ih98
      show WJ _ _ _ B [] _ _ ⟨[(0, .v (.slice a_x0 x0.length c_x0)), (1, .v (.slice a_x1 x1.length c_x1)), (2, .v (.bool x2)), (7, .v (.int .i64 x7))], [], true, 0⟩
      replace hp : Option.bind (f8_l1 k x0 x1 x2 n x7) K98 = some r := hp
      cases n with
      | zero => rw [f8_l1] at hp; exact (noS hp).elim
      | succ n =>
        rw [f8_l1] at hp
        refine WJ.ci 206 hp rfl rfl rfl rfl rfl rfl rfl rfl rfl (fun hc19 hp => ?_) (fun hc19 hp => ?_)
        · refine WJ.adv 7 rfl ?_
          obtain ⟨K99, hK99, hp⟩ : ∃ K, K = _ ∧ Option.bind _ K = some r := ⟨_, rfl, cutS hp⟩
          refine WJ.cut 2 (α := Unit) (fun y => [(0, .v (.slice a_x0 x0.length c_x0)), (1, .v (.slice a_x1 x1.length c_x1)), (2, .v (.bool x2)), (7, .v (.int .i64 x7))]) (fun y => []) (fun y => []) (fun y => B) (fun y => K99 ((Sum.inr ())) = some r) ?_ (fun j99 => ?_)
          · rintro u hp
            subst hK99
            show WJ _ _ _ B [] _ _ ⟨[(0, .v (.slice a_x0 x0.length c_x0)), (1, .v (.slice a_x1 x1.length c_x1)), (2, .v (.bool x2)), (7, .v (.int .i64 x7))], [], true, 0⟩
            refine WJ.adv 5 rfl ?_
            obtain ⟨K100, hK100, hp⟩ : ∃ K, K = _ ∧ Option.bind _ K = some r := ⟨_, rfl, cutS hp⟩
            refine WJ.cut 3 (α := Unit) (fun y => [(0, .v (.slice a_x0 x0.length c_x0)), (1, .v (.slice a_x1 x1.length c_x1)), (2, .v (.bool x2)), (7, .v (.int .i64 x7))]) (fun y => []) (fun y => []) (fun y => B) (fun y => K100 (Sum.inr ()) = some r) ?_ (fun j100 => ?_)
            · rintro u hp
              subst hK100
              show WJ _ _ _ B [] _ _ ⟨[(0, .v (.slice a_x0 x0.length c_x0)), (1, .v (.slice a_x1 x1.length c_x1)), (2, .v (.bool x2)), (7, .v (.int .i64 x7))], [], true, 0⟩
              exact WJ.ag 205 rfl (by exact ⟨rfl, rfl, rfl, rfl, trivial⟩) rfl rfl rfl (ih98 (n, IntKind.i64.wrap (x7 + 1)) hp (Nat.lt_succ_self _))
            · refine WJ.lp 200 (α := Nat × Int) (fun y => [(0, .v (.slice a_x0 x0.length c_x0)), (1, .v (.slice a_x1 x1.length c_x1)), (2, .v (.bool x2)), (7, .v (.int .i64 x7)), (8, .v (.int .i64 y.2))]) (fun y => []) (fun y => []) (fun y => B) (fun y => y.1) (fun y => Option.bind (f8_l2 x0 x1 x2 x7 y.1 y.2) K100 = some r) (k, 0) rfl hp (by exact ⟨rfl, rfl, rfl, rfl, rfl, trivial⟩) rfl rfl rfl ?_
              rintro ⟨n100, x8⟩ hp ih100
              show WJ _ _ _ B [] _ _ ⟨[(0, .v (.slice a_x0 x0.length c_x0)), (1, .v (.slice a_x1 x1.length c_x1)), (2, .v (.bool x2)), (7, .v (.int .i64 x7)), (8, .v (.int .i64 x8))], [], true, 0⟩
              replace hp : Option.bind (f8_l2 x0 x1 x2 x7 n100 x8) K100 = some r := hp
              cases n100 with
              | zero => rw [f8_l2] at hp; exact (noS hp).elim
              | succ n100 =>
                rw [f8_l2] at hp
                obtain ⟨⟨t54_At, t54_Words⟩, e54, hp⟩ := bindS hp
                obtain ⟨b54, o54, cs54, i54, ⟨a_t54_Words, c_t54_Words, rfl, g_t54_Words⟩, p54⟩ := g_x0.at e54 u25 sz50
                refine WJ.hd (v := .pointer (some ⟨b54, o54, none⟩)) 206 rfl rfl rfl rfl (fun ids H' fr => opD_indexAddr rfl (evV_eq _ _ _ _ _ rfl) (evV_eq _ _ _ _ _ rfl) (i54 _)) rfl ?_
                refine WJ.hd (v := .slice a_t54_Words t54_Words.length c_t54_Words) 201 rfl rfl rfl rfl (fun ids H' fr => opD_load rfl (evV_eq _ _ _ _ _ rfl) ((p54.mono (Nat.zero_le _) fr.ext0.abv).load (d := 1) ag46 rfl)) rfl ?_
                refine WJ.ci 201 hp rfl rfl rfl rfl rfl rfl rfl rfl rfl (fun hc58 hp => ?_) (fun hc58 hp => ?_)
                · refine WJ.drF 206 rfl gmix (by kernel_rfl) (by kernel_rfl) rfl (fun D1 eD1 abD1 => ?_)
                  obtain ⟨⟨t63_At, t63_Words⟩, e63, hp⟩ := bindS hp
                  obtain ⟨b63, o63, cs63, i63, ⟨a_t63_Words, c_t63_Words, rfl, g_t63_Words⟩, p63⟩ := g_x0.at e63 u25 sz50
                  have lt63 := Nat.lt_of_lt_of_le p63.2.1 eD1.next
                  refine WD.hd (v := .pointer (some ⟨b63, o63, none⟩)) rfl rfl rfl rfl (fun ids H' s0 h0 f => side_pure rfl rfl h0 f) (fun ids H' fr => opD_indexAddr rfl (evV_eq _ _ _ _ _ rfl) (evV_eq _ _ _ _ _ rfl) (i63 _)) rfl ?_
                  refine WD.hd (v := .slice a_t63_Words t63_Words.length c_t63_Words) rfl rfl rfl rfl (fun ids H' s0 h0 f => side_load rfl rfl rfl lt63 h0 f) (fun ids H' fr => opD_load rfl (evV_eq _ _ _ _ _ rfl) ((p63.mono (Nat.zero_le _) fr.ext0.abv).load (d := 1) ag46 rfl)) rfl ?_
                  obtain ⟨⟨t67_At, t67_Kind, t67_Name, t67_N⟩, e67, hp⟩ := bindS hp
                  obtain ⟨b67, o67, cs67, i67, rfl, p67⟩ := g_t63_Words.at e67 u46 sz36
                  have lt67 := Nat.lt_of_lt_of_le p67.2.1 eD1.next
                  refine WD.hd (v := .pointer (some ⟨b67, o67, none⟩)) rfl rfl rfl rfl (fun ids H' s0 h0 f => side_pure rfl rfl h0 f) (fun ids H' fr => opD_indexAddr rfl (evV_eq _ _ _ _ _ rfl) (evV_eq _ _ _ _ _ rfl) (i67 _)) rfl ?_
                  refine WD.hd (v := .agg ⟨[.int .i64 t67_At, .int .i64 t67_Kind, .string (bs t67_Name), .int .i64 t67_N]⟩) rfl rfl rfl rfl (fun ids H' s0 h0 f => side_load rfl rfl rfl lt67 h0 f) (fun ids H' fr => opD_load rfl (evV_eq _ _ _ _ _ rfl) ((p67.mono (Nat.zero_le _) fr.ext0.abv).loadN (d := 0) ag36 sz36 rfl rfl)) rfl ?_
                  obtain ⟨⟨t71_At, t71_Words⟩, e71, hp⟩ := bindS hp
                  obtain ⟨b71, o71, cs71, i71, ⟨a_t71_Words, c_t71_Words, rfl, g_t71_Words⟩, p71⟩ := g_x1.at e71 u25 sz50
                  have lt71 := Nat.lt_of_lt_of_le p71.2.1 eD1.next
                  refine WD.hd (v := .pointer (some ⟨b71, o71, none⟩)) rfl rfl rfl rfl (fun ids H' s0 h0 f => side_pure rfl rfl h0 f) (fun ids H' fr => opD_indexAddr rfl (evV_eq _ _ _ _ _ rfl) (evV_eq _ _ _ _ _ rfl) (i71 _)) rfl ?_
                  refine WD.hd (v := .slice a_t71_Words t71_Words.length c_t71_Words) rfl rfl rfl rfl (fun ids H' s0 h0 f => side_load rfl rfl rfl lt71 h0 f) (fun ids H' fr => opD_load rfl (evV_eq _ _ _ _ _ rfl) ((p71.mono (Nat.zero_le _) fr.ext0.abv).load (d := 1) ag46 rfl)) rfl ?_
                  obtain ⟨⟨t75_At, t75_Kind, t75_Name, t75_N⟩, e75, hp⟩ := bindS hp
                  obtain ⟨b75, o75, cs75, i75, rfl, p75⟩ := g_t71_Words.at e75 u46 sz36
                  have lt75 := Nat.lt_of_lt_of_le p75.2.1 eD1.next
                  refine WD.hd (v := .pointer (some ⟨b75, o75, none⟩)) rfl rfl rfl rfl (fun ids H' s0 h0 f => side_pure rfl rfl h0 f) (fun ids H' fr => opD_indexAddr rfl (evV_eq _ _ _ _ _ rfl) (evV_eq _ _ _ _ _ rfl) (i75 _)) rfl ?_
                  refine WD.hd (v := .agg ⟨[.int .i64 t75_At, .int .i64 t75_Kind, .string (bs t75_Name), .int .i64 t75_N]⟩) rfl rfl rfl rfl (fun ids H' s0 h0 f => side_load rfl rfl rfl lt75 h0 f) (fun ids H' fr => opD_load rfl (evV_eq _ _ _ _ _ rfl) ((p75.mono (Nat.zero_le _) fr.ext0.abv).loadN (d := 0) ag36 sz36 rfl rfl)) rfl ?_
                  refine WD.done rfl ?_
                  cases x2
                  · replace hp := (itS hp).2 Bool.false_ne_true
                    refine WJ.cn 217 hp rfl rfl rfl rfl rfl rfl (opD_neS rfl rfl rfl rfl gd36 (eq36 0 t67_Kind t67_Name t67_N 0 t75_Kind t75_Name t75_N)) rfl rfl (fun hc83 hp => ?_) (fun hc83 hp => ?_)
                    · subst hK100
                      subst hK98
                      obtain rfl := endS (show some _ = some r from hp)
                      exact WJ.rt 206 rfl rfl rfl (fun ids H' fr => ⟨fr.ext0, rfl⟩)
                    · exact WJ.ag 209 rfl (by exact ⟨rfl, rfl, rfl, rfl, rfl, trivial⟩) rfl rfl rfl (ih100 (n100, IntKind.i64.wrap (x8 + 1)) hp (Nat.lt_succ_self _))
                  · replace hp := (itS hp).1 rfl
                    refine WJ.cn 212 hp rfl rfl rfl rfl rfl rfl (opD_neS rfl rfl rfl rfl gd36 (eq36 t67_At t67_Kind t67_Name t67_N t75_At t75_Kind t75_Name t75_N)) rfl rfl (fun hc83 hp => ?_) (fun hc83 hp => ?_)
                    · subst hK100
                      subst hK98
                      obtain rfl := endS (show some _ = some r from hp)
                      exact WJ.rt 206 rfl rfl rfl (fun ids H' fr => ⟨fr.ext0, rfl⟩)
                    · exact WJ.ag 209 rfl (by exact ⟨rfl, rfl, rfl, rfl, rfl, trivial⟩) rfl rfl rfl (ih100 (n100, IntKind.i64.wrap (x8 + 1)) hp (Nat.lt_succ_self _))
                · exact WJ.goto 4 (j100 () hp) rfl rfl (by exact ⟨rfl, rfl, rfl, rfl, trivial⟩) rfl rfl rfl
          · refine WJ.dr 200 rfl gmix (by kernel_rfl) (by kernel_rfl) rfl ?_
            cases x2
            · replace hp := (itS hp).2 Bool.false_ne_true
              obtain ⟨⟨t39_At, t39_Words⟩, e39, hp⟩ := bindS hp
              obtain ⟨b39, o39, cs39, i39, ⟨a_t39_Words, c_t39_Words, rfl, g_t39_Words⟩, p39⟩ := g_x0.at e39 u25 sz50
              refine WD.hd (v := .pointer (some ⟨b39, o39, none⟩)) rfl rfl rfl rfl (fun _ _ _ _ _ => side_no) (fun ids H' fr => opD_indexAddr rfl (evV_eq _ _ _ _ _ rfl) (evV_eq _ _ _ _ _ rfl) (i39 _)) rfl ?_
              refine WD.hd (v := .slice a_t39_Words t39_Words.length c_t39_Words) rfl rfl rfl rfl (fun _ _ _ _ _ => side_no) (fun ids H' fr => opD_load rfl (evV_eq _ _ _ _ _ rfl) ((p39.mono (Nat.zero_le _) fr.ext0.abv).load (d := 1) ag46 rfl)) rfl ?_
              obtain ⟨⟨t45_At, t45_Words⟩, e45, hp⟩ := bindS hp
              obtain ⟨b45, o45, cs45, i45, ⟨a_t45_Words, c_t45_Words, rfl, g_t45_Words⟩, p45⟩ := g_x1.at e45 u25 sz50
              refine WD.hd (v := .pointer (some ⟨b45, o45, none⟩)) rfl rfl rfl rfl (fun _ _ _ _ _ => side_no) (fun ids H' fr => opD_indexAddr rfl (evV_eq _ _ _ _ _ rfl) (evV_eq _ _ _ _ _ rfl) (i45 _)) rfl ?_
              refine WD.hd (v := .slice a_t45_Words t45_Words.length c_t45_Words) rfl rfl rfl rfl (fun _ _ _ _ _ => side_no) (fun ids H' fr => opD_load rfl (evV_eq _ _ _ _ _ rfl) ((p45.mono (Nat.zero_le _) fr.ext0.abv).load (d := 1) ag46 rfl)) rfl ?_
              refine WD.cn hp rfl rfl rfl rfl rfl rfl rfl rfl rfl (fun hc49 hp => ?_) (fun hc49 hp => ?_)
              · refine WD.done rfl ?_
                subst hK99
                subst hK98
                obtain rfl := endS (show some _ = some r from hp)
                exact WJ.rt 205 rfl rfl rfl (fun ids H' fr => ⟨fr.ext0, rfl⟩)
              · refine WD.done rfl ?_
                exact WJ.goto 2 (j99 () hp) rfl rfl (by exact ⟨rfl, rfl, rfl, rfl, trivial⟩) rfl rfl rfl
            · replace hp := (itS hp).1 rfl
              obtain ⟨⟨t26_At, t26_Words⟩, e26, hp⟩ := bindS hp
              obtain ⟨b26, o26, cs26, i26, ⟨a_t26_Words, c_t26_Words, rfl, g_t26_Words⟩, p26⟩ := g_x0.at e26 u25 sz50
              refine WD.hd (v := .pointer (some ⟨b26, o26, none⟩)) rfl rfl rfl rfl (fun _ _ _ _ _ => side_no) (fun ids H' fr => opD_indexAddr rfl (evV_eq _ _ _ _ _ rfl) (evV_eq _ _ _ _ _ rfl) (i26 _)) rfl ?_
              refine WD.hd (v := .int .i64 t26_At) rfl rfl rfl rfl (fun _ _ _ _ _ => side_no) (fun ids H' fr => opD_load rfl (evV_eq _ _ _ _ _ rfl) ((p26.mono (Nat.zero_le _) fr.ext0.abv).load (d := 0) ag3 rfl)) rfl ?_
              obtain ⟨⟨t31_At, t31_Words⟩, e31, hp⟩ := bindS hp
              obtain ⟨b31, o31, cs31, i31, ⟨a_t31_Words, c_t31_Words, rfl, g_t31_Words⟩, p31⟩ := g_x1.at e31 u25 sz50
              refine WD.hd (v := .pointer (some ⟨b31, o31, none⟩)) rfl rfl rfl rfl (fun _ _ _ _ _ => side_no) (fun ids H' fr => opD_indexAddr rfl (evV_eq _ _ _ _ _ rfl) (evV_eq _ _ _ _ _ rfl) (i31 _)) rfl ?_
              refine WD.hd (v := .int .i64 t31_At) rfl rfl rfl rfl (fun _ _ _ _ _ => side_no) (fun ids H' fr => opD_load rfl (evV_eq _ _ _ _ _ rfl) ((p31.mono (Nat.zero_le _) fr.ext0.abv).load (d := 0) ag3 rfl)) rfl ?_
              refine WD.cn hp rfl rfl rfl rfl rfl rfl rfl rfl rfl (fun hc34 hp => ?_) (fun hc34 hp => ?_)
              · refine WD.done rfl ?_
                subst hK99
                subst hK98
                obtain rfl := endS (show some _ = some r from hp)
                exact WJ.rt 205 rfl rfl rfl (fun ids H' fr => ⟨fr.ext0, rfl⟩)
              · obtain ⟨⟨t39_At, t39_Words⟩, e39, hp⟩ := bindS hp
                obtain ⟨b39, o39, cs39, i39, ⟨a_t39_Words, c_t39_Words, rfl, g_t39_Words⟩, p39⟩ := g_x0.at e39 u25 sz50
                refine WD.hd (v := .pointer (some ⟨b39, o39, none⟩)) rfl rfl rfl rfl (fun _ _ _ _ _ => side_no) (fun ids H' fr => opD_indexAddr rfl (evV_eq _ _ _ _ _ rfl) (evV_eq _ _ _ _ _ rfl) (i39 _)) rfl ?_
                refine WD.hd (v := .slice a_t39_Words t39_Words.length c_t39_Words) rfl rfl rfl rfl (fun _ _ _ _ _ => side_no) (fun ids H' fr => opD_load rfl (evV_eq _ _ _ _ _ rfl) ((p39.mono (Nat.zero_le _) fr.ext0.abv).load (d := 1) ag46 rfl)) rfl ?_
                obtain ⟨⟨t45_At, t45_Words⟩, e45, hp⟩ := bindS hp
                obtain ⟨b45, o45, cs45, i45, ⟨a_t45_Words, c_t45_Words, rfl, g_t45_Words⟩, p45⟩ := g_x1.at e45 u25 sz50
                refine WD.hd (v := .pointer (some ⟨b45, o45, none⟩)) rfl rfl rfl rfl (fun _ _ _ _ _ => side_no) (fun ids H' fr => opD_indexAddr rfl (evV_eq _ _ _ _ _ rfl) (evV_eq _ _ _ _ _ rfl) (i45 _)) rfl ?_
                refine WD.hd (v := .slice a_t45_Words t45_Words.length c_t45_Words) rfl rfl rfl rfl (fun _ _ _ _ _ => side_no) (fun ids H' fr => opD_load rfl (evV_eq _ _ _ _ _ rfl) ((p45.mono (Nat.zero_le _) fr.ext0.abv).load (d := 1) ag46 rfl)) rfl ?_
                refine WD.cn hp rfl rfl rfl rfl rfl rfl rfl rfl rfl (fun hc49 hp => ?_) (fun hc49 hp => ?_)
                · refine WD.done rfl ?_
                  subst hK99
                  subst hK98
                  obtain rfl := endS (show some _ = some r from hp)
                  exact WJ.rt 205 rfl rfl rfl (fun ids H' fr => ⟨fr.ext0, rfl⟩)
                · refine WD.done rfl ?_
                  exact WJ.goto 2 (j99 () hp) rfl rfl (by exact ⟨rfl, rfl, rfl, rfl, trivial⟩) rfl rfl rfl
        · exact WJ.goto 3 (j98 () hp) rfl rfl (by exact trivial) rfl rfl rfl
/-! 3 tipstaff/tipstafflaw03.RowBlanks -/
def f3_l1 (x0 : List Int) : Nat → (List UInt8) → (List UInt8) → Int → Option ((List UInt8) × (List UInt8))
  | 0, _, _, _ => none
  | n + 1, x3, x4, x5 =>
    if x5 < (x0.length : Int) then
      if x5 < 8 then
        (rd x0 x5).bind fun t24 =>
        (f6 t24 1048576).bind fun t26 =>
        (rd ([([97] : List UInt8), ([48] : List UInt8), ([45, 55] : List UInt8), ([34, 35, 34] : List UInt8), ([34, 32, 34] : List UInt8), ([122, 45, 57] : List UInt8), ([34, 92, 34, 34] : List UInt8), ([49, 50] : List UInt8)] : List (List UInt8)) (t26.tmod 8)).bind fun t30 =>
        (scat x3 t30).bind fun s34 =>
        (scat s34 ([10] : List UInt8)).bind fun s35 =>
        (scat x4 ([32, 9] : List UInt8)).bind fun s37 =>
        (scat s37 t30).bind fun s39 =>
        (rd ([([32] : List UInt8), ([9, 35, 32, 120, 34] : List UInt8), ([32, 35] : List UInt8), ([32, 32] : List UInt8)] : List (List UInt8)) ((IntKind.i64.wrap (t26.tdiv 8)).tmod 4)).bind fun t44 =>
        (scat s39 t44).bind fun s46 =>
        (scat s46 ([10] : List UInt8)).bind fun s47 =>
        f3_l1 x0 n s35 s47 (IntKind.i64.wrap (x5 + 1))
      else
        some ((x3, x4))
    else
      some ((x3, x4))

def f3 (k : Nat) (x0 : List Int) : Option Bool :=
  (f3_l1 x0 k ([] : List UInt8) ([] : List UInt8) 0).bind fun (x3_101, x4_101) =>
    (f7 k x3_101).bind fun (t50_0, t50_1) =>
    (f7 k x4_101).bind fun (t55_0, t55_1) =>
    if (Fault.mk t50_1.Err t50_1.At) = (Fault.mk 0 0) then
      if (Fault.mk t55_1.Err t55_1.At) = (Fault.mk 0 0) then
        if (t50_0.length : Int) = (gmin (x0.length : Int) 8) then
          (f8 k t50_0 t55_0 false).bind fun t77 =>
          if t77 then
            (f9).bind fun t80 =>
            some t80
          else
            some false
        else
          some false
      else
        some false
    else
      some false
set_option maxRecDepth 20000 in
theorem f3_ok {k : Nat} {H : Hp} {a_x0 : Option Addr} {c_x0 : Nat} {x0 : List Int} {r : Bool} (g_x0 : SlF 0 H intC a_x0 c_x0 x0) (hp : f3 k x0 = some r) :
    SCall Tryd.prog 3 [.slice a_x0 x0.length c_x0] H (Ret fun v H' => Ext H H' ∧ R_4 r H.next H' v) := by
  unfold f3 at hp
  replace hp := topS hp
  refine SCall.g Tryd.func3 rfl rfl rfl rfl rfl (l := [(0, .v (.slice a_x0 x0.length c_x0))]) (fun _ => rfl) (fun B abB => ?_)
  refine WJ.adv 15 rfl ?_
  obtain ⟨K101, hK101, hp⟩ : ∃ K, K = _ ∧ Option.bind _ K = some r := ⟨_, rfl, cutS hp⟩
  refine WJ.cut 2 (α := (List UInt8) × (List UInt8) × Hp) (fun y => [(0, .v (.slice a_x0 x0.length c_x0)), (3, .v (.string (bs y.1))), (4, .v (.string (bs y.2.1)))]) (fun y => []) (fun y => []) (fun y => y.2.2) (fun y => K101 ((y.1, y.2.1)) = some r) ?_ (fun j101 => ?_)
  · rintro ⟨x3_101, x4_101, B3⟩ hp
    subst hK101
    show WJ _ _ _ B3 [] _ _ ⟨[(0, .v (.slice a_x0 x0.length c_x0)), (3, .v (.string (bs x3_101))), (4, .v (.string (bs x4_101)))], [], true, 0⟩
    obtain ⟨⟨t50_0, ⟨t50_1_Err, t50_1_At⟩⟩, e50, hp⟩ := bindS hp
    refine WJ.cl 203 (R := R_25_28 ⟨t50_0, ⟨t50_1_Err, t50_1_At⟩⟩) (fun hm h k => R_25_28.mono hm h k) rfl (fun ids H' fr => f7_ok e50) ?_
    rintro v B4 ⟨abB4, ivB4⟩ ⟨a_t50_0, c_t50_0, rfl, g_t50_0⟩
    refine ⟨_, rfl, ?_⟩
    obtain ⟨⟨t55_0, ⟨t55_1_Err, t55_1_At⟩⟩, e55, hp⟩ := bindS hp
    refine WJ.cl 210 (R := R_25_28 ⟨t55_0, ⟨t55_1_Err, t55_1_At⟩⟩) (fun hm h k => R_25_28.mono hm h k) rfl (fun ids H' fr => f7_ok e55) ?_
    rintro v B5 ⟨abB5, ivB5⟩ ⟨a_t55_0, c_t55_0, rfl, g_t55_0⟩
    refine ⟨_, rfl, ?_⟩
    replace g_t50_0 := g_t50_0.mono (Nat.le_refl _) (abB5.le (Nat.zero_le _))
    refine WJ.ci 211 hp rfl rfl rfl rfl rfl rfl (opD_eqS rfl rfl rfl rfl gd28 (eq28 t50_1_Err t50_1_At 0 0)) rfl rfl (fun hc60 hp => ?_) (fun hc60 hp => ?_)
    · refine WJ.ci 203 hp rfl rfl rfl rfl rfl rfl (opD_eqS rfl rfl rfl rfl gd28 (eq28 t55_1_Err t55_1_At 0 0)) rfl rfl (fun hc64 hp => ?_) (fun hc64 hp => ?_)
      · refine WJ.hd (v := .int .i64 (gmin ((x0.length : Nat) : Int) 8)) 206 rfl rfl rfl rfl (fun ids H' fr => opD_min rfl rfl rfl (evV_eq (v := .v (.int .i64 ((x0.length : Nat) : Int))) _ _ _ _ _ rfl) (evV_eq (v := .v (.int .i64 8)) _ _ _ _ _ rfl)) rfl ?_
        refine WJ.ci 200 hp rfl rfl rfl rfl rfl rfl rfl rfl rfl (fun hc72 hp => ?_) (fun hc72 hp => ?_)
        · obtain ⟨t77, e77, hp⟩ := bindS hp
          refine WJ.cl 204 (R := R_4 t77) (fun hm h k => R_4.mono hm h k) rfl (fun ids H' fr => f8_ok (g_t50_0.mono (Nat.zero_le _) (fr.abv.le (Nat.zero_le _))) (g_t55_0.mono (Nat.zero_le _) (fr.abv.le (Nat.zero_le _))) e77) ?_
          rintro v B6 ⟨abB6, ivB6⟩ rfl
          refine ⟨_, rfl, ?_⟩
          replace g_t50_0 := g_t50_0.mono (Nat.le_refl _) (abB6.le (Nat.zero_le _))
          replace g_t55_0 := g_t55_0.mono (Nat.le_refl _) (abB6.le (Nat.zero_le _))
          cases t77
          · replace hp := (itS hp).2 Bool.false_ne_true
            obtain rfl := endS (show some _ = some r from hp)
            exact WJ.rt 206 rfl rfl rfl (fun ids H' fr => ⟨fr.ext0, rfl⟩)
          · replace hp := (itS hp).1 rfl
            obtain ⟨t80, e80, hp⟩ := bindS hp
            refine WJ.cl 202 (R := R_4 t80) (fun hm h k => R_4.mono hm h k) rfl (fun ids H' fr => f9_ok e80) ?_
            rintro v B7 ⟨abB7, ivB7⟩ rfl
            refine ⟨_, rfl, ?_⟩
            replace g_t50_0 := g_t50_0.mono (Nat.le_refl _) (abB7.le (Nat.zero_le _))
            replace g_t55_0 := g_t55_0.mono (Nat.le_refl _) (abB7.le (Nat.zero_le _))
            obtain rfl := endS (show some _ = some r from hp)
            exact WJ.rt 203 rfl rfl rfl (fun ids H' fr => ⟨fr.ext0, rfl⟩)
        · obtain rfl := endS (show some _ = some r from hp)
          exact WJ.rt 211 rfl rfl rfl (fun ids H' fr => ⟨fr.ext0, rfl⟩)
      · obtain rfl := endS (show some _ = some r from hp)
        exact WJ.rt 219 rfl rfl rfl (fun ids H' fr => ⟨fr.ext0, rfl⟩)
    · obtain rfl := endS (show some _ = some r from hp)
      exact WJ.rt 223 rfl rfl rfl (fun ids H' fr => ⟨fr.ext0, rfl⟩)
  · refine WJ.lp 200 (α := Nat × (List UInt8) × (List UInt8) × Int × Hp) (fun y => [(0, .v (.slice a_x0 x0.length c_x0)), (3, .v (.string (bs y.2.1))), (4, .v (.string (bs y.2.2.1))), (5, .v (.int .i64 y.2.2.2.1))]) (fun y => []) (fun y => []) (fun y => y.2.2.2.2) (fun y => y.1) (fun y => Option.bind (f3_l1 x0 y.1 y.2.1 y.2.2.1 y.2.2.2.1) K101 = some r) (k, ([] : List UInt8), ([] : List UInt8), 0, B) rfl hp (by exact ⟨rfl, rfl, rfl, rfl, trivial⟩) rfl rfl rfl ?_
    rintro ⟨n, x3, x4, x5, B1⟩ hp ih101
    show WJ _ _ _ B1 [] _ _ ⟨[(0, .v (.slice a_x0 x0.length c_x0)), (3, .v (.string (bs x3))), (4, .v (.string (bs x4))), (5, .v (.int .i64 x5))], [], true, 0⟩
    replace hp : Option.bind (f3_l1 x0 n x3 x4 x5) K101 = some r := hp
    cases n with
    | zero => rw [f3_l1] at hp; exact (noS hp).elim
    | succ n =>
      rw [f3_l1] at hp
      refine WJ.ci 206 hp rfl rfl rfl rfl rfl rfl rfl rfl rfl (fun hc15 hp => ?_) (fun hc15 hp => ?_)
      · refine WJ.ci 202 hp rfl rfl rfl rfl rfl rfl rfl rfl rfl (fun hc18 hp => ?_) (fun hc18 hp => ?_)
        · obtain ⟨t24, e24, hp⟩ := bindS hp
          obtain ⟨b24, o24, cs24, i24, rfl, p24⟩ := g_x0.at e24 u22 sz3
          refine WJ.hd (v := .pointer (some ⟨b24, o24, none⟩)) 210 rfl rfl rfl rfl (fun ids H' fr => opD_indexAddr rfl (evV_eq _ _ _ _ _ rfl) (evV_eq _ _ _ _ _ rfl) (i24 _)) rfl ?_
          refine WJ.hd (v := .int .i64 t24) 200 rfl rfl rfl rfl (fun ids H' fr => opD_load rfl (evV_eq _ _ _ _ _ rfl) ((p24.mono (Nat.zero_le _) fr.ext0.abv).load (d := 0) ag3 rfl)) rfl ?_
          obtain ⟨t26, e26, hp⟩ := bindS hp
          refine WJ.cl 200 (R := R_3 t26) (fun hm h k => R_3.mono hm h k) rfl (fun ids H' fr => f6_ok e26) ?_
          rintro v B2 ⟨abB2, ivB2⟩ rfl
          refine ⟨_, rfl, ?_⟩
          refine WJ.bs (cs := encL sE ([([97] : List UInt8), ([48] : List UInt8), ([45, 55] : List UInt8), ([34, 35, 34] : List UInt8), ([34, 32, 34] : List UInt8), ([122, 45, 57] : List UInt8), ([34, 92, 34, 34] : List UInt8), ([49, 50] : List UInt8)] : List (List UInt8))) (sz := 1) (pl := [(0, .string (bs ([97] : List UInt8))), (1, .string (bs ([48] : List UInt8))), (2, .string (bs ([45, 55] : List UInt8))), (3, .string (bs ([34, 35, 34] : List UInt8))), (4, .string (bs ([34, 32, 34] : List UInt8))), (5, .string (bs ([122, 45, 57] : List UInt8))), (6, .string (bs ([34, 92, 34, 34] : List UInt8))), (7, .string (bs ([49, 50] : List UInt8)))]) 204 rfl rfl rfl rfl rfl (fun _ _ => rfl) (fun _ => by rfl) rfl rfl ?_
          intro b27
          refine ⟨_, rfl, ?_⟩
          refine WJ.hd (v := .int .i64 (t26.tmod 8)) 201 rfl rfl rfl rfl (fun ids H' fr => opD_bin rfl (evV_eq _ _ _ _ _ rfl) (evV_eq _ _ _ _ _ rfl) (bin_rem (by decide))) rfl ?_
          obtain ⟨t30, e30, hp⟩ := bindS hp
          refine WJ.ownAddr (enc := sE) (sz := 1) 0 (fun _ => rfl) rfl rfl e30 (fun b30 hb30 => ?_)
          refine WJ.hd (v := .pointer (some ⟨b30, (t26.tmod 8 : Int).toNat * 1, none⟩)) 200 rfl rfl rfl rfl (fun ids H' fr => opD_indexAddr rfl (evV_eq _ _ _ _ _ rfl) (evV_eq _ _ _ _ _ rfl) (ownIdx hb30 e30 u24 sz9)) rfl ?_
          refine WJ.hd (v := .string (bs t30)) 200 rfl rfl rfl rfl (fun ids H' fr => opD_load rfl (evV_eq _ _ _ _ _ rfl) ((fr.ownEl (enc := sE) (sz := 1) (j := 0) (fun _ => rfl) rfl hb30 e30).load (d := 0) ag9 rfl)) rfl ?_
          obtain ⟨s34, e34, hp⟩ := bindS hp
          refine WJ.hd (v := .string (bs s34)) 206 rfl rfl rfl rfl (fun ids H' fr => opD_bin rfl (evV_eq _ _ _ _ _ rfl) (evV_eq _ _ _ _ _ rfl) (bin_sadd e34)) rfl ?_
          obtain ⟨s35, e35, hp⟩ := bindS hp
          refine WJ.hd (v := .string (bs s35)) 200 rfl rfl rfl rfl (fun ids H' fr => opD_bin rfl (evV_eq _ _ _ _ _ rfl) (evV_eq _ _ _ _ _ rfl) (bin_sadd e35)) rfl ?_
          obtain ⟨s37, e37, hp⟩ := bindS hp
          refine WJ.hd (v := .string (bs s37)) 204 rfl rfl rfl rfl (fun ids H' fr => opD_bin rfl (evV_eq _ _ _ _ _ rfl) (evV_eq _ _ _ _ _ rfl) (bin_sadd e37)) rfl ?_
          obtain ⟨s39, e39, hp⟩ := bindS hp
          refine WJ.hd (v := .string (bs s39)) 201 rfl rfl rfl rfl (fun ids H' fr => opD_bin rfl (evV_eq _ _ _ _ _ rfl) (evV_eq _ _ _ _ _ rfl) (bin_sadd e39)) rfl ?_
          refine WJ.bs (cs := encL sE ([([32] : List UInt8), ([9, 35, 32, 120, 34] : List UInt8), ([32, 35] : List UInt8), ([32, 32] : List UInt8)] : List (List UInt8))) (sz := 1) (pl := [(0, .string (bs ([32] : List UInt8))), (1, .string (bs ([9, 35, 32, 120, 34] : List UInt8))), (2, .string (bs ([32, 35] : List UInt8))), (3, .string (bs ([32, 32] : List UInt8)))]) 200 rfl rfl rfl rfl rfl (fun _ _ => rfl) (fun _ => by rfl) rfl rfl ?_
          intro b40
          refine ⟨_, rfl, ?_⟩
          refine WJ.hd (v := .int .i64 (IntKind.i64.wrap (t26.tdiv 8))) 201 rfl rfl rfl rfl (fun ids H' fr => opD_bin rfl (evV_eq _ _ _ _ _ rfl) (evV_eq _ _ _ _ _ rfl) (bin_quo (by decide))) rfl ?_
          refine WJ.hd (v := .int .i64 ((IntKind.i64.wrap (t26.tdiv 8)).tmod 4)) 200 rfl rfl rfl rfl (fun ids H' fr => opD_bin rfl (evV_eq _ _ _ _ _ rfl) (evV_eq _ _ _ _ _ rfl) (bin_rem (by decide))) rfl ?_
          obtain ⟨t44, e44, hp⟩ := bindS hp
          refine WJ.ownAddr (enc := sE) (sz := 1) 1 (fun _ => rfl) rfl rfl e44 (fun b44 hb44 => ?_)
          refine WJ.hd (v := .pointer (some ⟨b44, ((IntKind.i64.wrap (t26.tdiv 8)).tmod 4 : Int).toNat * 1, none⟩)) 200 rfl rfl rfl rfl (fun ids H' fr => opD_indexAddr rfl (evV_eq _ _ _ _ _ rfl) (evV_eq _ _ _ _ _ rfl) (ownIdx hb44 e44 u24 sz9)) rfl ?_
          refine WJ.hd (v := .string (bs t44)) 200 rfl rfl rfl rfl (fun ids H' fr => opD_load rfl (evV_eq _ _ _ _ _ rfl) ((fr.ownEl (enc := sE) (sz := 1) (j := 1) (fun _ => rfl) rfl hb44 e44).load (d := 0) ag9 rfl)) rfl ?_
          obtain ⟨s46, e46, hp⟩ := bindS hp
          refine WJ.hd (v := .string (bs s46)) 200 rfl rfl rfl rfl (fun ids H' fr => opD_bin rfl (evV_eq _ _ _ _ _ rfl) (evV_eq _ _ _ _ _ rfl) (bin_sadd e46)) rfl ?_
          obtain ⟨s47, e47, hp⟩ := bindS hp
          refine WJ.hd (v := .string (bs s47)) 200 rfl rfl rfl rfl (fun ids H' fr => opD_bin rfl (evV_eq _ _ _ _ _ rfl) (evV_eq _ _ _ _ _ rfl) (bin_sadd e47)) rfl ?_
          exact WJ.ag 208 rfl (by exact ⟨rfl, rfl, rfl, rfl, trivial⟩) rfl rfl rfl (ih101 (n, s35, s47, IntKind.i64.wrap (x5 + 1), B2) hp (Nat.lt_succ_self _))
        · exact WJ.goto 4 (j101 (x3, x4, B1) hp) rfl rfl (by exact ⟨rfl, rfl, rfl, trivial⟩) rfl rfl rfl
      · exact WJ.goto 7 (j101 (x3, x4, B1) hp) rfl rfl (by exact ⟨rfl, rfl, rfl, trivial⟩) rfl rfl rfl
end
end Go.Proofs.YtgmejigjajcbfaaDoor

set_option linter.unusedVariables false
namespace Go.Proofs.YtgmejigjajcbfaaDoor
open Go Go.Det Go.RowKit
theorem ul3 : Tryd.prog.underlying 3 = some (.int .i64) := by kernel_rfl
def ok3 (x : Int) : Prop := okI .i64 x
theorem rd3 {H : Hp} {cs : List Value} (h : Rd Tryd.prog H 3 cs) : ∃ x : Int, Cod.rep intC 0 H cs x ∧ ok3 x := by
  obtain ⟨x, rfl, hx⟩ := h.int_inv ul3
  exact ⟨x, rfl, hx⟩
theorem ul22 : Tryd.prog.underlying 22 = some (.slice 3) := by kernel_rfl
theorem bo22 : Tryd.prog.bytesOf 3 = 8 := by kernel_rfl
def ok22 (x : List Int) : Prop := (∀ y ∈ x, ok3 y) ∧ x.length * 8 ≤ reachBytes ∧ x.length ≤ maxLen
theorem rd22 {H : Hp} {cs : List Value} (h : Rd Tryd.prog H 22 cs) : ∃ x : List Int, Cod.rep (slC intC) 0 H cs x ∧ ok22 x := by
  obtain ⟨l, a, cap, rfl, h1, h2, h3, h4⟩ := h.sl_inv (c := intC) ul22 fun cs h => rd3 h
  rw [bo22] at h3
  exact ⟨l, ⟨a, cap, rfl, h1⟩, h2, h3, h4⟩
def Pure3 : Prop := ∀ (x0 : List Int), ok22 x0 → ∃ k : Nat, f3 k x0 = some true
theorem law3 (hp : Pure3) (H : Hp) (args : List Value) (_ : Tryd.prog.globals.size ≤ H.next) (h : RdArgs Tryd.prog H Tryd.f3.params.toList args) : SCall Tryd.prog 3 args H (fun e _ => e = .ret (.bool true)) := by
  replace h : RdArgs Tryd.prog H [22] args := h
  obtain ⟨v0, args0, ea0, h0, h⟩ := h.scal (by kernel_rfl)
  obtain ⟨x0, ⟨a0_0, c0_0, e0, g0_0⟩, k0⟩ := rd22 h0
  obtain rfl := (List.cons.inj e0).1
  obtain rfl := h.nil_inv
  subst ea0
  obtain ⟨k, hk⟩ := hp x0 k0
  exact (f3_ok g0_0 hk).mono fun e H' ⟨v, h1, _, h2⟩ => by rw [h1, h2]
end Go.Proofs.YtgmejigjajcbfaaDoor
