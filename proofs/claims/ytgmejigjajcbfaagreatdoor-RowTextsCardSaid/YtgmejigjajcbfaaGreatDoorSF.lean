import Derived.Test.YtgmejigjajcbfaaGreatDoorSM
import Derived.Test.YtgmejigjajcbfaaGreatDoorST
import Derived.Test.YtgmejigjajcbfaaGreatDoorD51
set_option linter.unusedVariables false
set_option linter.unusedSimpArgs false
namespace Go.Proofs.YtgmejigjajcbfaaGreatDoor
open Go Go.Det Go.RowKit
noncomputable section
/-! 42 tipstaff/row.letter -/
def f42 (x0 : Int) : Option Bool :=
  if x0 ≥ 97 then
    if x0 ≤ 122 then
      some true
    else
      if x0 ≥ 65 then
        (some (decide (x0 ≤ 90))).bind fun t14 =>
        some t14
      else
        some false
  else
    if x0 ≥ 65 then
      (some (decide (x0 ≤ 90))).bind fun t14 =>
      some t14
    else
      some false
set_option maxRecDepth 20000 in
theorem f42_ok {H : Hp} {x0 : Int} {r : Bool} (hp : f42 x0 = some r) :
    SCall Tryz.prog 42 [.int .i32 x0] H (Ret fun v H' => Ext H H' ∧ R_4 r H.next H' v) := by
  unfold f42 at hp
  replace hp := topS hp
  refine SCall.g Tryz.func42 rfl rfl rfl rfl rfl (l := [(0, .v (.int .i32 x0))]) (fun _ => rfl) (fun B abB => ?_)
  refine WJ.ci 207 hp rfl rfl rfl rfl rfl rfl rfl rfl rfl (fun hc4 hp => ?_) (fun hc4 hp => ?_)
  · refine WJ.ci 202 hp rfl rfl rfl rfl rfl rfl rfl rfl rfl (fun hc7 hp => ?_) (fun hc7 hp => ?_)
    · obtain rfl := endS (show some _ = some r from hp)
      exact WJ.rt 211 rfl rfl rfl (fun ids H' fr => ⟨fr.ext0, rfl⟩)
    · refine WJ.ci 203 hp rfl rfl rfl rfl rfl rfl rfl rfl rfl (fun hc11 hp => ?_) (fun hc11 hp => ?_)
      · obtain ⟨t14, e14, hp⟩ := bindS hp
        refine WJ.cv 202 (b := t14) (H0 := ⟨.nil, 0, 0⟩) rfl rfl rfl rfl rfl rfl (by rw [← endS e14]; exact rfl) rfl ?_
        obtain rfl := endS (show some _ = some r from hp)
        exact WJ.rt 204 rfl rfl rfl (fun ids H' fr => ⟨fr.ext0, rfl⟩)
      · obtain rfl := endS (show some _ = some r from hp)
        exact WJ.rt 207 rfl rfl rfl (fun ids H' fr => ⟨fr.ext0, rfl⟩)
  · refine WJ.ci 206 hp rfl rfl rfl rfl rfl rfl rfl rfl rfl (fun hc11 hp => ?_) (fun hc11 hp => ?_)
    · obtain ⟨t14, e14, hp⟩ := bindS hp
      refine WJ.cv 202 (b := t14) (H0 := ⟨.nil, 0, 0⟩) rfl rfl rfl rfl rfl rfl (by rw [← endS e14]; exact rfl) rfl ?_
      obtain rfl := endS (show some _ = some r from hp)
      exact WJ.rt 204 rfl rfl rfl (fun ids H' fr => ⟨fr.ext0, rfl⟩)
    · obtain rfl := endS (show some _ = some r from hp)
      exact WJ.rt 207 rfl rfl rfl (fun ids H' fr => ⟨fr.ext0, rfl⟩)
/-! 70 tipstaff/row.digit -/
def f70 (x0 : Int) : Option (Int × Bool) :=
  (f85 ([48, 49, 50, 51, 52, 53, 54, 55, 56, 57, 97, 98, 99, 100, 101, 102] : List UInt8) (bits .or .u8 x0 32)).bind fun t7 =>
  (if x0 ≥ 48 then
    if x0 ≤ 57 then
      (f85 ([48, 49, 50, 51, 52, 53, 54, 55, 56, 57, 97, 98, 99, 100, 101, 102] : List UInt8) x0).bind fun t15 =>
      some (t15)
    else
      some (t7)
  else
    some (t7)).bind fun x4_1 =>
    if x4_1 ≥ 0 then
      if x0 ≥ 48 then
        if x0 ≤ 57 then
          some (IntKind.u8.wrap (gmax x4_1 0), true)
        else
          (f42 (IntKind.i32.wrap x0)).bind fun t31 =>
          some (IntKind.u8.wrap (gmax x4_1 0), t31)
      else
        (f42 (IntKind.i32.wrap x0)).bind fun t31 =>
        some (IntKind.u8.wrap (gmax x4_1 0), t31)
    else
      some (IntKind.u8.wrap (gmax x4_1 0), false)
set_option maxRecDepth 20000 in
theorem f70_ok {H : Hp} {x0 : Int} {r : Int × Bool} (hp : f70 x0 = some r) :
    SCall Tryz.prog 70 [.int .u8 x0] H (Ret fun v H' => Ext H H' ∧ R_5_4 r H.next H' v) := by
  unfold f70 at hp
  replace hp := topS hp
  refine SCall.g Tryz.func70 rfl rfl rfl rfl rfl (l := [(0, .v (.int .u8 x0))]) (fun _ => rfl) (fun B abB => ?_)
  obtain ⟨t7, e7, hp⟩ := bindS hp
  refine WJ.cl 209 (R := R_3 t7) (fun hm h k => R_3.mono hm h k) rfl (fun ids H' fr => f85_ok e7) ?_
  rintro v B1 ⟨abB1, ivB1⟩ rfl
  refine ⟨_, rfl, ?_⟩
  refine WJ.adv 4 rfl ?_
  obtain ⟨K1, hK1, hp⟩ : ∃ K, K = _ ∧ Option.bind _ K = some r := ⟨_, rfl, cutS hp⟩
  refine WJ.cut 2 (α := Int × Hp) (fun y => [(0, .v (.int .u8 x0)), (4, .v (.int .i64 y.1))]) (fun y => []) (fun y => []) (fun y => y.2) (fun y => K1 ((y.1)) = some r) ?_ (fun j1 => ?_)
  · rintro ⟨x4_1, B3⟩ hp
    subst hK1
    show WJ _ _ _ B3 [] _ _ ⟨[(0, .v (.int .u8 x0)), (4, .v (.int .i64 x4_1))], [], true, 0⟩
    refine WJ.hd (v := .int .i64 (gmax x4_1 0)) 203 rfl rfl rfl rfl (fun ids H' fr => opD_max rfl rfl rfl (evV_eq (v := .v (.int .i64 x4_1)) _ _ _ _ _ rfl) (evV_eq (v := .v (.int .i64 0)) _ _ _ _ _ rfl)) rfl ?_
    refine WJ.ci 202 hp rfl rfl rfl rfl rfl rfl rfl rfl rfl (fun hc20 hp => ?_) (fun hc20 hp => ?_)
    · refine WJ.ci 202 hp rfl rfl rfl rfl rfl rfl rfl rfl rfl (fun hc23 hp => ?_) (fun hc23 hp => ?_)
      · refine WJ.ci 202 hp rfl rfl rfl rfl rfl rfl rfl rfl rfl (fun hc26 hp => ?_) (fun hc26 hp => ?_)
        · obtain rfl := endS (show some _ = some r from hp)
          exact WJ.rt 210 rfl rfl rfl (fun ids H' fr => ⟨fr.ext0, rfl⟩)
        · obtain ⟨t31, e31, hp⟩ := bindS hp
          refine WJ.cl 204 (R := R_4 t31) (fun hm h k => R_4.mono hm h k) rfl (fun ids H' fr => f42_ok e31) ?_
          rintro v B4 ⟨abB4, ivB4⟩ rfl
          refine ⟨_, rfl, ?_⟩
          obtain rfl := endS (show some _ = some r from hp)
          exact WJ.rt 205 rfl rfl rfl (fun ids H' fr => ⟨fr.ext0, rfl⟩)
      · obtain ⟨t31, e31, hp⟩ := bindS hp
        refine WJ.cl 207 (R := R_4 t31) (fun hm h k => R_4.mono hm h k) rfl (fun ids H' fr => f42_ok e31) ?_
        rintro v B5 ⟨abB5, ivB5⟩ rfl
        refine ⟨_, rfl, ?_⟩
        obtain rfl := endS (show some _ = some r from hp)
        exact WJ.rt 205 rfl rfl rfl (fun ids H' fr => ⟨fr.ext0, rfl⟩)
    · obtain rfl := endS (show some _ = some r from hp)
      exact WJ.rt 216 rfl rfl rfl (fun ids H' fr => ⟨fr.ext0, rfl⟩)
  · refine WJ.ci 202 hp rfl rfl rfl rfl rfl rfl rfl rfl rfl (fun hc9 hp => ?_) (fun hc9 hp => ?_)
    · refine WJ.ci 202 hp rfl rfl rfl rfl rfl rfl rfl rfl rfl (fun hc12 hp => ?_) (fun hc12 hp => ?_)
      · obtain ⟨t15, e15, hp⟩ := bindS hp
        refine WJ.cl 205 (R := R_3 t15) (fun hm h k => R_3.mono hm h k) rfl (fun ids H' fr => f85_ok e15) ?_
        rintro v B2 ⟨abB2, ivB2⟩ rfl
        refine ⟨_, rfl, ?_⟩
        exact WJ.goto 2 (j1 (t15, B2) hp) rfl rfl (by exact ⟨rfl, rfl, trivial⟩) rfl rfl rfl
      · exact WJ.goto 4 (j1 (t7, B1) hp) rfl rfl (by exact ⟨rfl, rfl, trivial⟩) rfl rfl rfl
    · exact WJ.goto 7 (j1 (t7, B1) hp) rfl rfl (by exact ⟨rfl, rfl, trivial⟩) rfl rfl rfl
/-! 56 tipstaff/row.escape -/
def f56 (x0 : List UInt8) : Option (Int × Int) :=
  if x0 = ([] : List UInt8) then
    some (0, 0)
  else
    (rd x0 0).bind fun b13 =>
    if ((b13.toNat : Nat) : Int) = 34 then
      (rd x0 0).bind fun b21 =>
      some (((b21.toNat : Nat) : Int), 1)
    else
      (rd x0 0).bind fun b17 =>
      if ((b17.toNat : Nat) : Int) = 92 then
        (rd x0 0).bind fun b21 =>
        some (((b21.toNat : Nat) : Int), 1)
      else
        (rd x0 0).bind fun b24 =>
        if ((b24.toNat : Nat) : Int) = 120 then
          if (x0.length : Int) < 3 then
            some (0, 0)
          else
            (rd x0 1).bind fun b33 =>
            (f70 ((b33.toNat : Nat) : Int)).bind fun (t34_0, t34_1) =>
            (rd x0 2).bind fun b39 =>
            (f70 ((b39.toNat : Nat) : Int)).bind fun (t40_0, t40_1) =>
            if t34_1 then
              if t40_1 then
                some (bits .or .u8 (gshl .u8 t34_0 4) t40_0, 3)
              else
                some (0, 0)
            else
              some (0, 0)
        else
          some (0, 0)
set_option maxRecDepth 20000 in
theorem f56_ok {H : Hp} {x0 : List UInt8} {r : Int × Int} (hp : f56 x0 = some r) :
    SCall Tryz.prog 56 [.string (bs x0)] H (Ret fun v H' => Ext H H' ∧ R_5_3 r H.next H' v) := by
  unfold f56 at hp
  replace hp := topS hp
  refine SCall.g Tryz.func56 rfl rfl rfl rfl rfl (l := [(0, .v (.string (bs x0)))]) (fun _ => rfl) (fun B abB => ?_)
  refine WJ.ci 210 hp rfl rfl rfl rfl rfl rfl (opD_streq rfl rfl rfl) rfl rfl (fun hc10 hp => ?_) (fun hc10 hp => ?_)
  · obtain rfl := endS (show some _ = some r from hp)
    exact WJ.rt 208 rfl rfl rfl (fun ids H' fr => ⟨fr.ext0, rfl⟩)
  · obtain ⟨b13, e13, hp⟩ := bindS hp
    refine WJ.hd (v := .int .u8 ((b13.toNat : Nat) : Int)) 206 rfl rfl rfl rfl (fun ids H' fr => opD_index rfl (evV_eq _ _ _ _ _ rfl) (evV_eq _ _ _ _ _ rfl) (sidx us9 e13)) rfl ?_
    refine WJ.ci 200 hp rfl rfl rfl rfl rfl rfl rfl rfl rfl (fun hc14 hp => ?_) (fun hc14 hp => ?_)
    · obtain ⟨b21, e21, hp⟩ := bindS hp
      refine WJ.hd (v := .int .u8 ((b21.toNat : Nat) : Int)) 211 rfl rfl rfl rfl (fun ids H' fr => opD_index rfl (evV_eq _ _ _ _ _ rfl) (evV_eq _ _ _ _ _ rfl) (sidx us9 e21)) rfl ?_
      obtain rfl := endS (show some _ = some r from hp)
      exact WJ.rt 203 rfl rfl rfl (fun ids H' fr => ⟨fr.ext0, rfl⟩)
    · obtain ⟨b17, e17, hp⟩ := bindS hp
      refine WJ.hd (v := .int .u8 ((b17.toNat : Nat) : Int)) 202 rfl rfl rfl rfl (fun ids H' fr => opD_index rfl (evV_eq _ _ _ _ _ rfl) (evV_eq _ _ _ _ _ rfl) (sidx us9 e17)) rfl ?_
      refine WJ.ci 200 hp rfl rfl rfl rfl rfl rfl rfl rfl rfl (fun hc18 hp => ?_) (fun hc18 hp => ?_)
      · obtain ⟨b21, e21, hp⟩ := bindS hp
        refine WJ.hd (v := .int .u8 ((b21.toNat : Nat) : Int)) 207 rfl rfl rfl rfl (fun ids H' fr => opD_index rfl (evV_eq _ _ _ _ _ rfl) (evV_eq _ _ _ _ _ rfl) (sidx us9 e21)) rfl ?_
        obtain rfl := endS (show some _ = some r from hp)
        exact WJ.rt 203 rfl rfl rfl (fun ids H' fr => ⟨fr.ext0, rfl⟩)
      · obtain ⟨b24, e24, hp⟩ := bindS hp
        refine WJ.hd (v := .int .u8 ((b24.toNat : Nat) : Int)) 207 rfl rfl rfl rfl (fun ids H' fr => opD_index rfl (evV_eq _ _ _ _ _ rfl) (evV_eq _ _ _ _ _ rfl) (sidx us9 e24)) rfl ?_
        refine WJ.cn 200 hp rfl rfl rfl rfl rfl rfl rfl rfl rfl (fun hc25 hp => ?_) (fun hc25 hp => ?_)
        · obtain rfl := endS (show some _ = some r from hp)
          exact WJ.rt 213 rfl rfl rfl (fun ids H' fr => ⟨fr.ext0, rfl⟩)
        · refine WJ.ci 203 hp rfl rfl rfl rfl rfl rfl rfl rfl rfl (fun hc29 hp => ?_) (fun hc29 hp => ?_)
          · obtain rfl := endS (show some _ = some r from hp)
            exact WJ.rt 209 rfl rfl rfl (fun ids H' fr => ⟨fr.ext0, rfl⟩)
          · obtain ⟨b33, e33, hp⟩ := bindS hp
            refine WJ.hd (v := .int .u8 ((b33.toNat : Nat) : Int)) 209 rfl rfl rfl rfl (fun ids H' fr => opD_index rfl (evV_eq _ _ _ _ _ rfl) (evV_eq _ _ _ _ _ rfl) (sidx us9 e33)) rfl ?_
            obtain ⟨⟨t34_0, t34_1⟩, e34, hp⟩ := bindS hp
            refine WJ.cl 200 (R := R_5_4 ⟨t34_0, t34_1⟩) (fun hm h k => R_5_4.mono hm h k) rfl (fun ids H' fr => f70_ok e34) ?_
            rintro v B1 ⟨abB1, ivB1⟩ rfl
            refine ⟨_, rfl, ?_⟩
            obtain ⟨b39, e39, hp⟩ := bindS hp
            refine WJ.hd (v := .int .u8 ((b39.toNat : Nat) : Int)) 209 rfl rfl rfl rfl (fun ids H' fr => opD_index rfl (evV_eq _ _ _ _ _ rfl) (evV_eq _ _ _ _ _ rfl) (sidx us9 e39)) rfl ?_
            obtain ⟨⟨t40_0, t40_1⟩, e40, hp⟩ := bindS hp
            refine WJ.cl 200 (R := R_5_4 ⟨t40_0, t40_1⟩) (fun hm h k => R_5_4.mono hm h k) rfl (fun ids H' fr => f70_ok e40) ?_
            rintro v B2 ⟨abB2, ivB2⟩ rfl
            refine ⟨_, rfl, ?_⟩
            cases t34_1
            · replace hp := (itS hp).2 Bool.false_ne_true
              obtain rfl := endS (show some _ = some r from hp)
              exact WJ.rt 222 rfl rfl rfl (fun ids H' fr => ⟨fr.ext0, rfl⟩)
            · replace hp := (itS hp).1 rfl
              cases t40_1
              · replace hp := (itS hp).2 Bool.false_ne_true
                obtain rfl := endS (show some _ = some r from hp)
                exact WJ.rt 222 rfl rfl rfl (fun ids H' fr => ⟨fr.ext0, rfl⟩)
              · replace hp := (itS hp).1 rfl
                refine WJ.hd (v := .int .u8 (gshl .u8 t34_0 4)) 221 rfl rfl rfl rfl (fun ids H' fr => opD_bin rfl (evV_eq _ _ _ _ _ rfl) (evV_eq _ _ _ _ _ rfl) (bin_shl (by decide))) rfl ?_
                obtain rfl := endS (show some _ = some r from hp)
                exact WJ.rt 205 rfl rfl rfl (fun ids H' fr => ⟨fr.ext0, rfl⟩)
/-! 37 tipstaff/row.plain -/
def f37 (x0 : Int) (x1 : Int) : Option Bool :=
  if x0 = 34 then
    some false
  else
    if x0 = 92 then
      some false
    else
      if x1 = 1 then
        if x0 ≥ 32 then
          (some (decide (x0 ≤ 126))).bind fun t19 =>
          some t19
        else
          some false
      else
        (some (decide (x0 ≥ 160))).bind fun t22 =>
        some t22
set_option maxRecDepth 20000 in
theorem f37_ok {H : Hp} {x0 : Int} {x1 : Int} {r : Bool} (hp : f37 x0 x1 = some r) :
    SCall Tryz.prog 37 [.int .i32 x0, .int .i64 x1] H (Ret fun v H' => Ext H H' ∧ R_4 r H.next H' v) := by
  unfold f37 at hp
  replace hp := topS hp
  refine SCall.g Tryz.func37 rfl rfl rfl rfl rfl (l := [(0, .v (.int .i32 x0)), (1, .v (.int .i64 x1))]) (fun _ => rfl) (fun B abB => ?_)
  refine WJ.ci 209 hp rfl rfl rfl rfl rfl rfl rfl rfl rfl (fun hc7 hp => ?_) (fun hc7 hp => ?_)
  · obtain rfl := endS (show some _ = some r from hp)
    exact WJ.rt 211 rfl rfl rfl (fun ids H' fr => ⟨fr.ext0, rfl⟩)
  · refine WJ.ci 202 hp rfl rfl rfl rfl rfl rfl rfl rfl rfl (fun hc10 hp => ?_) (fun hc10 hp => ?_)
    · obtain rfl := endS (show some _ = some r from hp)
      exact WJ.rt 208 rfl rfl rfl (fun ids H' fr => ⟨fr.ext0, rfl⟩)
    · refine WJ.ci 207 hp rfl rfl rfl rfl rfl rfl rfl rfl rfl (fun hc14 hp => ?_) (fun hc14 hp => ?_)
      · refine WJ.ci 206 hp rfl rfl rfl rfl rfl rfl rfl rfl rfl (fun hc16 hp => ?_) (fun hc16 hp => ?_)
        · obtain ⟨t19, e19, hp⟩ := bindS hp
          refine WJ.cv 202 (b := t19) (H0 := ⟨.nil, 0, 0⟩) rfl rfl rfl rfl rfl rfl (by rw [← endS e19]; exact rfl) rfl ?_
          obtain rfl := endS (show some _ = some r from hp)
          exact WJ.rt 203 rfl rfl rfl (fun ids H' fr => ⟨fr.ext0, rfl⟩)
        · obtain rfl := endS (show some _ = some r from hp)
          exact WJ.rt 206 rfl rfl rfl (fun ids H' fr => ⟨fr.ext0, rfl⟩)
      · obtain ⟨t22, e22, hp⟩ := bindS hp
        refine WJ.cv 208 (b := t22) (H0 := ⟨.nil, 0, 0⟩) rfl rfl rfl rfl rfl rfl (by rw [← endS e22]; exact rfl) rfl ?_
        obtain rfl := endS (show some _ = some r from hp)
        exact WJ.rt 202 rfl rfl rfl (fun ids H' fr => ⟨fr.ext0, rfl⟩)
/-! 31 tipstaff/row.unquote -/
def f31_l1 (x0 : List UInt8) : Nat → (List UInt8) → Int → Option (((List UInt8) × Int) ⊕ ((List UInt8)))
  | 0, _, _ => none
  | n + 1, l1_h3, x5_h3 =>
    if x5_h3 < (x0.length : Int) then
      (sub x0 x5_h3 (x0.length : Int)).bind fun s24u1 =>
      (f35 s24u1).bind fun (t25u1_0, t25u1_1) =>
      if t25u1_0 = 34 then
        (apd 1 l1_h3 ([] : List UInt8)).bind fun lB31u1 =>
        some (Sum.inl ((l1_h3, IntKind.i64.wrap (x5_h3 + 1)) : (List UInt8) × Int))
      else
        if t25u1_0 = 92 then
          (sub x0 (IntKind.i64.wrap (x5_h3 + 1)) (x0.length : Int)).bind fun s41u1 =>
          (f56 s41u1).bind fun (t42u1_0, t42u1_1) =>
          if t42u1_1 = 0 then
            some (Sum.inr l1_h3)
          else
            (c8 t42u1_0).bind fun uB48u1 =>
            (apd 1 l1_h3 ([uB48u1])).bind fun lB48u1 =>
            f31_l1 x0 n lB48u1 (IntKind.i64.wrap (x5_h3 + (IntKind.i64.wrap (1 + t42u1_1))))
        else
          (f37 t25u1_0 t25u1_1).bind fun t56 =>
          if t56 then
            (sub x0 x5_h3 (IntKind.i64.wrap (x5_h3 + t25u1_1))).bind fun s63 =>
            (apd 1 l1_h3 s63).bind fun lB64 =>
            f31_l1 x0 n lB64 (IntKind.i64.wrap (x5_h3 + t25u1_1))
          else
            some (Sum.inr l1_h3)
    else
      some (Sum.inr l1_h3)

def f31 (k : Nat) (x0 : List UInt8) : Option ((List UInt8) × Int) :=
  if x0 = ([] : List UInt8) then
    some (([] : List UInt8), 0)
  else
    (rd x0 0).bind fun b14 =>
    if ((b14.toNat : Nat) : Int) = 34 then
      (f31_l1 x0 k ([]) 1).bind fun s => match s with
        | .inl st => some st
        | .inr l1_3 => 
          some (([] : List UInt8), 0)
    else
      some (([] : List UInt8), 0)
set_option maxHeartbeats 3200000 in
set_option maxRecDepth 20000 in
theorem f31_ok {k : Nat} {H : Hp} {x0 : List UInt8} {r : (List UInt8) × Int} (hp : f31 k x0 = some r) :
    SCall Tryz.prog 31 [.string (bs x0)] H (Ret fun v H' => Ext H H' ∧ R_9_3 r H.next H' v) := by
  unfold f31 at hp
  replace hp := topS hp
  refine SCall.g Tryz.func31 rfl rfl rfl rfl rfl (l := [(0, .v (.string (bs x0)))]) (fun _ => rfl) (fun B abB => ?_)
  refine WJ.nb (U := 5) 208 rfl rfl rfl rfl rfl bzero bis rfl rfl ?_
  intro bw4
  refine ⟨_, rfl, ?_⟩
  refine WJ.ci 205 hp rfl rfl rfl rfl rfl rfl (opD_streq rfl rfl rfl) rfl rfl (fun hc11 hp => ?_) (fun hc11 hp => ?_)
  · obtain rfl := endS (show some _ = some r from hp)
    exact WJ.rt 212 rfl rfl rfl (fun ids H' fr => ⟨fr.ext0, rfl⟩)
  · obtain ⟨b14, e14, hp⟩ := bindS hp
    refine WJ.hd (v := .int .u8 ((b14.toNat : Nat) : Int)) 202 rfl rfl rfl rfl (fun ids H' fr => opD_index rfl (evV_eq _ _ _ _ _ rfl) (evV_eq _ _ _ _ _ rfl) (sidx us9 e14)) rfl ?_
    refine WJ.cn 200 hp rfl rfl rfl rfl rfl rfl rfl rfl rfl (fun hc15 hp => ?_) (fun hc15 hp => ?_)
    · obtain rfl := endS (show some _ = some r from hp)
      exact WJ.rt 208 rfl rfl rfl (fun ids H' fr => ⟨fr.ext0, rfl⟩)
    · refine WJ.adv 12 rfl ?_
      obtain ⟨K3, hK3, hp⟩ : ∃ K, K = _ ∧ Option.bind _ K = some r := ⟨_, rfl, cutS hp⟩
      refine WJ.cut 2 (α := (List UInt8) × (Option Addr) × Nat × Hp) (fun y => []) (fun y => []) (fun y => [bldS 63 bw4 y.2.1 y.1, bldB 5 y.2.1 y.1]) (fun y => y.2.2.2) (fun y => K3 (Sum.inr y.1) = some r) ?_ (fun j3 => ?_)
      · rintro ⟨l1_3, a1_3, c1_3, B5⟩ hp
        subst hK3
        show WJ _ _ _ B5 [bldS 63 bw4 a1_3 l1_3, bldB 5 a1_3 l1_3] _ _ ⟨[], [], true, 0⟩
        obtain rfl := endS (show some _ = some r from hp)
        exact WJ.rt 205 rfl rfl rfl (fun ids H' fr => ⟨fr.ext0, rfl⟩)
      · refine WJ.lp 200 (α := Nat × (List UInt8) × Int × (Option Addr) × Nat × Hp) (fun y => [(0, .v (.string (bs x0))), (4, .v (.pointer (some ⟨bw4, 0, none⟩))), (5, .v (.int .i64 y.2.2.1))]) (fun y => []) (fun y => [bldS 63 bw4 y.2.2.2.1 y.2.1, bldB 5 y.2.2.2.1 y.2.1]) (fun y => y.2.2.2.2.2) (fun y => y.1) (fun y => Option.bind (f31_l1 x0 y.1 y.2.1 y.2.2.1) K3 = some r) (k, ([] : List UInt8), 1, none, 0, B) rfl hp (by exact ⟨rfl, rfl, rfl, trivial⟩) rfl rfl rfl ?_
        rintro ⟨n, l1_h3, x5_h3, a1_h3, c1_h3, B1⟩ hp ih3
        show WJ _ _ _ B1 [bldS 63 bw4 a1_h3 l1_h3, bldB 5 a1_h3 l1_h3] _ _ ⟨[(0, .v (.string (bs x0))), (4, .v (.pointer (some ⟨bw4, 0, none⟩))), (5, .v (.int .i64 x5_h3))], [], true, 0⟩
        replace hp : Option.bind (f31_l1 x0 n l1_h3 x5_h3) K3 = some r := hp
        cases n with
        | zero => rw [f31_l1] at hp; exact (noS hp).elim
        | succ n =>
          rw [f31_l1] at hp
          refine WJ.ci 206 hp rfl rfl rfl rfl rfl rfl rfl rfl rfl (fun hc20u1 hp => ?_) (fun hc20u1 hp => ?_)
          · obtain ⟨s24u1, e24u1, hp⟩ := bindS hp
            refine WJ.hd (v := .string (bs s24u1)) 208 rfl rfl rfl rfl (fun ids H' fr => opD_sl rfl (evV_eq _ _ _ _ _ rfl) (evV_eq _ _ _ _ _ rfl) (sliceD_l us9 e24u1)) rfl ?_
            obtain ⟨⟨t25u1_0, t25u1_1⟩, e25u1, hp⟩ := bindS hp
            refine WJ.cl 200 (R := R_21_3 ⟨t25u1_0, t25u1_1⟩) (fun hm h k => R_21_3.mono hm h k) rfl (fun ids H' fr => f35_ok e25u1) ?_
            rintro v B2 ⟨abB2, ivB2⟩ rfl
            refine ⟨_, rfl, ?_⟩
            refine WJ.ci 211 hp rfl rfl rfl rfl rfl rfl rfl rfl rfl (fun hc30u1 hp => ?_) (fun hc30u1 hp => ?_)
            · obtain ⟨lB31u1, eB31u1, hp⟩ := bindS hp
              obtain ⟨bdB31u1, rfl⟩ := apd_some eB31u1
              refine WJ.bg 205 0 rfl st_ok (fun _ => rfl) rfl rfl rfl (by simpa using bdB31u1) ?_
              refine ⟨_, rfl, ?_⟩
              subst hK3
              obtain rfl := endS (show some _ = some r from hp)
              exact WJ.rt 205 rfl rfl rfl (fun ids H' fr => ⟨fr.ext0, rfl⟩)
            · refine WJ.ci 206 hp rfl rfl rfl rfl rfl rfl rfl rfl rfl (fun hc36u1 hp => ?_) (fun hc36u1 hp => ?_)
              · obtain ⟨s41u1, e41u1, hp⟩ := bindS hp
                refine WJ.hd (v := .string (bs s41u1)) 208 rfl rfl rfl rfl (fun ids H' fr => opD_sl rfl (evV_eq _ _ _ _ _ rfl) (evV_eq _ _ _ _ _ rfl) (sliceD_l us9 e41u1)) rfl ?_
                obtain ⟨⟨t42u1_0, t42u1_1⟩, e42u1, hp⟩ := bindS hp
                refine WJ.cl 200 (R := R_5_3 ⟨t42u1_0, t42u1_1⟩) (fun hm h k => R_5_3.mono hm h k) rfl (fun ids H' fr => f56_ok e42u1) ?_
                rintro v B3 ⟨abB3, ivB3⟩ rfl
                refine ⟨_, rfl, ?_⟩
                refine WJ.ci 210 hp rfl rfl rfl rfl rfl rfl rfl rfl rfl (fun hc46u1 hp => ?_) (fun hc46u1 hp => ?_)
                · exact WJ.goto 3 (j3 (l1_h3, a1_h3, 0, B3) hp) rfl rfl (by exact trivial) rfl rfl rfl
                · obtain ⟨uB48u1, euB48u1, hp⟩ := bindS hp
                  obtain ⟨lB48u1, eB48u1, hp⟩ := bindS hp
                  obtain ⟨bdB48u1, rfl⟩ := apd_some eB48u1
                  refine WJ.bw 206 (s := [uB48u1]) 0 rfl (wb_ok euB48u1) (fun _ => rfl) rfl rfl rfl bdB48u1 ?_
                  intro aB48u1
                  refine ⟨_, rfl, ?_⟩
                  exact WJ.ag 210 rfl (by exact ⟨rfl, rfl, rfl, trivial⟩) rfl rfl rfl (ih3 (n, (l1_h3 ++ ([uB48u1])), IntKind.i64.wrap (x5_h3 + (IntKind.i64.wrap (1 + t42u1_1))), aB48u1, 0, B3) hp (Nat.lt_succ_self _))
              · obtain ⟨t56, e56, hp⟩ := bindS hp
                refine WJ.cl 207 (R := R_4 t56) (fun hm h k => R_4.mono hm h k) rfl (fun ids H' fr => f37_ok e56) ?_
                rintro v B4 ⟨abB4, ivB4⟩ rfl
                refine ⟨_, rfl, ?_⟩
                cases t56
                · replace hp := (itS hp).2 Bool.false_ne_true
                  exact WJ.goto 5 (j3 (l1_h3, a1_h3, 0, B4) hp) rfl rfl (by exact trivial) rfl rfl rfl
                · replace hp := (itS hp).1 rfl
                  obtain ⟨s63, e63, hp⟩ := bindS hp
                  refine WJ.hd (v := .string (bs s63)) 213 rfl rfl rfl rfl (fun ids H' fr => opD_slh rfl (evV_eq _ _ _ _ _ rfl) (evV_eq _ _ _ _ _ rfl) (evV_eq _ _ _ _ _ rfl) (sliceD_lh us9 e63)) rfl ?_
                  obtain ⟨lB64, eB64, hp⟩ := bindS hp
                  obtain ⟨bdB64, rfl⟩ := apd_some eB64
                  refine WJ.bw 200 (s := s63) 0 rfl (ws_ok s63) (fun _ => rfl) rfl rfl rfl bdB64 ?_
                  intro aB64
                  refine ⟨_, rfl, ?_⟩
                  exact WJ.ag 208 rfl (by exact ⟨rfl, rfl, rfl, trivial⟩) rfl rfl rfl (ih3 (n, (l1_h3 ++ s63), IntKind.i64.wrap (x5_h3 + t25u1_1), aB64, 0, B4) hp (Nat.lt_succ_self _))
          · exact WJ.goto 3 (j3 (l1_h3, a1_h3, 0, B1) hp) rfl rfl (by exact trivial) rfl rfl rfl
/-! 12 tipstaff/row.Unquote -/
def f12 (k : Nat) (x0 : List UInt8) : Option ((List UInt8) × Int) :=
  (f31 k x0).bind fun (t8_0, t8_1) =>
  if t8_1 = 0 then
    some (([] : List UInt8), 3)
  else
    if t8_1 = (x0.length : Int) then
      some (t8_0, 0)
    else
      some (([] : List UInt8), 3)
set_option maxRecDepth 20000 in
theorem f12_ok {k : Nat} {H : Hp} {x0 : List UInt8} {r : (List UInt8) × Int} (hp : f12 k x0 = some r) :
    SCall Tryz.prog 12 [.string (bs x0)] H (Ret fun v H' => Ext H H' ∧ R_9_24 r H.next H' v) := by
  unfold f12 at hp
  replace hp := topS hp
  refine SCall.g Tryz.func12 rfl rfl rfl rfl rfl (l := [(0, .v (.string (bs x0)))]) (fun _ => rfl) (fun B abB => ?_)
  obtain ⟨⟨t8_0, t8_1⟩, e8, hp⟩ := bindS hp
  refine WJ.cl 208 (R := R_9_3 ⟨t8_0, t8_1⟩) (fun hm h k => R_9_3.mono hm h k) rfl (fun ids H' fr => f31_ok e8) ?_
  rintro v B1 ⟨abB1, ivB1⟩ rfl
  refine ⟨_, rfl, ?_⟩
  refine WJ.ci 210 hp rfl rfl rfl rfl rfl rfl rfl rfl rfl (fun hc12 hp => ?_) (fun hc12 hp => ?_)
  · obtain rfl := endS (show some _ = some r from hp)
    exact WJ.rt 213 rfl rfl rfl (fun ids H' fr => ⟨fr.ext0, rfl⟩)
  · refine WJ.cn 204 hp rfl rfl rfl rfl rfl rfl rfl rfl rfl (fun hc17 hp => ?_) (fun hc17 hp => ?_)
    · obtain rfl := endS (show some _ = some r from hp)
      exact WJ.rt 208 rfl rfl rfl (fun ids H' fr => ⟨fr.ext0, rfl⟩)
    · obtain rfl := endS (show some _ = some r from hp)
      exact WJ.rt 210 rfl rfl rfl (fun ids H' fr => ⟨fr.ext0, rfl⟩)
/-! 40 tipstaff/tipstaffref03.long -/
def f40_l1 (x0 : List UInt8) : Nat → Nat → Option ((Int) ⊕ (Unit))
  | 0, _ => none
  | n + 1, p0_h4 =>
    if p0_h4 < x0.length then
      (some (encR (decL x0 p0_h4))).bind fun s12 =>
      (if (decL x0 p0_h4) ≥ 160 then
        if (s12.length : Int) ≤ (x0.length : Int) then
          (sub x0 0 (s12.length : Int)).bind fun s25 =>
          (some (encR (decL x0 p0_h4))).bind fun s27 =>
          if s25 = s27 then
            some (Sum.inl ((s12.length : Int) : Int))
          else
            some (Sum.inr ())
        else
          some (Sum.inr ())
      else
        some (Sum.inr ())).bind fun s => match s with
        | .inl st => some (Sum.inl st)
        | .inr _ => 
          some (Sum.inl (0 : Int))
    else
      some (Sum.inr ())

def f40 (k : Nat) (x0 : List UInt8) : Option Int :=
  (f40_l1 x0 k 0).bind fun s => match s with
    | .inl st => some st
    | .inr _ => 
      some 0
set_option maxHeartbeats 3200000 in
set_option maxRecDepth 20000 in
theorem f40_ok {k : Nat} {H : Hp} {x0 : List UInt8} {r : Int} (hp : f40 k x0 = some r) :
    SCall Tryz.prog 40 [.string (bs x0)] H (Ret fun v H' => Ext H H' ∧ R_3 r H.next H' v) := by
  unfold f40 at hp
  replace hp := topS hp
  refine SCall.g Tryz.func40 rfl rfl rfl rfl rfl (l := [(0, .v (.string (bs x0)))]) (fun _ => rfl) (fun B abB => ?_)
  refine WJ.rg 208 rfl rfl rfl rfl rfl us9 rfl ?_
  rintro b7 B1 ⟨abB1, ivB1⟩ h07 it7
  refine ⟨_, rfl, ?_⟩
  refine WJ.adv 2 rfl ?_
  obtain ⟨K4, hK4, hp⟩ : ∃ K, K = _ ∧ Option.bind _ K = some r := ⟨_, rfl, cutS hp⟩
  refine WJ.cut 2 (α := Hp) (fun y => []) (fun y => []) (fun y => []) (fun y => y) (fun y => K4 (Sum.inr ()) = some r) ?_ (fun j4 => ?_)
  · rintro B4 hp
    subst hK4
    show WJ _ _ _ B4 [] _ _ ⟨[], [], true, 0⟩
    obtain rfl := endS (show some _ = some r from hp)
    exact WJ.rt 204 rfl rfl rfl (fun ids H' fr => ⟨fr.ext0, rfl⟩)
  · refine WJ.lp 200 (α := Nat × Nat × Hp) (fun y => [(0, .v (.string (bs x0))), (7, .v (.pointer (some ⟨b7, 0, none⟩)))]) (fun y => []) (fun y => []) (fun y => y.2.2) (fun y => y.1) (fun y => Option.bind (f40_l1 x0 y.1 y.2.1) K4 = some r ∧ y.2.2.get b7 = some (.iter (bs x0) y.2.1)) (k, 0, B1) rfl ⟨hp, it7⟩ (by exact ⟨rfl, rfl, trivial⟩) rfl rfl rfl ?_
    rintro ⟨n, p0_h4, B2⟩ ⟨hp, it7⟩ ih4
    show WJ _ _ _ B2 [] _ _ ⟨[(0, .v (.string (bs x0))), (7, .v (.pointer (some ⟨b7, 0, none⟩)))], [], true, 0⟩
    replace hp : Option.bind (f40_l1 x0 n p0_h4) K4 = some r := hp
    cases n with
    | zero => rw [f40_l1] at hp; exact (noS hp).elim
    | succ n =>
      rw [f40_l1] at hp
      refine WJ.nx 202 hp rfl rfl rfl rfl rfl rfl it7 h07 rfl rfl (fun hp B3 abB3 neB3 it_new => ?_) (fun hp => ?_)
      · replace it7 := it_new
        obtain ⟨s12, e12, hp⟩ := bindS hp
        refine WJ.adv 15 rfl ?_
        rw [enc_eq, Option.some.inj e12]
        refine WJ.adv 5 rfl ?_
        obtain ⟨K5, hK5, hp⟩ : ∃ K, K = _ ∧ Option.bind _ K = some r := ⟨_, rfl, cutS hp⟩
        refine WJ.cut 2 (α := Unit) (fun y => []) (fun y => []) (fun y => []) (fun y => B3) (fun y => K5 ((Sum.inr ())) = some r) ?_ (fun j5 => ?_)
        · rintro u hp
          subst hK5
          show WJ _ _ _ B3 [] _ _ ⟨[], [], true, 0⟩
          subst hK4
          obtain rfl := endS (show some _ = some r from hp)
          exact WJ.rt 204 rfl rfl rfl (fun ids H' fr => ⟨fr.ext0, rfl⟩)
        · refine WJ.ci 202 hp rfl rfl rfl rfl rfl rfl rfl rfl rfl (fun hc15 hp => ?_) (fun hc15 hp => ?_)
          · refine WJ.ci 204 hp rfl rfl rfl rfl rfl rfl rfl rfl rfl (fun hc20 hp => ?_) (fun hc20 hp => ?_)
            · obtain ⟨s25, e25, hp⟩ := bindS hp
              refine WJ.hd (v := .string (bs s25)) 204 rfl rfl rfl rfl (fun ids H' fr => opD_sh rfl (evV_eq _ _ _ _ _ rfl) (evV_eq _ _ _ _ _ rfl) (sliceD_h us9 e25)) rfl ?_
              obtain ⟨s27, e27, hp⟩ := bindS hp
              refine WJ.adv 2 rfl ?_
              rw [enc_eq, Option.some.inj e27]
              refine WJ.ci 200 hp rfl rfl rfl rfl rfl rfl (opD_streq rfl rfl rfl) rfl rfl (fun hc28 hp => ?_) (fun hc28 hp => ?_)
              · subst hK5
                subst hK4
                obtain rfl := endS (show some _ = some r from hp)
                exact WJ.rt 208 rfl rfl rfl (fun ids H' fr => ⟨fr.ext0, rfl⟩)
              · exact WJ.goto 4 (j5 () hp) rfl rfl (by exact trivial) rfl rfl rfl
            · exact WJ.goto 12 (j5 () hp) rfl rfl (by exact trivial) rfl rfl rfl
          · exact WJ.goto 17 (j5 () hp) rfl rfl (by exact trivial) rfl rfl rfl
      · exact WJ.goto 5 (j4 B2 hp) rfl rfl (by exact trivial) rfl rfl rfl
/-! 41 tipstaff/tipstaffref03.plain -/
def f41 (x0 : Int) : Option Bool :=
  if x0 ≥ 32 then
    if x0 ≤ 126 then
      if x0 = 34 then
        some false
      else
        (some (x0 != 92)).bind fun t15 =>
        some t15
    else
      some false
  else
    some false
set_option maxRecDepth 20000 in
theorem f41_ok {H : Hp} {x0 : Int} {r : Bool} (hp : f41 x0 = some r) :
    SCall Tryz.prog 41 [.int .u8 x0] H (Ret fun v H' => Ext H H' ∧ R_4 r H.next H' v) := by
  unfold f41 at hp
  replace hp := topS hp
  refine SCall.g Tryz.func41 rfl rfl rfl rfl rfl (l := [(0, .v (.int .u8 x0))]) (fun _ => rfl) (fun B abB => ?_)
  refine WJ.ci 207 hp rfl rfl rfl rfl rfl rfl rfl rfl rfl (fun hc4 hp => ?_) (fun hc4 hp => ?_)
  · refine WJ.ci 202 hp rfl rfl rfl rfl rfl rfl rfl rfl rfl (fun hc7 hp => ?_) (fun hc7 hp => ?_)
    · refine WJ.cn 203 hp rfl rfl rfl rfl rfl rfl rfl rfl rfl (fun hc11 hp => ?_) (fun hc11 hp => ?_)
      · obtain ⟨t15, e15, hp⟩ := bindS hp
        refine WJ.cv 203 (b := t15) (H0 := ⟨.nil, 0, 0⟩) rfl rfl rfl rfl rfl rfl (by rw [← endS e15]; exact rfl) rfl ?_
        obtain rfl := endS (show some _ = some r from hp)
        exact WJ.rt 203 rfl rfl rfl (fun ids H' fr => ⟨fr.ext0, rfl⟩)
      · obtain rfl := endS (show some _ = some r from hp)
        exact WJ.rt 207 rfl rfl rfl (fun ids H' fr => ⟨fr.ext0, rfl⟩)
    · obtain rfl := endS (show some _ = some r from hp)
      exact WJ.rt 211 rfl rfl rfl (fun ids H' fr => ⟨fr.ext0, rfl⟩)
  · obtain rfl := endS (show some _ = some r from hp)
    exact WJ.rt 214 rfl rfl rfl (fun ids H' fr => ⟨fr.ext0, rfl⟩)
/-! 57 tipstaff/tipstaffref03.value -/
def f57_l1 (x0_6 : Int) : Nat → Int → Option ((Int) ⊕ (Unit))
  | 0, _ => none
  | n + 1, x3 =>
    if x3 < 16 then
      (rd ([48, 49, 50, 51, 52, 53, 54, 55, 56, 57, 97, 98, 99, 100, 101, 102] : List UInt8) x3).bind fun b18 =>
      if ((b18.toNat : Nat) : Int) = x0_6 then
        some (Sum.inl (x3 : Int))
      else
        f57_l1 x0_6 n (IntKind.i64.wrap (x3 + 1))
    else
      some (Sum.inr ())

def f57 (k : Nat) (x0 : Int) : Option Int :=
  (if x0 ≥ 65 then
    if x0 ≤ 70 then
      some ((IntKind.u8.wrap ((IntKind.u8.wrap (x0 - 65)) + 97)))
    else
      some (x0)
  else
    some (x0)).bind fun x0_6 =>
    (f57_l1 x0_6 k 0).bind fun s => match s with
      | .inl st => some st
      | .inr _ => 
        some (-1)
set_option maxRecDepth 20000 in
theorem f57_ok {k : Nat} {H : Hp} {x0 : Int} {r : Int} (hp : f57 k x0 = some r) :
    SCall Tryz.prog 57 [.int .u8 x0] H (Ret fun v H' => Ext H H' ∧ R_3 r H.next H' v) := by
  unfold f57 at hp
  replace hp := topS hp
  refine SCall.g Tryz.func57 rfl rfl rfl rfl rfl (l := [(0, .v (.int .u8 x0))]) (fun _ => rfl) (fun B abB => ?_)
  refine WJ.adv 6 rfl ?_
  obtain ⟨K6, hK6, hp⟩ : ∃ K, K = _ ∧ Option.bind _ K = some r := ⟨_, rfl, cutS hp⟩
  refine WJ.cut 2 (α := Int) (fun y => [(0, .v (.int .u8 y))]) (fun y => []) (fun y => []) (fun y => B) (fun y => K6 ((y)) = some r) ?_ (fun j6 => ?_)
  · rintro x0_6 hp
    subst hK6
    show WJ _ _ _ B [] _ _ ⟨[(0, .v (.int .u8 x0_6))], [], true, 0⟩
    refine WJ.adv 6 rfl ?_
    obtain ⟨K7, hK7, hp⟩ : ∃ K, K = _ ∧ Option.bind _ K = some r := ⟨_, rfl, cutS hp⟩
    refine WJ.cut 2 (α := Unit) (fun y => []) (fun y => []) (fun y => []) (fun y => B) (fun y => K7 (Sum.inr ()) = some r) ?_ (fun j7 => ?_)
    · rintro u hp
      subst hK7
      show WJ _ _ _ B [] _ _ ⟨[], [], true, 0⟩
      obtain rfl := endS (show some _ = some r from hp)
      exact WJ.rt 204 rfl rfl rfl (fun ids H' fr => ⟨fr.ext0, rfl⟩)
    · refine WJ.lp 200 (α := Nat × Int) (fun y => [(0, .v (.int .u8 x0_6)), (3, .v (.int .i64 y.2))]) (fun y => []) (fun y => []) (fun y => B) (fun y => y.1) (fun y => Option.bind (f57_l1 x0_6 y.1 y.2) K7 = some r) (k, 0) rfl hp (by exact ⟨rfl, rfl, trivial⟩) rfl rfl rfl ?_
      rintro ⟨n, x3⟩ hp ih7
      show WJ _ _ _ B [] _ _ ⟨[(0, .v (.int .u8 x0_6)), (3, .v (.int .i64 x3))], [], true, 0⟩
      replace hp : Option.bind (f57_l1 x0_6 n x3) K7 = some r := hp
      cases n with
      | zero => rw [f57_l1] at hp; exact (noS hp).elim
      | succ n =>
        rw [f57_l1] at hp
        refine WJ.ci 204 hp rfl rfl rfl rfl rfl rfl rfl rfl rfl (fun hc14 hp => ?_) (fun hc14 hp => ?_)
        · obtain ⟨b18, e18, hp⟩ := bindS hp
          refine WJ.hd (v := .int .u8 ((b18.toNat : Nat) : Int)) 208 rfl rfl rfl rfl (fun ids H' fr => opD_index rfl (evV_eq _ _ _ _ _ rfl) (evV_eq _ _ _ _ _ rfl) (sidx us9 e18)) rfl ?_
          refine WJ.ci 201 hp rfl rfl rfl rfl rfl rfl rfl rfl rfl (fun hc20 hp => ?_) (fun hc20 hp => ?_)
          · subst hK7
            obtain rfl := endS (show some _ = some r from hp)
            exact WJ.rt 207 rfl rfl rfl (fun ids H' fr => ⟨fr.ext0, rfl⟩)
          · exact WJ.ag 209 rfl (by exact ⟨rfl, rfl, trivial⟩) rfl rfl rfl (ih7 (n, IntKind.i64.wrap (x3 + 1)) hp (Nat.lt_succ_self _))
        · exact WJ.goto 3 (j7 () hp) rfl rfl (by exact trivial) rfl rfl rfl
  · refine WJ.ci 202 hp rfl rfl rfl rfl rfl rfl rfl rfl rfl (fun hc5 hp => ?_) (fun hc5 hp => ?_)
    · refine WJ.ci 202 hp rfl rfl rfl rfl rfl rfl rfl rfl rfl (fun hc8 hp => ?_) (fun hc8 hp => ?_)
      · exact WJ.goto 9 (j6 (IntKind.u8.wrap ((IntKind.u8.wrap (x0 - 65)) + 97)) hp) rfl rfl (by exact ⟨rfl, trivial⟩) rfl rfl rfl
      · exact WJ.goto 4 (j6 x0 hp) rfl rfl (by exact ⟨rfl, trivial⟩) rfl rfl rfl
    · exact WJ.goto 7 (j6 x0 hp) rfl rfl (by exact ⟨rfl, trivial⟩) rfl rfl rfl
/-! 32 tipstaff/tipstaffref03.quoted -/
def f32_l1 (k : Nat) (x0 : List UInt8) : Nat → (List UInt8) → Int → Option (((List UInt8) × Int) ⊕ (Unit))
  | 0, _, _ => none
  | n + 1, x4, x5 =>
    if x5 < (x0.length : Int) then
      (sub x0 x5 (x0.length : Int)).bind fun s13 =>
      (f40 k s13).bind fun t14 =>
      (rd x0 x5).bind fun b37 =>
      if ((b37.toNat : Nat) : Int) = 34 then
        some (Sum.inl ((x4, IntKind.i64.wrap (x5 + 1)) : (List UInt8) × Int))
      else
        if t14 > 0 then
          (sub x0 x5 (IntKind.i64.wrap (x5 + t14))).bind fun s51 =>
          (scat x4 s51).bind fun s52 =>
          f32_l1 k x0 n s52 (IntKind.i64.wrap (x5 + t14))
        else
          (rd x0 x5).bind fun b59 =>
          (f41 ((b59.toNat : Nat) : Int)).bind fun t60 =>
          if t60 then
            (sub x0 x5 (IntKind.i64.wrap (x5 + 1))).bind fun s66 =>
            (scat x4 s66).bind fun s67 =>
            f32_l1 k x0 n s67 (IntKind.i64.wrap (x5 + 1))
          else
            (rd x0 x5).bind fun b73 =>
            if ((b73.toNat : Nat) : Int) = 92 then
              if (IntKind.i64.wrap (x5 + 1)) = (x0.length : Int) then
                some (Sum.inl ((([] : List UInt8), 0) : (List UInt8) × Int))
              else
                (rd x0 (IntKind.i64.wrap (x5 + 1))).bind fun b86 =>
                if ((b86.toNat : Nat) : Int) = 34 then
                  (sub x0 (IntKind.i64.wrap (x5 + 1)) (IntKind.i64.wrap (x5 + 2))).bind fun s101 =>
                  (scat x4 s101).bind fun s102 =>
                  f32_l1 k x0 n s102 (IntKind.i64.wrap (x5 + 2))
                else
                  (rd x0 (IntKind.i64.wrap (x5 + 1))).bind fun b92 =>
                  if ((b92.toNat : Nat) : Int) = 92 then
                    (sub x0 (IntKind.i64.wrap (x5 + 1)) (IntKind.i64.wrap (x5 + 2))).bind fun s101 =>
                    (scat x4 s101).bind fun s102 =>
                    f32_l1 k x0 n s102 (IntKind.i64.wrap (x5 + 2))
                  else
                    (rd x0 (IntKind.i64.wrap (x5 + 1))).bind fun b109 =>
                    if ((b109.toNat : Nat) : Int) = 120 then
                      if (IntKind.i64.wrap (x5 + 3)) ≥ (x0.length : Int) then
                        some (Sum.inl ((([] : List UInt8), 0) : (List UInt8) × Int))
                      else
                        (rd x0 (IntKind.i64.wrap (x5 + 2))).bind fun b122 =>
                        (f57 k ((b122.toNat : Nat) : Int)).bind fun t123 =>
                        if t123 < 0 then
                          some (Sum.inl ((([] : List UInt8), 0) : (List UInt8) × Int))
                        else
                          (rd x0 (IntKind.i64.wrap (x5 + 3))).bind fun b130 =>
                          (f57 k ((b130.toNat : Nat) : Int)).bind fun t131 =>
                          if t131 < 0 then
                            some (Sum.inl ((([] : List UInt8), 0) : (List UInt8) × Int))
                          else
                            (rd x0 (IntKind.i64.wrap (x5 + 2))).bind fun b19 =>
                            (f57 k ((b19.toNat : Nat) : Int)).bind fun t20 =>
                            (rd x0 (IntKind.i64.wrap (x5 + 3))).bind fun b25 =>
                            (f57 k ((b25.toNat : Nat) : Int)).bind fun t26 =>
                            (scat x4 (b8 ([IntKind.u8.wrap (IntKind.i64.wrap ((IntKind.i64.wrap (16 * t20)) + t26))]))).bind fun s31 =>
                            f32_l1 k x0 n s31 (IntKind.i64.wrap (x5 + 4))
                    else
                      some (Sum.inl ((([] : List UInt8), 0) : (List UInt8) × Int))
            else
              some (Sum.inl ((([] : List UInt8), 0) : (List UInt8) × Int))
    else
      some (Sum.inr ())

def f32 (k : Nat) (x0 : List UInt8) : Option ((List UInt8) × Int) :=
  (f32_l1 k x0 k ([] : List UInt8) 1).bind fun s => match s with
    | .inl st => some st
    | .inr _ => 
      some (([] : List UInt8), 0)
set_option maxRecDepth 20000 in
theorem f32_ok {k : Nat} {H : Hp} {x0 : List UInt8} {r : (List UInt8) × Int} (hp : f32 k x0 = some r) :
    SCall Tryz.prog 32 [.string (bs x0)] H (Ret fun v H' => Ext H H' ∧ R_9_3 r H.next H' v) := by
  unfold f32 at hp
  replace hp := topS hp
  refine SCall.g Tryz.func32 rfl rfl rfl rfl rfl (l := [(0, .v (.string (bs x0)))]) (fun _ => rfl) (fun B abB => ?_)
  refine WJ.adv 15 rfl ?_
  obtain ⟨K8, hK8, hp⟩ : ∃ K, K = _ ∧ Option.bind _ K = some r := ⟨_, rfl, cutS hp⟩
  refine WJ.cut 2 (α := Hp) (fun y => []) (fun y => []) (fun y => []) (fun y => y) (fun y => K8 (Sum.inr ()) = some r) ?_ (fun j8 => ?_)
  · rintro B8 hp
    subst hK8
    show WJ _ _ _ B8 [] _ _ ⟨[], [], true, 0⟩
    obtain rfl := endS (show some _ = some r from hp)
    exact WJ.rt 205 rfl rfl rfl (fun ids H' fr => ⟨fr.ext0, rfl⟩)
  · refine WJ.lp 200 (α := Nat × (List UInt8) × Int × Hp) (fun y => [(0, .v (.string (bs x0))), (4, .v (.string (bs y.2.1))), (5, .v (.int .i64 y.2.2.1))]) (fun y => []) (fun y => []) (fun y => y.2.2.2) (fun y => y.1) (fun y => Option.bind (f32_l1 k x0 y.1 y.2.1 y.2.2.1) K8 = some r) (k, ([] : List UInt8), 1, B) rfl hp (by exact ⟨rfl, rfl, rfl, trivial⟩) rfl rfl rfl ?_
    rintro ⟨n, x4, x5, B1⟩ hp ih8
    show WJ _ _ _ B1 [] _ _ ⟨[(0, .v (.string (bs x0))), (4, .v (.string (bs x4))), (5, .v (.int .i64 x5))], [], true, 0⟩
    replace hp : Option.bind (f32_l1 k x0 n x4 x5) K8 = some r := hp
    cases n with
    | zero => rw [f32_l1] at hp; exact (noS hp).elim
    | succ n =>
      rw [f32_l1] at hp
      refine WJ.ci 206 hp rfl rfl rfl rfl rfl rfl rfl rfl rfl (fun hc10 hp => ?_) (fun hc10 hp => ?_)
      · obtain ⟨s13, e13, hp⟩ := bindS hp
        refine WJ.hd (v := .string (bs s13)) 208 rfl rfl rfl rfl (fun ids H' fr => opD_sl rfl (evV_eq _ _ _ _ _ rfl) (evV_eq _ _ _ _ _ rfl) (sliceD_l us9 e13)) rfl ?_
        obtain ⟨t14, e14, hp⟩ := bindS hp
        refine WJ.cl 200 (R := R_3 t14) (fun hm h k => R_3.mono hm h k) rfl (fun ids H' fr => f40_ok e14) ?_
        rintro v B2 ⟨abB2, ivB2⟩ rfl
        refine ⟨_, rfl, ?_⟩
        obtain ⟨b37, e37, hp⟩ := bindS hp
        refine WJ.hd (v := .int .u8 ((b37.toNat : Nat) : Int)) 207 rfl rfl rfl rfl (fun ids H' fr => opD_index rfl (evV_eq _ _ _ _ _ rfl) (evV_eq _ _ _ _ _ rfl) (sidx us9 e37)) rfl ?_
        refine WJ.ci 200 hp rfl rfl rfl rfl rfl rfl rfl rfl rfl (fun hc38 hp => ?_) (fun hc38 hp => ?_)
        · subst hK8
          obtain rfl := endS (show some _ = some r from hp)
          exact WJ.rt 211 rfl rfl rfl (fun ids H' fr => ⟨fr.ext0, rfl⟩)
        · refine WJ.ci 206 hp rfl rfl rfl rfl rfl rfl rfl rfl rfl (fun hc44 hp => ?_) (fun hc44 hp => ?_)
          · obtain ⟨s51, e51, hp⟩ := bindS hp
            refine WJ.hd (v := .string (bs s51)) 211 rfl rfl rfl rfl (fun ids H' fr => opD_slh rfl (evV_eq _ _ _ _ _ rfl) (evV_eq _ _ _ _ _ rfl) (evV_eq _ _ _ _ _ rfl) (sliceD_lh us9 e51)) rfl ?_
            obtain ⟨s52, e52, hp⟩ := bindS hp
            refine WJ.hd (v := .string (bs s52)) 200 rfl rfl rfl rfl (fun ids H' fr => opD_bin rfl (evV_eq _ _ _ _ _ rfl) (evV_eq _ _ _ _ _ rfl) (bin_sadd e52)) rfl ?_
            exact WJ.ag 210 rfl (by exact ⟨rfl, rfl, rfl, trivial⟩) rfl rfl rfl (ih8 (n, s52, IntKind.i64.wrap (x5 + t14), B2) hp (Nat.lt_succ_self _))
          · obtain ⟨b59, e59, hp⟩ := bindS hp
            refine WJ.hd (v := .int .u8 ((b59.toNat : Nat) : Int)) 207 rfl rfl rfl rfl (fun ids H' fr => opD_index rfl (evV_eq _ _ _ _ _ rfl) (evV_eq _ _ _ _ _ rfl) (sidx us9 e59)) rfl ?_
            obtain ⟨t60, e60, hp⟩ := bindS hp
            refine WJ.cl 200 (R := R_4 t60) (fun hm h k => R_4.mono hm h k) rfl (fun ids H' fr => f41_ok e60) ?_
            rintro v B3 ⟨abB3, ivB3⟩ rfl
            refine ⟨_, rfl, ?_⟩
            cases t60
            · replace hp := (itS hp).2 Bool.false_ne_true
              obtain ⟨b73, e73, hp⟩ := bindS hp
              refine WJ.hd (v := .int .u8 ((b73.toNat : Nat) : Int)) 207 rfl rfl rfl rfl (fun ids H' fr => opD_index rfl (evV_eq _ _ _ _ _ rfl) (evV_eq _ _ _ _ _ rfl) (sidx us9 e73)) rfl ?_
              refine WJ.cn 200 hp rfl rfl rfl rfl rfl rfl rfl rfl rfl (fun hc74 hp => ?_) (fun hc74 hp => ?_)
              · subst hK8
                obtain rfl := endS (show some _ = some r from hp)
                exact WJ.rt 215 rfl rfl rfl (fun ids H' fr => ⟨fr.ext0, rfl⟩)
              · refine WJ.ci 205 hp rfl rfl rfl rfl rfl rfl rfl rfl rfl (fun hc80 hp => ?_) (fun hc80 hp => ?_)
                · subst hK8
                  obtain rfl := endS (show some _ = some r from hp)
                  exact WJ.rt 209 rfl rfl rfl (fun ids H' fr => ⟨fr.ext0, rfl⟩)
                · obtain ⟨b86, e86, hp⟩ := bindS hp
                  refine WJ.hd (v := .int .u8 ((b86.toNat : Nat) : Int)) 209 rfl rfl rfl rfl (fun ids H' fr => opD_index rfl (evV_eq _ _ _ _ _ rfl) (evV_eq _ _ _ _ _ rfl) (sidx us9 e86)) rfl ?_
                  refine WJ.ci 200 hp rfl rfl rfl rfl rfl rfl rfl rfl rfl (fun hc87 hp => ?_) (fun hc87 hp => ?_)
                  · obtain ⟨s101, e101, hp⟩ := bindS hp
                    refine WJ.hd (v := .string (bs s101)) 218 rfl rfl rfl rfl (fun ids H' fr => opD_slh rfl (evV_eq _ _ _ _ _ rfl) (evV_eq _ _ _ _ _ rfl) (evV_eq _ _ _ _ _ rfl) (sliceD_lh us9 e101)) rfl ?_
                    obtain ⟨s102, e102, hp⟩ := bindS hp
                    refine WJ.hd (v := .string (bs s102)) 200 rfl rfl rfl rfl (fun ids H' fr => opD_bin rfl (evV_eq _ _ _ _ _ rfl) (evV_eq _ _ _ _ _ rfl) (bin_sadd e102)) rfl ?_
                    exact WJ.ag 209 rfl (by exact ⟨rfl, rfl, rfl, trivial⟩) rfl rfl rfl (ih8 (n, s102, IntKind.i64.wrap (x5 + 2), B3) hp (Nat.lt_succ_self _))
                  · obtain ⟨b92, e92, hp⟩ := bindS hp
                    refine WJ.hd (v := .int .u8 ((b92.toNat : Nat) : Int)) 204 rfl rfl rfl rfl (fun ids H' fr => opD_index rfl (evV_eq _ _ _ _ _ rfl) (evV_eq _ _ _ _ _ rfl) (sidx us9 e92)) rfl ?_
                    refine WJ.ci 200 hp rfl rfl rfl rfl rfl rfl rfl rfl rfl (fun hc93 hp => ?_) (fun hc93 hp => ?_)
                    · obtain ⟨s101, e101, hp⟩ := bindS hp
                      refine WJ.hd (v := .string (bs s101)) 212 rfl rfl rfl rfl (fun ids H' fr => opD_slh rfl (evV_eq _ _ _ _ _ rfl) (evV_eq _ _ _ _ _ rfl) (evV_eq _ _ _ _ _ rfl) (sliceD_lh us9 e101)) rfl ?_
                      obtain ⟨s102, e102, hp⟩ := bindS hp
                      refine WJ.hd (v := .string (bs s102)) 200 rfl rfl rfl rfl (fun ids H' fr => opD_bin rfl (evV_eq _ _ _ _ _ rfl) (evV_eq _ _ _ _ _ rfl) (bin_sadd e102)) rfl ?_
                      exact WJ.ag 209 rfl (by exact ⟨rfl, rfl, rfl, trivial⟩) rfl rfl rfl (ih8 (n, s102, IntKind.i64.wrap (x5 + 2), B3) hp (Nat.lt_succ_self _))
                    · obtain ⟨b109, e109, hp⟩ := bindS hp
                      refine WJ.hd (v := .int .u8 ((b109.toNat : Nat) : Int)) 209 rfl rfl rfl rfl (fun ids H' fr => opD_index rfl (evV_eq _ _ _ _ _ rfl) (evV_eq _ _ _ _ _ rfl) (sidx us9 e109)) rfl ?_
                      refine WJ.cn 200 hp rfl rfl rfl rfl rfl rfl rfl rfl rfl (fun hc110 hp => ?_) (fun hc110 hp => ?_)
                      · subst hK8
                        obtain rfl := endS (show some _ = some r from hp)
                        exact WJ.rt 231 rfl rfl rfl (fun ids H' fr => ⟨fr.ext0, rfl⟩)
                      · refine WJ.ci 205 hp rfl rfl rfl rfl rfl rfl rfl rfl rfl (fun hc116 hp => ?_) (fun hc116 hp => ?_)
                        · subst hK8
                          obtain rfl := endS (show some _ = some r from hp)
                          exact WJ.rt 225 rfl rfl rfl (fun ids H' fr => ⟨fr.ext0, rfl⟩)
                        · obtain ⟨b122, e122, hp⟩ := bindS hp
                          refine WJ.hd (v := .int .u8 ((b122.toNat : Nat) : Int)) 205 rfl rfl rfl rfl (fun ids H' fr => opD_index rfl (evV_eq _ _ _ _ _ rfl) (evV_eq _ _ _ _ _ rfl) (sidx us9 e122)) rfl ?_
                          obtain ⟨t123, e123, hp⟩ := bindS hp
                          refine WJ.cl 200 (R := R_3 t123) (fun hm h k => R_3.mono hm h k) rfl (fun ids H' fr => f57_ok e123) ?_
                          rintro v B4 ⟨abB4, ivB4⟩ rfl
                          refine ⟨_, rfl, ?_⟩
                          refine WJ.ci 200 hp rfl rfl rfl rfl rfl rfl rfl rfl rfl (fun hc124 hp => ?_) (fun hc124 hp => ?_)
                          · subst hK8
                            obtain rfl := endS (show some _ = some r from hp)
                            exact WJ.rt 217 rfl rfl rfl (fun ids H' fr => ⟨fr.ext0, rfl⟩)
                          · obtain ⟨b130, e130, hp⟩ := bindS hp
                            refine WJ.hd (v := .int .u8 ((b130.toNat : Nat) : Int)) 205 rfl rfl rfl rfl (fun ids H' fr => opD_index rfl (evV_eq _ _ _ _ _ rfl) (evV_eq _ _ _ _ _ rfl) (sidx us9 e130)) rfl ?_
                            obtain ⟨t131, e131, hp⟩ := bindS hp
                            refine WJ.cl 200 (R := R_3 t131) (fun hm h k => R_3.mono hm h k) rfl (fun ids H' fr => f57_ok e131) ?_
                            rintro v B5 ⟨abB5, ivB5⟩ rfl
                            refine ⟨_, rfl, ?_⟩
                            refine WJ.ci 200 hp rfl rfl rfl rfl rfl rfl rfl rfl rfl (fun hc132 hp => ?_) (fun hc132 hp => ?_)
                            · subst hK8
                              obtain rfl := endS (show some _ = some r from hp)
                              exact WJ.rt 209 rfl rfl rfl (fun ids H' fr => ⟨fr.ext0, rfl⟩)
                            · refine WJ.dr 205 rfl gmix (by kernel_rfl) (by kernel_rfl) rfl ?_
                              obtain ⟨b19, e19, hp⟩ := bindS hp
                              refine WD.hd (v := .int .u8 ((b19.toNat : Nat) : Int)) rfl rfl rfl rfl (fun _ _ _ _ _ => side_no) (fun ids H' fr => opD_index rfl (evV_eq _ _ _ _ _ rfl) (evV_eq _ _ _ _ _ rfl) (sidx us9 e19)) rfl ?_
                              obtain ⟨t20, e20, hp⟩ := bindS hp
                              refine WD.cl (R := R_3 t20) (fun hm h k => R_3.mono hm h k) rfl (fun ids H' fr => f57_ok e20) ?_
                              rintro v B6 ⟨abB6, ivB6⟩ rfl
                              refine ⟨_, rfl, ?_⟩
                              obtain ⟨b25, e25, hp⟩ := bindS hp
                              refine WD.hd (v := .int .u8 ((b25.toNat : Nat) : Int)) rfl rfl rfl rfl (fun _ _ _ _ _ => side_no) (fun ids H' fr => opD_index rfl (evV_eq _ _ _ _ _ rfl) (evV_eq _ _ _ _ _ rfl) (sidx us9 e25)) rfl ?_
                              obtain ⟨t26, e26, hp⟩ := bindS hp
                              refine WD.cl (R := R_3 t26) (fun hm h k => R_3.mono hm h k) rfl (fun ids H' fr => f57_ok e26) ?_
                              rintro v B7 ⟨abB7, ivB7⟩ rfl
                              refine ⟨_, rfl, ?_⟩
                              refine WD.bs (cs := encL (kE .u8) [IntKind.u8.wrap (IntKind.i64.wrap ((IntKind.i64.wrap (16 * t20)) + t26))]) (sz := 1) (pl := [(0, .int .u8 (IntKind.u8.wrap (IntKind.i64.wrap ((IntKind.i64.wrap (16 * t20)) + t26))))]) rfl rfl rfl rfl rfl (fun _ _ => rfl) (fun _ => by rfl) rfl rfl ?_
                              intro b29
                              refine ⟨_, rfl, ?_⟩
                              refine WD.hd (v := .string (bs (b8 ([IntKind.u8.wrap (IntKind.i64.wrap ((IntKind.i64.wrap (16 * t20)) + t26))])))) rfl rfl rfl rfl (fun _ _ _ _ _ => side_no) (fun ids H' fr => opD_conv rfl (evV_eq _ _ _ _ _ rfl) (fr.convOwn (j := 0) rfl u61 us9 u8_5)) rfl ?_
                              obtain ⟨s31, e31, hp⟩ := bindS hp
                              refine WD.hd (v := .string (bs s31)) rfl rfl rfl rfl (fun _ _ _ _ _ => side_no) (fun ids H' fr => opD_bin rfl (evV_eq _ _ _ _ _ rfl) (evV_eq _ _ _ _ _ rfl) (bin_sadd e31)) rfl ?_
                              refine WD.done rfl ?_
                              exact WJ.ag 207 rfl (by exact ⟨rfl, rfl, rfl, trivial⟩) rfl rfl rfl (ih8 (n, s31, IntKind.i64.wrap (x5 + 4), B7) hp (Nat.lt_succ_self _))
            · replace hp := (itS hp).1 rfl
              obtain ⟨s66, e66, hp⟩ := bindS hp
              refine WJ.hd (v := .string (bs s66)) 210 rfl rfl rfl rfl (fun ids H' fr => opD_slh rfl (evV_eq _ _ _ _ _ rfl) (evV_eq _ _ _ _ _ rfl) (evV_eq _ _ _ _ _ rfl) (sliceD_lh us9 e66)) rfl ?_
              obtain ⟨s67, e67, hp⟩ := bindS hp
              refine WJ.hd (v := .string (bs s67)) 200 rfl rfl rfl rfl (fun ids H' fr => opD_bin rfl (evV_eq _ _ _ _ _ rfl) (evV_eq _ _ _ _ _ rfl) (bin_sadd e67)) rfl ?_
              exact WJ.ag 209 rfl (by exact ⟨rfl, rfl, rfl, trivial⟩) rfl rfl rfl (ih8 (n, s67, IntKind.i64.wrap (x5 + 1), B3) hp (Nat.lt_succ_self _))
      · exact WJ.goto 3 (j8 B1 hp) rfl rfl (by exact trivial) rfl rfl rfl
/-! 13 tipstaff/tipstaffref03.Unquote -/
def f13 (k : Nat) (x0 : List UInt8) : Option ((List UInt8) × Int) :=
  if x0 = ([] : List UInt8) then
    some (([] : List UInt8), 3)
  else
    (rd x0 0).bind fun b10 =>
    if ((b10.toNat : Nat) : Int) = 34 then
      (f32 k x0).bind fun (t15_0, t15_1) =>
      if t15_1 = (x0.length : Int) then
        some (t15_0, 0)
      else
        some (([] : List UInt8), 3)
    else
      some (([] : List UInt8), 3)
set_option maxRecDepth 20000 in
theorem f13_ok {k : Nat} {H : Hp} {x0 : List UInt8} {r : (List UInt8) × Int} (hp : f13 k x0 = some r) :
    SCall Tryz.prog 13 [.string (bs x0)] H (Ret fun v H' => Ext H H' ∧ R_9_24 r H.next H' v) := by
  unfold f13 at hp
  replace hp := topS hp
  refine SCall.g Tryz.func13 rfl rfl rfl rfl rfl (l := [(0, .v (.string (bs x0)))]) (fun _ => rfl) (fun B abB => ?_)
  refine WJ.ci 209 hp rfl rfl rfl rfl rfl rfl (opD_streq rfl rfl rfl) rfl rfl (fun hc7 hp => ?_) (fun hc7 hp => ?_)
  · obtain rfl := endS (show some _ = some r from hp)
    exact WJ.rt 212 rfl rfl rfl (fun ids H' fr => ⟨fr.ext0, rfl⟩)
  · obtain ⟨b10, e10, hp⟩ := bindS hp
    refine WJ.hd (v := .int .u8 ((b10.toNat : Nat) : Int)) 202 rfl rfl rfl rfl (fun ids H' fr => opD_index rfl (evV_eq _ _ _ _ _ rfl) (evV_eq _ _ _ _ _ rfl) (sidx us9 e10)) rfl ?_
    refine WJ.cn 200 hp rfl rfl rfl rfl rfl rfl rfl rfl rfl (fun hc11 hp => ?_) (fun hc11 hp => ?_)
    · obtain rfl := endS (show some _ = some r from hp)
      exact WJ.rt 208 rfl rfl rfl (fun ids H' fr => ⟨fr.ext0, rfl⟩)
    · obtain ⟨⟨t15_0, t15_1⟩, e15, hp⟩ := bindS hp
      refine WJ.cl 207 (R := R_9_3 ⟨t15_0, t15_1⟩) (fun hm h k => R_9_3.mono hm h k) rfl (fun ids H' fr => f32_ok e15) ?_
      rintro v B1 ⟨abB1, ivB1⟩ rfl
      refine ⟨_, rfl, ?_⟩
      refine WJ.cn 212 hp rfl rfl rfl rfl rfl rfl rfl rfl rfl (fun hc21 hp => ?_) (fun hc21 hp => ?_)
      · obtain rfl := endS (show some _ = some r from hp)
        exact WJ.rt 207 rfl rfl rfl (fun ids H' fr => ⟨fr.ext0, rfl⟩)
      · obtain rfl := endS (show some _ = some r from hp)
        exact WJ.rt 209 rfl rfl rfl (fun ids H' fr => ⟨fr.ext0, rfl⟩)
/-! 34 unicode/utf8.RuneLen -/
def f34 (x0 : Int) : Option Int :=
  if x0 < 0 then
    some (-1)
  else
    if x0 ≤ 127 then
      some 1
    else
      if x0 ≤ 2047 then
        some 2
      else
        (if 55296 ≤ x0 then
          if x0 ≤ 57343 then
            some (Sum.inl ((-1) : Int))
          else
            if x0 ≤ 65535 then
              some (Sum.inl (3 : Int))
            else
              if x0 ≤ 1114111 then
                some (Sum.inl (4 : Int))
              else
                some (Sum.inr ())
        else
          if x0 ≤ 65535 then
            some (Sum.inl (3 : Int))
          else
            if x0 ≤ 1114111 then
              some (Sum.inl (4 : Int))
            else
              some (Sum.inr ())).bind fun s => match s with
          | .inl st => some st
          | .inr _ => 
            some (-1)
set_option maxRecDepth 20000 in
theorem f34_ok {H : Hp} {x0 : Int} {r : Int} (hp : f34 x0 = some r) :
    SCall Tryz.prog 34 [.int .i32 x0] H (Ret fun v H' => Ext H H' ∧ R_3 r H.next H' v) := by
  unfold f34 at hp
  replace hp := topS hp
  refine SCall.g Tryz.func34 rfl rfl rfl rfl rfl (l := [(0, .v (.int .i32 x0))]) (fun _ => rfl) (fun B abB => ?_)
  refine WJ.ci 209 hp rfl rfl rfl rfl rfl rfl rfl rfl rfl (fun hc5 hp => ?_) (fun hc5 hp => ?_)
  · obtain rfl := endS (show some _ = some r from hp)
    exact WJ.rt 207 rfl rfl rfl (fun ids H' fr => ⟨fr.ext0, rfl⟩)
  · refine WJ.ci 206 hp rfl rfl rfl rfl rfl rfl rfl rfl rfl (fun hc8 hp => ?_) (fun hc8 hp => ?_)
    · obtain rfl := endS (show some _ = some r from hp)
      exact WJ.rt 207 rfl rfl rfl (fun ids H' fr => ⟨fr.ext0, rfl⟩)
    · refine WJ.ci 206 hp rfl rfl rfl rfl rfl rfl rfl rfl rfl (fun hc11 hp => ?_) (fun hc11 hp => ?_)
      · obtain rfl := endS (show some _ = some r from hp)
        exact WJ.rt 207 rfl rfl rfl (fun ids H' fr => ⟨fr.ext0, rfl⟩)
      · refine WJ.adv 4 rfl ?_
        obtain ⟨K9, hK9, hp⟩ : ∃ K, K = _ ∧ Option.bind _ K = some r := ⟨_, rfl, cutS hp⟩
        refine WJ.cut 3 (α := Unit) (fun y => []) (fun y => []) (fun y => []) (fun y => B) (fun y => K9 ((Sum.inr ())) = some r) ?_ (fun j9 => ?_)
        · rintro u hp
          subst hK9
          show WJ _ _ _ B [] _ _ ⟨[], [], true, 0⟩
          obtain rfl := endS (show some _ = some r from hp)
          exact WJ.rt 204 rfl rfl rfl (fun ids H' fr => ⟨fr.ext0, rfl⟩)
        · refine WJ.ci 202 hp rfl rfl rfl rfl rfl rfl rfl rfl rfl (fun hc14 hp => ?_) (fun hc14 hp => ?_)
          · refine WJ.ci 202 hp rfl rfl rfl rfl rfl rfl rfl rfl rfl (fun hc17 hp => ?_) (fun hc17 hp => ?_)
            · subst hK9
              obtain rfl := endS (show some _ = some r from hp)
              exact WJ.rt 208 rfl rfl rfl (fun ids H' fr => ⟨fr.ext0, rfl⟩)
            · refine WJ.ci 207 hp rfl rfl rfl rfl rfl rfl rfl rfl rfl (fun hc21 hp => ?_) (fun hc21 hp => ?_)
              · subst hK9
                obtain rfl := endS (show some _ = some r from hp)
                exact WJ.rt 207 rfl rfl rfl (fun ids H' fr => ⟨fr.ext0, rfl⟩)
              · refine WJ.ci 206 hp rfl rfl rfl rfl rfl rfl rfl rfl rfl (fun hc24 hp => ?_) (fun hc24 hp => ?_)
                · subst hK9
                  obtain rfl := endS (show some _ = some r from hp)
                  exact WJ.rt 207 rfl rfl rfl (fun ids H' fr => ⟨fr.ext0, rfl⟩)
                · exact WJ.goto 5 (j9 () hp) rfl rfl (by exact trivial) rfl rfl rfl
          · refine WJ.ci 210 hp rfl rfl rfl rfl rfl rfl rfl rfl rfl (fun hc21 hp => ?_) (fun hc21 hp => ?_)
            · subst hK9
              obtain rfl := endS (show some _ = some r from hp)
              exact WJ.rt 207 rfl rfl rfl (fun ids H' fr => ⟨fr.ext0, rfl⟩)
            · refine WJ.ci 206 hp rfl rfl rfl rfl rfl rfl rfl rfl rfl (fun hc24 hp => ?_) (fun hc24 hp => ?_)
              · subst hK9
                obtain rfl := endS (show some _ = some r from hp)
                exact WJ.rt 207 rfl rfl rfl (fun ids H' fr => ⟨fr.ext0, rfl⟩)
              · exact WJ.goto 5 (j9 () hp) rfl rfl (by exact trivial) rfl rfl rfl
/-! 14 tipstaff/row.Quote -/
def f14_l2 (l33 : List Int) : Nat → (List UInt8) → Int → Nat → Option ((List UInt8) × Nat)
  | 0, _, _, _ => none
  | n + 1, l1_h15, x35_h15, p0_h15 =>
    (some (decide (x35_h15 < (l33.length : Int)))).bind fun t36u1 =>
    if t36u1 then
      (rd l33 x35_h15).bind fun t37u1 =>
      (sub ([48, 49, 50, 51, 52, 53, 54, 55, 56, 57, 97, 98, 99, 100, 101, 102] : List UInt8) (gshr .u8 t37u1 4) (IntKind.u8.wrap ((gshr .u8 t37u1 4) + 1))).bind fun s44u1 =>
      (scat ([92, 120] : List UInt8) s44u1).bind fun s45u1 =>
      (sub ([48, 49, 50, 51, 52, 53, 54, 55, 56, 57, 97, 98, 99, 100, 101, 102] : List UInt8) (bits .and .u8 t37u1 15) (IntKind.u8.wrap ((bits .and .u8 t37u1 15) + 1))).bind fun s51u1 =>
      (scat s45u1 s51u1).bind fun s52u1 =>
      (apd 1 l1_h15 s52u1).bind fun lB53u1 =>
      f14_l2 l33 n lB53u1 (IntKind.i64.wrap (x35_h15 + 1)) p0_h15
    else
      some ((l1_h15, p0_h15))

def f14_l1 (k : Nat) (x0 : List UInt8) : Nat → (List UInt8) → Nat → Option ((List UInt8))
  | 0, _, _ => none
  | n + 1, l1_h12, p0_h12 =>
    if p0_h12 < x0.length then
      (f34 (decL x0 p0_h12)).bind fun t17u1 =>
      (if (decL x0 p0_h12) = 65533 then
        (sub x0 ((p0_h12 : Nat) : Int) (x0.length : Int)).bind fun s23u1 =>
        (f35 s23u1).bind fun (t24u1_0, t24u1_1) =>
        some ((t24u1_1, (p0_h12 + decN x0 p0_h12)))
      else
        some ((t17u1, (p0_h12 + decN x0 p0_h12)))).bind fun (x6_13, p0_13) =>
        if (decL x0 p0_h12) = 34 then
          (c8 92).bind fun uB62u1 =>
          (apd 1 l1_h12 ([uB62u1])).bind fun lB62u1 =>
          (c7 (decL x0 p0_h12)).bind fun uB64u1 =>
          (apd 1 lB62u1 ([uB64u1])).bind fun lB64u1 =>
          f14_l1 k x0 n lB64u1 p0_13
        else
          if (decL x0 p0_h12) = 92 then
            (c8 92).bind fun uB62u2 =>
            (apd 1 l1_h12 ([uB62u2])).bind fun lB62u2 =>
            (c7 (decL x0 p0_h12)).bind fun uB64u2 =>
            (apd 1 lB62u2 ([uB64u2])).bind fun lB64u2 =>
            f14_l1 k x0 n lB64u2 p0_13
          else
            (f37 (decL x0 p0_h12) x6_13).bind fun t68 =>
            if t68 then
              (sub x0 ((p0_h12 : Nat) : Int) (IntKind.i64.wrap (((p0_h12 : Nat) : Int) + x6_13))).bind fun s74 =>
              (apd 1 l1_h12 s74).bind fun lB75 =>
              f14_l1 k x0 n lB75 p0_13
            else
              (sub x0 ((p0_h12 : Nat) : Int) (IntKind.i64.wrap (((p0_h12 : Nat) : Int) + x6_13))).bind fun s32 =>
              (ne8 s32).bind fun l33 =>
              (f14_l2 l33 k l1_h12 0 p0_13).bind fun st =>
                f14_l1 k x0 n st.1 st.2
    else
      some (l1_h12)

def f14 (k : Nat) (x0 : List UInt8) : Option (List UInt8) :=
  (c8 34).bind fun uB9 =>
  (apd 1 ([] : List UInt8) ([uB9])).bind fun lB9 =>
  (f14_l1 k x0 k lB9 0).bind fun l1_12 =>
    (c8 34).bind fun uB76 =>
    (apd 1 l1_12 ([uB76])).bind fun lB76 =>
    (apd 1 lB76 ([] : List UInt8)).bind fun lB77 =>
    some lB76
set_option maxHeartbeats 3200000 in
set_option maxRecDepth 20000 in
theorem f14_ok {k : Nat} {H : Hp} {x0 : List UInt8} {r : List UInt8} (hp : f14 k x0 = some r) :
    SCall Tryz.prog 14 [.string (bs x0)] H (Ret fun v H' => Ext H H' ∧ R_9 r H.next H' v) := by
  unfold f14 at hp
  replace hp := topS hp
  refine SCall.g Tryz.func14 rfl rfl rfl rfl rfl (l := [(0, .v (.string (bs x0)))]) (fun _ => rfl) (fun B abB => ?_)
  refine WJ.nb (U := 5) 206 rfl rfl rfl rfl rfl bzero bis rfl rfl ?_
  intro bw3
  refine ⟨_, rfl, ?_⟩
  obtain ⟨uB9, euB9, hp⟩ := bindS hp
  obtain ⟨lB9, eB9, hp⟩ := bindS hp
  obtain ⟨bdB9, rfl⟩ := apd_some eB9
  refine WJ.bw 203 (s := [uB9]) 0 rfl (wb_ok euB9) (fun _ => rfl) rfl rfl rfl bdB9 ?_
  intro aB9
  refine ⟨_, rfl, ?_⟩
  refine WJ.rg 205 rfl rfl rfl rfl rfl us9 rfl ?_
  rintro b11 B1 ⟨abB1, ivB1⟩ h011 it11
  refine ⟨_, rfl, ?_⟩
  refine WJ.adv 2 rfl ?_
  obtain ⟨K12, hK12, hp⟩ : ∃ K, K = _ ∧ Option.bind _ K = some r := ⟨_, rfl, cutS hp⟩
  refine WJ.cut 2 (α := (List UInt8) × (Option Addr) × Nat × Hp) (fun y => [(3, .v (.pointer (some ⟨bw3, 0, none⟩)))]) (fun y => []) (fun y => [bldS 63 bw3 y.2.1 y.1, bldB 5 y.2.1 y.1]) (fun y => y.2.2.2) (fun y => K12 (y.1) = some r) ?_ (fun j12 => ?_)
  · rintro ⟨l1_12, a1_12, c1_12, B9⟩ hp
    subst hK12
    show WJ _ _ _ B9 [bldS 63 bw3 a1_12 l1_12, bldB 5 a1_12 l1_12] _ _ ⟨[(3, .v (.pointer (some ⟨bw3, 0, none⟩)))], [], true, 0⟩
    obtain ⟨uB76, euB76, hp⟩ := bindS hp
    obtain ⟨lB76, eB76, hp⟩ := bindS hp
    obtain ⟨bdB76, rfl⟩ := apd_some eB76
    refine WJ.bw 202 (s := [uB76]) 0 rfl (wb_ok euB76) (fun _ => rfl) rfl rfl rfl bdB76 ?_
    intro aB76
    refine ⟨_, rfl, ?_⟩
    obtain ⟨lB77, eB77, hp⟩ := bindS hp
    obtain ⟨bdB77, rfl⟩ := apd_some eB77
    refine WJ.bg 203 0 rfl st_ok (fun _ => rfl) rfl rfl rfl (by simpa using bdB77) ?_
    refine ⟨_, rfl, ?_⟩
    obtain rfl := endS (show some _ = some r from hp)
    exact WJ.rt 202 rfl rfl rfl (fun ids H' fr => ⟨fr.ext0, rfl⟩)
  · refine WJ.lp 200 (α := Nat × (List UInt8) × Nat × (Option Addr) × Nat × Hp) (fun y => [(0, .v (.string (bs x0))), (3, .v (.pointer (some ⟨bw3, 0, none⟩))), (11, .v (.pointer (some ⟨b11, 0, none⟩)))]) (fun y => []) (fun y => [bldS 63 bw3 y.2.2.2.1 y.2.1, bldB 5 y.2.2.2.1 y.2.1]) (fun y => y.2.2.2.2.2) (fun y => y.1) (fun y => Option.bind (f14_l1 k x0 y.1 y.2.1 y.2.2.1) K12 = some r ∧ y.2.2.2.2.2.get b11 = some (.iter (bs x0) y.2.2.1)) (k, (([] : List UInt8) ++ ([uB9])), 0, aB9, 0, B1) rfl ⟨hp, it11⟩ (by exact ⟨rfl, rfl, rfl, trivial⟩) rfl rfl rfl ?_
    rintro ⟨n, l1_h12, p0_h12, a1_h12, c1_h12, B2⟩ ⟨hp, it11⟩ ih12
    show WJ _ _ _ B2 [bldS 63 bw3 a1_h12 l1_h12, bldB 5 a1_h12 l1_h12] _ _ ⟨[(0, .v (.string (bs x0))), (3, .v (.pointer (some ⟨bw3, 0, none⟩))), (11, .v (.pointer (some ⟨b11, 0, none⟩)))], [], true, 0⟩
    replace hp : Option.bind (f14_l1 k x0 n l1_h12 p0_h12) K12 = some r := hp
    cases n with
    | zero => rw [f14_l1] at hp; exact (noS hp).elim
    | succ n =>
      rw [f14_l1] at hp
      refine WJ.nx 202 hp rfl rfl rfl rfl rfl rfl it11 h011 rfl rfl (fun hp B3 abB3 neB3 it_new => ?_) (fun hp => ?_)
      · replace it11 := it_new
        obtain ⟨t17u1, e17u1, hp⟩ := bindS hp
        refine WJ.cl 216 (R := R_3 t17u1) (fun hm h k => R_3.mono hm h k) rfl (fun ids H' fr => f34_ok e17u1) ?_
        rintro v B4 ⟨abB4, ivB4⟩ rfl
        refine ⟨_, rfl, ?_⟩
        replace it11 := ivB4 _ _ it11
        refine WJ.adv 4 rfl ?_
        obtain ⟨K13, hK13, hp⟩ : ∃ K, K = _ ∧ Option.bind _ K = some r := ⟨_, rfl, cutS hp⟩
        refine WJ.cut 2 (α := Int × Nat × Hp) (fun y => [(0, .v (.string (bs x0))), (3, .v (.pointer (some ⟨bw3, 0, none⟩))), (4, .v (.int .i64 ((p0_h12 : Nat) : Int))), (5, .v (.int .i32 (decL x0 p0_h12))), (6, .v (.int .i64 y.1)), (11, .v (.pointer (some ⟨b11, 0, none⟩)))]) (fun y => []) (fun y => [bldS 63 bw3 a1_h12 l1_h12, bldB 5 a1_h12 l1_h12]) (fun y => y.2.2) (fun y => K13 (((y.1, y.2.1))) = some r ∧ y.2.2.get b11 = some (.iter (bs x0) y.2.1)) ?_ (fun j13 => ?_)
        · rintro ⟨x6_13, p0_13, B6⟩ ⟨hp, it11⟩
          subst hK13
          show WJ _ _ _ B6 [bldS 63 bw3 a1_h12 l1_h12, bldB 5 a1_h12 l1_h12] _ _ ⟨[(0, .v (.string (bs x0))), (3, .v (.pointer (some ⟨bw3, 0, none⟩))), (4, .v (.int .i64 ((p0_h12 : Nat) : Int))), (5, .v (.int .i32 (decL x0 p0_h12))), (6, .v (.int .i64 x6_13)), (11, .v (.pointer (some ⟨b11, 0, none⟩)))], [], true, 0⟩
          refine WJ.ci 204 hp rfl rfl rfl rfl rfl rfl rfl rfl rfl (fun hc57u1 hp => ?_) (fun hc57u1 hp => ?_)
          · obtain ⟨uB62u1, euB62u1, hp⟩ := bindS hp
            obtain ⟨lB62u1, eB62u1, hp⟩ := bindS hp
            obtain ⟨bdB62u1, rfl⟩ := apd_some eB62u1
            refine WJ.bw 209 (s := [uB62u1]) 0 rfl (wb_ok euB62u1) (fun _ => rfl) rfl rfl rfl bdB62u1 ?_
            intro aB62u1
            refine ⟨_, rfl, ?_⟩
            obtain ⟨uB64u1, euB64u1, hp⟩ := bindS hp
            obtain ⟨lB64u1, eB64u1, hp⟩ := bindS hp
            obtain ⟨bdB64u1, rfl⟩ := apd_some eB64u1
            refine WJ.bw 203 (s := [uB64u1]) 0 rfl (wr_ok euB64u1) (fun _ => rfl) rfl rfl rfl bdB64u1 ?_
            intro aB64u1
            refine ⟨_, rfl, ?_⟩
            exact WJ.ag 203 rfl (by exact ⟨rfl, rfl, rfl, trivial⟩) rfl rfl rfl (ih12 (n, ((l1_h12 ++ ([uB62u1])) ++ ([uB64u1])), p0_13, aB64u1, 0, B6) ⟨hp, it11⟩ (Nat.lt_succ_self _))
          · refine WJ.ci 202 hp rfl rfl rfl rfl rfl rfl rfl rfl rfl (fun hc60 hp => ?_) (fun hc60 hp => ?_)
            · obtain ⟨uB62u2, euB62u2, hp⟩ := bindS hp
              obtain ⟨lB62u2, eB62u2, hp⟩ := bindS hp
              obtain ⟨bdB62u2, rfl⟩ := apd_some eB62u2
              refine WJ.bw 206 (s := [uB62u2]) 0 rfl (wb_ok euB62u2) (fun _ => rfl) rfl rfl rfl bdB62u2 ?_
              intro aB62u2
              refine ⟨_, rfl, ?_⟩
              obtain ⟨uB64u2, euB64u2, hp⟩ := bindS hp
              obtain ⟨lB64u2, eB64u2, hp⟩ := bindS hp
              obtain ⟨bdB64u2, rfl⟩ := apd_some eB64u2
              refine WJ.bw 203 (s := [uB64u2]) 0 rfl (wr_ok euB64u2) (fun _ => rfl) rfl rfl rfl bdB64u2 ?_
              intro aB64u2
              refine ⟨_, rfl, ?_⟩
              exact WJ.ag 203 rfl (by exact ⟨rfl, rfl, rfl, trivial⟩) rfl rfl rfl (ih12 (n, ((l1_h12 ++ ([uB62u2])) ++ ([uB64u2])), p0_13, aB64u2, 0, B6) ⟨hp, it11⟩ (Nat.lt_succ_self _))
            · obtain ⟨t68, e68, hp⟩ := bindS hp
              refine WJ.cl 208 (R := R_4 t68) (fun hm h k => R_4.mono hm h k) rfl (fun ids H' fr => f37_ok e68) ?_
              rintro v B7 ⟨abB7, ivB7⟩ rfl
              refine ⟨_, rfl, ?_⟩
              replace it11 := ivB7 _ _ it11
              cases t68
              · replace hp := (itS hp).2 Bool.false_ne_true
                obtain ⟨s32, e32, hp⟩ := bindS hp
                refine WJ.hd (v := .string (bs s32)) 210 rfl rfl rfl rfl (fun ids H' fr => opD_slh rfl (evV_eq _ _ _ _ _ rfl) (evV_eq _ _ _ _ _ rfl) (evV_eq _ _ _ _ _ rfl) (sliceD_lh us9 e32)) rfl ?_
                obtain ⟨l33, e33, hp⟩ := bindS hp
                refine WJ.cb 200 (L := l33) rfl rfl rfl rfl rfl rfl us9 u61 u8_5 e33 ?_
                intro b33
                refine ⟨_, rfl, ?_⟩
                refine WJ.adv 4 rfl ?_
                obtain ⟨K15, hK15, hp⟩ : ∃ K, K = _ ∧ Option.bind _ K = some r := ⟨_, rfl, cutS hp⟩
                refine WJ.lp 200 (α := Nat × (List UInt8) × Int × Nat × (Option Addr) × Nat × Hp) (fun y => [(0, .v (.string (bs x0))), (3, .v (.pointer (some ⟨bw3, 0, none⟩))), (11, .v (.pointer (some ⟨b11, 0, none⟩))), (33, .v (.slice (some ⟨b33, 0, none⟩) l33.length LOOSE)), (34, .v (.int .i64 ((l33.length : Nat) : Int))), (35, .v (.int .i64 y.2.2.1))]) (fun y => []) (fun y => [bldS 63 bw3 y.2.2.2.2.1 y.2.1, bldB 5 y.2.2.2.2.1 y.2.1, ⟨(some ⟨b33, 0, none⟩), LOOSE, 1, encL (kE .u8) l33⟩]) (fun y => y.2.2.2.2.2.2) (fun y => y.1) (fun y => Option.bind (f14_l2 l33 y.1 y.2.1 y.2.2.1 y.2.2.2.1) K15 = some r ∧ y.2.2.2.2.2.2.get b11 = some (.iter (bs x0) y.2.2.2.1)) (k, l1_h12, 0, p0_13, a1_h12, 0, B7) rfl ⟨hp, it11⟩ (by exact ⟨rfl, rfl, rfl, rfl, rfl, rfl, trivial⟩) rfl rfl rfl ?_
                rintro ⟨n15, l1_h15, x35_h15, p0_h15, a1_h15, c1_h15, B8⟩ ⟨hp, it11⟩ ih15
                show WJ _ _ _ B8 [bldS 63 bw3 a1_h15 l1_h15, bldB 5 a1_h15 l1_h15, ⟨(some ⟨b33, 0, none⟩), LOOSE, 1, encL (kE .u8) l33⟩] _ _ ⟨[(0, .v (.string (bs x0))), (3, .v (.pointer (some ⟨bw3, 0, none⟩))), (11, .v (.pointer (some ⟨b11, 0, none⟩))), (33, .v (.slice (some ⟨b33, 0, none⟩) l33.length LOOSE)), (34, .v (.int .i64 ((l33.length : Nat) : Int))), (35, .v (.int .i64 x35_h15))], [], true, 0⟩
                replace hp : Option.bind (f14_l2 l33 n15 l1_h15 x35_h15 p0_h15) K15 = some r := hp
                cases n15 with
                | zero => rw [f14_l2] at hp; exact (noS hp).elim
                | succ n15 =>
                  rw [f14_l2] at hp
                  obtain ⟨t36u1, e36u1, hp⟩ := bindS hp
                  refine WJ.cv 202 (b := t36u1) (H0 := ⟨.nil, 0, 0⟩) rfl rfl rfl rfl rfl rfl (by rw [← endS e36u1]; exact rfl) rfl ?_
                  cases t36u1
                  · replace hp := (itS hp).2 Bool.false_ne_true
                    subst hK15
                    exact WJ.ag 206 rfl (by exact ⟨rfl, rfl, rfl, trivial⟩) rfl rfl rfl (ih12 (n, l1_h15, p0_h15, a1_h15, 0, B8) ⟨hp, it11⟩ (Nat.lt_succ_self _))
                  · replace hp := (itS hp).1 rfl
                    obtain ⟨t37u1, e37u1, hp⟩ := bindS hp
                    refine WJ.ownAddr (enc := (kE .u8)) (sz := 1) 2 (fun _ => rfl) rfl rfl e37u1 (fun b37u1 hb37u1 => ?_)
                    refine WJ.hd (v := .pointer (some ⟨b37u1, (x35_h15 : Int).toNat * 1, none⟩)) 208 rfl rfl rfl rfl (fun ids H' fr => opD_indexAddr rfl (evV_eq _ _ _ _ _ rfl) (evV_eq _ _ _ _ _ rfl) (ownIdx hb37u1 e37u1 u61 sz5)) rfl ?_
                    refine WJ.hd (v := .int .u8 t37u1) 200 rfl rfl rfl rfl (fun ids H' fr => opD_load rfl (evV_eq _ _ _ _ _ rfl) ((fr.ownEl (enc := (kE .u8)) (sz := 1) (j := 2) (fun _ => rfl) rfl hb37u1 e37u1).load (d := 0) ag5 rfl)) rfl ?_
                    refine WJ.dr 202 rfl gmix (by kernel_rfl) (by kernel_rfl) rfl ?_
                    refine WD.hd (v := .int .u8 (gshr .u8 t37u1 4)) rfl rfl rfl rfl (fun _ _ _ _ _ => side_no) (fun ids H' fr => opD_bin rfl (evV_eq _ _ _ _ _ rfl) (evV_eq _ _ _ _ _ rfl) (bin_shr (by decide))) rfl ?_
                    refine WD.hd (v := .int .u8 (gshr .u8 t37u1 4)) rfl rfl rfl rfl (fun _ _ _ _ _ => side_no) (fun ids H' fr => opD_bin rfl (evV_eq _ _ _ _ _ rfl) (evV_eq _ _ _ _ _ rfl) (bin_shr (by decide))) rfl ?_
                    obtain ⟨s44u1, e44u1, hp⟩ := bindS hp
                    refine WD.hd (v := .string (bs s44u1)) rfl rfl rfl rfl (fun _ _ _ _ _ => side_no) (fun ids H' fr => opD_slh rfl (evV_eq _ _ _ _ _ rfl) (evV_eq _ _ _ _ _ rfl) (evV_eq _ _ _ _ _ rfl) (sliceD_lh us9 e44u1)) rfl ?_
                    obtain ⟨s45u1, e45u1, hp⟩ := bindS hp
                    refine WD.hd (v := .string (bs s45u1)) rfl rfl rfl rfl (fun _ _ _ _ _ => side_no) (fun ids H' fr => opD_bin rfl (evV_eq _ _ _ _ _ rfl) (evV_eq _ _ _ _ _ rfl) (bin_sadd e45u1)) rfl ?_
                    obtain ⟨s51u1, e51u1, hp⟩ := bindS hp
                    refine WD.hd (v := .string (bs s51u1)) rfl rfl rfl rfl (fun _ _ _ _ _ => side_no) (fun ids H' fr => opD_slh rfl (evV_eq _ _ _ _ _ rfl) (evV_eq _ _ _ _ _ rfl) (evV_eq _ _ _ _ _ rfl) (sliceD_lh us9 e51u1)) rfl ?_
                    obtain ⟨s52u1, e52u1, hp⟩ := bindS hp
                    refine WD.hd (v := .string (bs s52u1)) rfl rfl rfl rfl (fun _ _ _ _ _ => side_no) (fun ids H' fr => opD_bin rfl (evV_eq _ _ _ _ _ rfl) (evV_eq _ _ _ _ _ rfl) (bin_sadd e52u1)) rfl ?_
                    obtain ⟨lB53u1, eB53u1, hp⟩ := bindS hp
                    obtain ⟨bdB53u1, rfl⟩ := apd_some eB53u1
                    refine WD.bw (s := s52u1) 0 rfl (ws_ok s52u1) (fun _ => rfl) rfl rfl rfl bdB53u1 ?_
                    intro aB53u1
                    refine ⟨_, rfl, ?_⟩
                    refine WD.done rfl ?_
                    exact WJ.ag 205 rfl (by exact ⟨rfl, rfl, rfl, rfl, rfl, rfl, trivial⟩) rfl rfl rfl (ih15 (n15, (l1_h15 ++ s52u1), IntKind.i64.wrap (x35_h15 + 1), p0_h15, aB53u1, 0, B8) ⟨hp, it11⟩ (Nat.lt_succ_self _))
              · replace hp := (itS hp).1 rfl
                obtain ⟨s74, e74, hp⟩ := bindS hp
                refine WJ.hd (v := .string (bs s74)) 209 rfl rfl rfl rfl (fun ids H' fr => opD_slh rfl (evV_eq _ _ _ _ _ rfl) (evV_eq _ _ _ _ _ rfl) (evV_eq _ _ _ _ _ rfl) (sliceD_lh us9 e74)) rfl ?_
                obtain ⟨lB75, eB75, hp⟩ := bindS hp
                obtain ⟨bdB75, rfl⟩ := apd_some eB75
                refine WJ.bw 200 (s := s74) 0 rfl (ws_ok s74) (fun _ => rfl) rfl rfl rfl bdB75 ?_
                intro aB75
                refine ⟨_, rfl, ?_⟩
                exact WJ.ag 203 rfl (by exact ⟨rfl, rfl, rfl, trivial⟩) rfl rfl rfl (ih12 (n, (l1_h12 ++ s74), p0_13, aB75, 0, B7) ⟨hp, it11⟩ (Nat.lt_succ_self _))
        · refine WJ.ci 202 hp rfl rfl rfl rfl rfl rfl rfl rfl rfl (fun hc19u1 hp => ?_) (fun hc19u1 hp => ?_)
          · obtain ⟨s23u1, e23u1, hp⟩ := bindS hp
            refine WJ.hd (v := .string (bs s23u1)) 205 rfl rfl rfl rfl (fun ids H' fr => opD_sl rfl (evV_eq _ _ _ _ _ rfl) (evV_eq _ _ _ _ _ rfl) (sliceD_l us9 e23u1)) rfl ?_
            obtain ⟨⟨t24u1_0, t24u1_1⟩, e24u1, hp⟩ := bindS hp
            refine WJ.cl 200 (R := R_21_3 ⟨t24u1_0, t24u1_1⟩) (fun hm h k => R_21_3.mono hm h k) rfl (fun ids H' fr => f35_ok e24u1) ?_
            rintro v B5 ⟨abB5, ivB5⟩ rfl
            refine ⟨_, rfl, ?_⟩
            replace it11 := ivB5 _ _ it11
            exact WJ.goto 5 (j13 (t24u1_1, (p0_h12 + decN x0 p0_h12), B5) ⟨hp, it11⟩) rfl rfl (by exact ⟨rfl, rfl, rfl, rfl, rfl, rfl, trivial⟩) rfl rfl rfl
          · exact WJ.goto 3 (j13 (t17u1, (p0_h12 + decN x0 p0_h12), B4) ⟨hp, it11⟩) rfl rfl (by exact ⟨rfl, rfl, rfl, rfl, rfl, rfl, trivial⟩) rfl rfl rfl
      · exact WJ.goto 5 (j12 (l1_h12, a1_h12, 0, B2) hp) rfl rfl (by exact ⟨rfl, trivial⟩) rfl rfl rfl
/-! 15 tipstaff/tipstaffref03.Quote -/
def f15_l1 (k : Nat) (x0 : List UInt8) : Nat → (List UInt8) → Int → Option ((List UInt8))
  | 0, _, _ => none
  | n + 1, x3, x4 =>
    if x4 < (x0.length : Int) then
      (sub x0 x4 (x0.length : Int)).bind fun s12 =>
      (f40 k s12).bind fun t13 =>
      if t13 > 0 then
        (sub x0 x4 (IntKind.i64.wrap (x4 + t13))).bind fun s47 =>
        (scat x3 s47).bind fun s48 =>
        f15_l1 k x0 n s48 (IntKind.i64.wrap (x4 + t13))
      else
        ((rd x0 x4).bind fun b55 =>
        if ((b55.toNat : Nat) : Int) = 34 then
          (scat x3 ([92] : List UInt8)).bind fun s64 =>
          (sub x0 x4 (IntKind.i64.wrap (x4 + 1))).bind fun s69 =>
          (scat s64 s69).bind fun s70 =>
          some (s70)
        else
          (rd x0 x4).bind fun b60 =>
          if ((b60.toNat : Nat) : Int) = 92 then
            (scat x3 ([92] : List UInt8)).bind fun s64 =>
            (sub x0 x4 (IntKind.i64.wrap (x4 + 1))).bind fun s69 =>
            (scat s64 s69).bind fun s70 =>
            some (s70)
          else
            (rd x0 x4).bind fun b74 =>
            (f41 ((b74.toNat : Nat) : Int)).bind fun t75 =>
            if t75 then
              (sub x0 x4 (IntKind.i64.wrap (x4 + 1))).bind fun s81 =>
              (scat x3 s81).bind fun s82 =>
              some (s82)
            else
              (scat x3 ([92, 120] : List UInt8)).bind fun s15 =>
              (rd x0 x4).bind fun b18 =>
              (rd x0 x4).bind fun b22 =>
              (sub ([48, 49, 50, 51, 52, 53, 54, 55, 56, 57, 97, 98, 99, 100, 101, 102] : List UInt8) (IntKind.u8.wrap (((b18.toNat : Nat) : Int).tdiv 16)) (IntKind.u8.wrap ((IntKind.u8.wrap (((b22.toNat : Nat) : Int).tdiv 16)) + 1))).bind fun s25 =>
              (scat s15 s25).bind fun s26 =>
              (rd x0 x4).bind fun b29 =>
              (rd x0 x4).bind fun b33 =>
              (sub ([48, 49, 50, 51, 52, 53, 54, 55, 56, 57, 97, 98, 99, 100, 101, 102] : List UInt8) (((b29.toNat : Nat) : Int).tmod 16) (IntKind.u8.wrap ((((b33.toNat : Nat) : Int).tmod 16) + 1))).bind fun s36 =>
              (scat s26 s36).bind fun s37 =>
              some (s37)).bind fun x3_17 =>
          f15_l1 k x0 n x3_17 (IntKind.i64.wrap (x4 + 1))
    else
      some (x3)

def f15 (k : Nat) (x0 : List UInt8) : Option (List UInt8) :=
  (f15_l1 k x0 k ([34] : List UInt8) 0).bind fun x3_16 =>
    (scat x3_16 ([34] : List UInt8)).bind fun s86 =>
    some s86
set_option maxRecDepth 20000 in
theorem f15_ok {k : Nat} {H : Hp} {x0 : List UInt8} {r : List UInt8} (hp : f15 k x0 = some r) :
    SCall Tryz.prog 15 [.string (bs x0)] H (Ret fun v H' => Ext H H' ∧ R_9 r H.next H' v) := by
  unfold f15 at hp
  replace hp := topS hp
  refine SCall.g Tryz.func15 rfl rfl rfl rfl rfl (l := [(0, .v (.string (bs x0)))]) (fun _ => rfl) (fun B abB => ?_)
  refine WJ.adv 14 rfl ?_
  obtain ⟨K16, hK16, hp⟩ : ∃ K, K = _ ∧ Option.bind _ K = some r := ⟨_, rfl, cutS hp⟩
  refine WJ.cut 2 (α := (List UInt8) × Hp) (fun y => [(3, .v (.string (bs y.1)))]) (fun y => []) (fun y => []) (fun y => y.2) (fun y => K16 (y.1) = some r) ?_ (fun j16 => ?_)
  · rintro ⟨x3_16, B5⟩ hp
    subst hK16
    show WJ _ _ _ B5 [] _ _ ⟨[(3, .v (.string (bs x3_16)))], [], true, 0⟩
    obtain ⟨s86, e86, hp⟩ := bindS hp
    refine WJ.hd (v := .string (bs s86)) 203 rfl rfl rfl rfl (fun ids H' fr => opD_bin rfl (evV_eq _ _ _ _ _ rfl) (evV_eq _ _ _ _ _ rfl) (bin_sadd e86)) rfl ?_
    obtain rfl := endS (show some _ = some r from hp)
    exact WJ.rt 202 rfl rfl rfl (fun ids H' fr => ⟨fr.ext0, rfl⟩)
  · refine WJ.lp 200 (α := Nat × (List UInt8) × Int × Hp) (fun y => [(0, .v (.string (bs x0))), (3, .v (.string (bs y.2.1))), (4, .v (.int .i64 y.2.2.1))]) (fun y => []) (fun y => []) (fun y => y.2.2.2) (fun y => y.1) (fun y => Option.bind (f15_l1 k x0 y.1 y.2.1 y.2.2.1) K16 = some r) (k, ([34] : List UInt8), 0, B) rfl hp (by exact ⟨rfl, rfl, rfl, trivial⟩) rfl rfl rfl ?_
    rintro ⟨n, x3, x4, B1⟩ hp ih16
    show WJ _ _ _ B1 [] _ _ ⟨[(0, .v (.string (bs x0))), (3, .v (.string (bs x3))), (4, .v (.int .i64 x4))], [], true, 0⟩
    replace hp : Option.bind (f15_l1 k x0 n x3 x4) K16 = some r := hp
    cases n with
    | zero => rw [f15_l1] at hp; exact (noS hp).elim
    | succ n =>
      rw [f15_l1] at hp
      refine WJ.ci 206 hp rfl rfl rfl rfl rfl rfl rfl rfl rfl (fun hc9 hp => ?_) (fun hc9 hp => ?_)
      · obtain ⟨s12, e12, hp⟩ := bindS hp
        refine WJ.hd (v := .string (bs s12)) 208 rfl rfl rfl rfl (fun ids H' fr => opD_sl rfl (evV_eq _ _ _ _ _ rfl) (evV_eq _ _ _ _ _ rfl) (sliceD_l us9 e12)) rfl ?_
        obtain ⟨t13, e13, hp⟩ := bindS hp
        refine WJ.cl 200 (R := R_3 t13) (fun hm h k => R_3.mono hm h k) rfl (fun ids H' fr => f40_ok e13) ?_
        rintro v B2 ⟨abB2, ivB2⟩ rfl
        refine ⟨_, rfl, ?_⟩
        refine WJ.ci 207 hp rfl rfl rfl rfl rfl rfl rfl rfl rfl (fun hc40 hp => ?_) (fun hc40 hp => ?_)
        · obtain ⟨s47, e47, hp⟩ := bindS hp
          refine WJ.hd (v := .string (bs s47)) 211 rfl rfl rfl rfl (fun ids H' fr => opD_slh rfl (evV_eq _ _ _ _ _ rfl) (evV_eq _ _ _ _ _ rfl) (evV_eq _ _ _ _ _ rfl) (sliceD_lh us9 e47)) rfl ?_
          obtain ⟨s48, e48, hp⟩ := bindS hp
          refine WJ.hd (v := .string (bs s48)) 200 rfl rfl rfl rfl (fun ids H' fr => opD_bin rfl (evV_eq _ _ _ _ _ rfl) (evV_eq _ _ _ _ _ rfl) (bin_sadd e48)) rfl ?_
          exact WJ.ag 210 rfl (by exact ⟨rfl, rfl, rfl, trivial⟩) rfl rfl rfl (ih16 (n, s48, IntKind.i64.wrap (x4 + t13), B2) hp (Nat.lt_succ_self _))
        · refine WJ.adv 4 rfl ?_
          obtain ⟨K17, hK17, hp⟩ : ∃ K, K = _ ∧ Option.bind _ K = some r := ⟨_, rfl, cutS hp⟩
          refine WJ.cut 3 (α := (List UInt8) × Hp) (fun y => [(0, .v (.string (bs x0))), (3, .v (.string (bs y.1))), (4, .v (.int .i64 x4))]) (fun y => []) (fun y => []) (fun y => y.2) (fun y => K17 ((y.1)) = some r) ?_ (fun j17 => ?_)
          · rintro ⟨x3_17, B4⟩ hp
            subst hK17
            show WJ _ _ _ B4 [] _ _ ⟨[(0, .v (.string (bs x0))), (3, .v (.string (bs x3_17))), (4, .v (.int .i64 x4))], [], true, 0⟩
            exact WJ.ag 206 rfl (by exact ⟨rfl, rfl, rfl, trivial⟩) rfl rfl rfl (ih16 (n, x3_17, IntKind.i64.wrap (x4 + 1), B4) hp (Nat.lt_succ_self _))
          · obtain ⟨b55, e55, hp⟩ := bindS hp
            refine WJ.hd (v := .int .u8 ((b55.toNat : Nat) : Int)) 203 rfl rfl rfl rfl (fun ids H' fr => opD_index rfl (evV_eq _ _ _ _ _ rfl) (evV_eq _ _ _ _ _ rfl) (sidx us9 e55)) rfl ?_
            refine WJ.ci 200 hp rfl rfl rfl rfl rfl rfl rfl rfl rfl (fun hc56 hp => ?_) (fun hc56 hp => ?_)
            · obtain ⟨s64, e64, hp⟩ := bindS hp
              refine WJ.hd (v := .string (bs s64)) 211 rfl rfl rfl rfl (fun ids H' fr => opD_bin rfl (evV_eq _ _ _ _ _ rfl) (evV_eq _ _ _ _ _ rfl) (bin_sadd e64)) rfl ?_
              obtain ⟨s69, e69, hp⟩ := bindS hp
              refine WJ.hd (v := .string (bs s69)) 204 rfl rfl rfl rfl (fun ids H' fr => opD_slh rfl (evV_eq _ _ _ _ _ rfl) (evV_eq _ _ _ _ _ rfl) (evV_eq _ _ _ _ _ rfl) (sliceD_lh us9 e69)) rfl ?_
              obtain ⟨s70, e70, hp⟩ := bindS hp
              refine WJ.hd (v := .string (bs s70)) 200 rfl rfl rfl rfl (fun ids H' fr => opD_bin rfl (evV_eq _ _ _ _ _ rfl) (evV_eq _ _ _ _ _ rfl) (bin_sadd e70)) rfl ?_
              exact WJ.goto 3 (j17 (s70, B2) hp) rfl rfl (by exact ⟨rfl, rfl, rfl, trivial⟩) rfl rfl rfl
            · obtain ⟨b60, e60, hp⟩ := bindS hp
              refine WJ.hd (v := .int .u8 ((b60.toNat : Nat) : Int)) 203 rfl rfl rfl rfl (fun ids H' fr => opD_index rfl (evV_eq _ _ _ _ _ rfl) (evV_eq _ _ _ _ _ rfl) (sidx us9 e60)) rfl ?_
              refine WJ.ci 200 hp rfl rfl rfl rfl rfl rfl rfl rfl rfl (fun hc61 hp => ?_) (fun hc61 hp => ?_)
              · obtain ⟨s64, e64, hp⟩ := bindS hp
                refine WJ.hd (v := .string (bs s64)) 206 rfl rfl rfl rfl (fun ids H' fr => opD_bin rfl (evV_eq _ _ _ _ _ rfl) (evV_eq _ _ _ _ _ rfl) (bin_sadd e64)) rfl ?_
                obtain ⟨s69, e69, hp⟩ := bindS hp
                refine WJ.hd (v := .string (bs s69)) 204 rfl rfl rfl rfl (fun ids H' fr => opD_slh rfl (evV_eq _ _ _ _ _ rfl) (evV_eq _ _ _ _ _ rfl) (evV_eq _ _ _ _ _ rfl) (sliceD_lh us9 e69)) rfl ?_
                obtain ⟨s70, e70, hp⟩ := bindS hp
                refine WJ.hd (v := .string (bs s70)) 200 rfl rfl rfl rfl (fun ids H' fr => opD_bin rfl (evV_eq _ _ _ _ _ rfl) (evV_eq _ _ _ _ _ rfl) (bin_sadd e70)) rfl ?_
                exact WJ.goto 3 (j17 (s70, B2) hp) rfl rfl (by exact ⟨rfl, rfl, rfl, trivial⟩) rfl rfl rfl
              · obtain ⟨b74, e74, hp⟩ := bindS hp
                refine WJ.hd (v := .int .u8 ((b74.toNat : Nat) : Int)) 208 rfl rfl rfl rfl (fun ids H' fr => opD_index rfl (evV_eq _ _ _ _ _ rfl) (evV_eq _ _ _ _ _ rfl) (sidx us9 e74)) rfl ?_
                obtain ⟨t75, e75, hp⟩ := bindS hp
                refine WJ.cl 200 (R := R_4 t75) (fun hm h k => R_4.mono hm h k) rfl (fun ids H' fr => f41_ok e75) ?_
                rintro v B3 ⟨abB3, ivB3⟩ rfl
                refine ⟨_, rfl, ?_⟩
                cases t75
                · replace hp := (itS hp).2 Bool.false_ne_true
                  refine WJ.dr 203 rfl gmix (by kernel_rfl) (by kernel_rfl) rfl ?_
                  obtain ⟨s15, e15, hp⟩ := bindS hp
                  refine WD.hd (v := .string (bs s15)) rfl rfl rfl rfl (fun _ _ _ _ _ => side_no) (fun ids H' fr => opD_bin rfl (evV_eq _ _ _ _ _ rfl) (evV_eq _ _ _ _ _ rfl) (bin_sadd e15)) rfl ?_
                  obtain ⟨b18, e18, hp⟩ := bindS hp
                  refine WD.hd (v := .int .u8 ((b18.toNat : Nat) : Int)) rfl rfl rfl rfl (fun _ _ _ _ _ => side_no) (fun ids H' fr => opD_index rfl (evV_eq _ _ _ _ _ rfl) (evV_eq _ _ _ _ _ rfl) (sidx us9 e18)) rfl ?_
                  refine WD.hd (v := .int .u8 (IntKind.u8.wrap (((b18.toNat : Nat) : Int).tdiv 16))) rfl rfl rfl rfl (fun _ _ _ _ _ => side_no) (fun ids H' fr => opD_bin rfl (evV_eq _ _ _ _ _ rfl) (evV_eq _ _ _ _ _ rfl) (bin_quo (by decide))) rfl ?_
                  obtain ⟨b22, e22, hp⟩ := bindS hp
                  refine WD.hd (v := .int .u8 ((b22.toNat : Nat) : Int)) rfl rfl rfl rfl (fun _ _ _ _ _ => side_no) (fun ids H' fr => opD_index rfl (evV_eq _ _ _ _ _ rfl) (evV_eq _ _ _ _ _ rfl) (sidx us9 e22)) rfl ?_
                  refine WD.hd (v := .int .u8 (IntKind.u8.wrap (((b22.toNat : Nat) : Int).tdiv 16))) rfl rfl rfl rfl (fun _ _ _ _ _ => side_no) (fun ids H' fr => opD_bin rfl (evV_eq _ _ _ _ _ rfl) (evV_eq _ _ _ _ _ rfl) (bin_quo (by decide))) rfl ?_
                  obtain ⟨s25, e25, hp⟩ := bindS hp
                  refine WD.hd (v := .string (bs s25)) rfl rfl rfl rfl (fun _ _ _ _ _ => side_no) (fun ids H' fr => opD_slh rfl (evV_eq _ _ _ _ _ rfl) (evV_eq _ _ _ _ _ rfl) (evV_eq _ _ _ _ _ rfl) (sliceD_lh us9 e25)) rfl ?_
                  obtain ⟨s26, e26, hp⟩ := bindS hp
                  refine WD.hd (v := .string (bs s26)) rfl rfl rfl rfl (fun _ _ _ _ _ => side_no) (fun ids H' fr => opD_bin rfl (evV_eq _ _ _ _ _ rfl) (evV_eq _ _ _ _ _ rfl) (bin_sadd e26)) rfl ?_
                  obtain ⟨b29, e29, hp⟩ := bindS hp
                  refine WD.hd (v := .int .u8 ((b29.toNat : Nat) : Int)) rfl rfl rfl rfl (fun _ _ _ _ _ => side_no) (fun ids H' fr => opD_index rfl (evV_eq _ _ _ _ _ rfl) (evV_eq _ _ _ _ _ rfl) (sidx us9 e29)) rfl ?_
                  refine WD.hd (v := .int .u8 (((b29.toNat : Nat) : Int).tmod 16)) rfl rfl rfl rfl (fun _ _ _ _ _ => side_no) (fun ids H' fr => opD_bin rfl (evV_eq _ _ _ _ _ rfl) (evV_eq _ _ _ _ _ rfl) (bin_rem (by decide))) rfl ?_
                  obtain ⟨b33, e33, hp⟩ := bindS hp
                  refine WD.hd (v := .int .u8 ((b33.toNat : Nat) : Int)) rfl rfl rfl rfl (fun _ _ _ _ _ => side_no) (fun ids H' fr => opD_index rfl (evV_eq _ _ _ _ _ rfl) (evV_eq _ _ _ _ _ rfl) (sidx us9 e33)) rfl ?_
                  refine WD.hd (v := .int .u8 (((b33.toNat : Nat) : Int).tmod 16)) rfl rfl rfl rfl (fun _ _ _ _ _ => side_no) (fun ids H' fr => opD_bin rfl (evV_eq _ _ _ _ _ rfl) (evV_eq _ _ _ _ _ rfl) (bin_rem (by decide))) rfl ?_
                  obtain ⟨s36, e36, hp⟩ := bindS hp
                  refine WD.hd (v := .string (bs s36)) rfl rfl rfl rfl (fun _ _ _ _ _ => side_no) (fun ids H' fr => opD_slh rfl (evV_eq _ _ _ _ _ rfl) (evV_eq _ _ _ _ _ rfl) (evV_eq _ _ _ _ _ rfl) (sliceD_lh us9 e36)) rfl ?_
                  obtain ⟨s37, e37, hp⟩ := bindS hp
                  refine WD.hd (v := .string (bs s37)) rfl rfl rfl rfl (fun _ _ _ _ _ => side_no) (fun ids H' fr => opD_bin rfl (evV_eq _ _ _ _ _ rfl) (evV_eq _ _ _ _ _ rfl) (bin_sadd e37)) rfl ?_
                  refine WD.done rfl ?_
                  exact WJ.goto 1 (j17 (s37, B3) hp) rfl rfl (by exact ⟨rfl, rfl, rfl, trivial⟩) rfl rfl rfl
                · replace hp := (itS hp).1 rfl
                  obtain ⟨s81, e81, hp⟩ := bindS hp
                  refine WJ.hd (v := .string (bs s81)) 209 rfl rfl rfl rfl (fun ids H' fr => opD_slh rfl (evV_eq _ _ _ _ _ rfl) (evV_eq _ _ _ _ _ rfl) (evV_eq _ _ _ _ _ rfl) (sliceD_lh us9 e81)) rfl ?_
                  obtain ⟨s82, e82, hp⟩ := bindS hp
                  refine WJ.hd (v := .string (bs s82)) 200 rfl rfl rfl rfl (fun ids H' fr => opD_bin rfl (evV_eq _ _ _ _ _ rfl) (evV_eq _ _ _ _ _ rfl) (bin_sadd e82)) rfl ?_
                  exact WJ.goto 3 (j17 (s82, B3) hp) rfl rfl (by exact ⟨rfl, rfl, rfl, trivial⟩) rfl rfl rfl
      · exact WJ.goto 3 (j16 (x3, B1) hp) rfl rfl (by exact ⟨rfl, trivial⟩) rfl rfl rfl
/-! 16 tipstaff/row.Name -/
def f16_l1 (x0 : List UInt8) : Nat → Nat → Option ((Bool) ⊕ (Unit))
  | 0, _ => none
  | n + 1, p0 =>
    if p0 < x0.length then
      (f42 (decL x0 p0)).bind fun t12 =>
      if t12 then
        f16_l1 x0 n (p0 + decN x0 p0)
      else
        if ((p0 : Nat) : Int) = 0 then
          some (Sum.inl (false : Bool))
        else
          if (decL x0 p0) = 45 then
            f16_l1 x0 n (p0 + decN x0 p0)
          else
            if (decL x0 p0) < 48 then
              some (Sum.inl (false : Bool))
            else
              if (decL x0 p0) > 57 then
                some (Sum.inl (false : Bool))
              else
                f16_l1 x0 n (p0 + decN x0 p0)
    else
      some (Sum.inr ())

def f16 (k : Nat) (x0 : List UInt8) : Option Bool :=
  (f16_l1 x0 k 0).bind fun s => match s with
    | .inl st => some st
    | .inr _ => 
      if x0 = ([] : List UInt8) then
        some false
      else
        (some (decide ((x0.length : Int) ≤ 16))).bind fun t35 =>
        some t35
set_option maxRecDepth 20000 in
theorem f16_ok {k : Nat} {H : Hp} {x0 : List UInt8} {r : Bool} (hp : f16 k x0 = some r) :
    SCall Tryz.prog 16 [.string (bs x0)] H (Ret fun v H' => Ext H H' ∧ R_4 r H.next H' v) := by
  unfold f16 at hp
  replace hp := topS hp
  refine SCall.g Tryz.func16 rfl rfl rfl rfl rfl (l := [(0, .v (.string (bs x0)))]) (fun _ => rfl) (fun B abB => ?_)
  refine WJ.rg 208 rfl rfl rfl rfl rfl us9 rfl ?_
  rintro b6 B1 ⟨abB1, ivB1⟩ h06 it6
  refine ⟨_, rfl, ?_⟩
  refine WJ.adv 2 rfl ?_
  obtain ⟨K18, hK18, hp⟩ : ∃ K, K = _ ∧ Option.bind _ K = some r := ⟨_, rfl, cutS hp⟩
  refine WJ.cut 2 (α := Hp) (fun y => [(0, .v (.string (bs x0)))]) (fun y => []) (fun y => []) (fun y => y) (fun y => K18 (Sum.inr ()) = some r) ?_ (fun j18 => ?_)
  · rintro B5 hp
    subst hK18
    show WJ _ _ _ B5 [] _ _ ⟨[(0, .v (.string (bs x0)))], [], true, 0⟩
    refine WJ.cn 203 hp rfl rfl rfl rfl rfl rfl (opD_strne rfl rfl rfl) rfl rfl (fun hc31 hp => ?_) (fun hc31 hp => ?_)
    · obtain ⟨t35, e35, hp⟩ := bindS hp
      refine WJ.cv 203 (b := t35) (H0 := ⟨.nil, 0, 0⟩) rfl rfl rfl rfl rfl rfl (by rw [← endS e35]; exact rfl) rfl ?_
      obtain rfl := endS (show some _ = some r from hp)
      exact WJ.rt 203 rfl rfl rfl (fun ids H' fr => ⟨fr.ext0, rfl⟩)
    · obtain rfl := endS (show some _ = some r from hp)
      exact WJ.rt 207 rfl rfl rfl (fun ids H' fr => ⟨fr.ext0, rfl⟩)
  · refine WJ.lp 200 (α := Nat × Nat × Hp) (fun y => [(0, .v (.string (bs x0))), (6, .v (.pointer (some ⟨b6, 0, none⟩)))]) (fun y => []) (fun y => []) (fun y => y.2.2) (fun y => y.1) (fun y => Option.bind (f16_l1 x0 y.1 y.2.1) K18 = some r ∧ y.2.2.get b6 = some (.iter (bs x0) y.2.1)) (k, 0, B1) rfl ⟨hp, it6⟩ (by exact ⟨rfl, rfl, trivial⟩) rfl rfl rfl ?_
    rintro ⟨n, p0, B2⟩ ⟨hp, it6⟩ ih18
    show WJ _ _ _ B2 [] _ _ ⟨[(0, .v (.string (bs x0))), (6, .v (.pointer (some ⟨b6, 0, none⟩)))], [], true, 0⟩
    replace hp : Option.bind (f16_l1 x0 n p0) K18 = some r := hp
    cases n with
    | zero => rw [f16_l1] at hp; exact (noS hp).elim
    | succ n =>
      rw [f16_l1] at hp
      refine WJ.nx 202 hp rfl rfl rfl rfl rfl rfl it6 h06 rfl rfl (fun hp B3 abB3 neB3 it_new => ?_) (fun hp => ?_)
      · replace it6 := it_new
        obtain ⟨t12, e12, hp⟩ := bindS hp
        refine WJ.cl 216 (R := R_4 t12) (fun hm h k => R_4.mono hm h k) rfl (fun ids H' fr => f42_ok e12) ?_
        rintro v B4 ⟨abB4, ivB4⟩ rfl
        refine ⟨_, rfl, ?_⟩
        replace it6 := ivB4 _ _ it6
        cases t12
        · replace hp := (itS hp).2 Bool.false_ne_true
          refine WJ.ci 203 hp rfl rfl rfl rfl rfl rfl rfl rfl rfl (fun hc16 hp => ?_) (fun hc16 hp => ?_)
          · subst hK18
            obtain rfl := endS (show some _ = some r from hp)
            exact WJ.rt 219 rfl rfl rfl (fun ids H' fr => ⟨fr.ext0, rfl⟩)
          · refine WJ.cn 202 hp rfl rfl rfl rfl rfl rfl rfl rfl rfl (fun hc19 hp => ?_) (fun hc19 hp => ?_)
            · refine WJ.ci 202 hp rfl rfl rfl rfl rfl rfl rfl rfl rfl (fun hc22 hp => ?_) (fun hc22 hp => ?_)
              · subst hK18
                obtain rfl := endS (show some _ = some r from hp)
                exact WJ.rt 213 rfl rfl rfl (fun ids H' fr => ⟨fr.ext0, rfl⟩)
              · refine WJ.ci 202 hp rfl rfl rfl rfl rfl rfl rfl rfl rfl (fun hc25 hp => ?_) (fun hc25 hp => ?_)
                · subst hK18
                  obtain rfl := endS (show some _ = some r from hp)
                  exact WJ.rt 210 rfl rfl rfl (fun ids H' fr => ⟨fr.ext0, rfl⟩)
                · exact WJ.ag 208 rfl (by exact ⟨rfl, rfl, trivial⟩) rfl rfl rfl (ih18 (n, (p0 + decN x0 p0), B4) ⟨hp, it6⟩ (Nat.lt_succ_self _))
            · exact WJ.ag 214 rfl (by exact ⟨rfl, rfl, trivial⟩) rfl rfl rfl (ih18 (n, (p0 + decN x0 p0), B4) ⟨hp, it6⟩ (Nat.lt_succ_self _))
        · replace hp := (itS hp).1 rfl
          exact WJ.ag 221 rfl (by exact ⟨rfl, rfl, trivial⟩) rfl rfl rfl (ih18 (n, (p0 + decN x0 p0), B4) ⟨hp, it6⟩ (Nat.lt_succ_self _))
      · exact WJ.goto 5 (j18 B2 hp) rfl rfl (by exact ⟨rfl, trivial⟩) rfl rfl rfl
/-! 43 tipstaff/tipstaffref03.letter -/
def f43 (x0 : Int) : Option Bool :=
  if x0 ≥ 97 then
    if x0 ≤ 122 then
      some true
    else
      if x0 ≥ 65 then
        (some (decide (x0 ≤ 90))).bind fun t14 =>
        some t14
      else
        some false
  else
    if x0 ≥ 65 then
      (some (decide (x0 ≤ 90))).bind fun t14 =>
      some t14
    else
      some false
set_option maxRecDepth 20000 in
theorem f43_ok {H : Hp} {x0 : Int} {r : Bool} (hp : f43 x0 = some r) :
    SCall Tryz.prog 43 [.int .u8 x0] H (Ret fun v H' => Ext H H' ∧ R_4 r H.next H' v) := by
  unfold f43 at hp
  replace hp := topS hp
  refine SCall.g Tryz.func43 rfl rfl rfl rfl rfl (l := [(0, .v (.int .u8 x0))]) (fun _ => rfl) (fun B abB => ?_)
  refine WJ.ci 207 hp rfl rfl rfl rfl rfl rfl rfl rfl rfl (fun hc4 hp => ?_) (fun hc4 hp => ?_)
  · refine WJ.ci 202 hp rfl rfl rfl rfl rfl rfl rfl rfl rfl (fun hc7 hp => ?_) (fun hc7 hp => ?_)
    · obtain rfl := endS (show some _ = some r from hp)
      exact WJ.rt 211 rfl rfl rfl (fun ids H' fr => ⟨fr.ext0, rfl⟩)
    · refine WJ.ci 203 hp rfl rfl rfl rfl rfl rfl rfl rfl rfl (fun hc11 hp => ?_) (fun hc11 hp => ?_)
      · obtain ⟨t14, e14, hp⟩ := bindS hp
        refine WJ.cv 202 (b := t14) (H0 := ⟨.nil, 0, 0⟩) rfl rfl rfl rfl rfl rfl (by rw [← endS e14]; exact rfl) rfl ?_
        obtain rfl := endS (show some _ = some r from hp)
        exact WJ.rt 204 rfl rfl rfl (fun ids H' fr => ⟨fr.ext0, rfl⟩)
      · obtain rfl := endS (show some _ = some r from hp)
        exact WJ.rt 207 rfl rfl rfl (fun ids H' fr => ⟨fr.ext0, rfl⟩)
  · refine WJ.ci 206 hp rfl rfl rfl rfl rfl rfl rfl rfl rfl (fun hc11 hp => ?_) (fun hc11 hp => ?_)
    · obtain ⟨t14, e14, hp⟩ := bindS hp
      refine WJ.cv 202 (b := t14) (H0 := ⟨.nil, 0, 0⟩) rfl rfl rfl rfl rfl rfl (by rw [← endS e14]; exact rfl) rfl ?_
      obtain rfl := endS (show some _ = some r from hp)
      exact WJ.rt 204 rfl rfl rfl (fun ids H' fr => ⟨fr.ext0, rfl⟩)
    · obtain rfl := endS (show some _ = some r from hp)
      exact WJ.rt 207 rfl rfl rfl (fun ids H' fr => ⟨fr.ext0, rfl⟩)
/-! 44 tipstaff/tipstaffref03.digit -/
def f44 (x0 : Int) : Option Bool :=
  if x0 ≥ 48 then
    (some (decide (x0 ≤ 57))).bind fun t7 =>
    some t7
  else
    some false
set_option maxRecDepth 20000 in
theorem f44_ok {H : Hp} {x0 : Int} {r : Bool} (hp : f44 x0 = some r) :
    SCall Tryz.prog 44 [.int .u8 x0] H (Ret fun v H' => Ext H H' ∧ R_4 r H.next H' v) := by
  unfold f44 at hp
  replace hp := topS hp
  refine SCall.g Tryz.func44 rfl rfl rfl rfl rfl (l := [(0, .v (.int .u8 x0))]) (fun _ => rfl) (fun B abB => ?_)
  refine WJ.ci 207 hp rfl rfl rfl rfl rfl rfl rfl rfl rfl (fun hc4 hp => ?_) (fun hc4 hp => ?_)
  · obtain ⟨t7, e7, hp⟩ := bindS hp
    refine WJ.cv 202 (b := t7) (H0 := ⟨.nil, 0, 0⟩) rfl rfl rfl rfl rfl rfl (by rw [← endS e7]; exact rfl) rfl ?_
    obtain rfl := endS (show some _ = some r from hp)
    exact WJ.rt 203 rfl rfl rfl (fun ids H' fr => ⟨fr.ext0, rfl⟩)
  · obtain rfl := endS (show some _ = some r from hp)
    exact WJ.rt 206 rfl rfl rfl (fun ids H' fr => ⟨fr.ext0, rfl⟩)
/-! 17 tipstaff/tipstaffref03.Name -/
def f17_l1 (x0 : List UInt8) : Nat → Int → Option ((Bool) ⊕ (Unit))
  | 0, _ => none
  | n + 1, x3 =>
    if x3 < (x0.length : Int) then
      (rd x0 x3).bind fun b26 =>
      (f43 ((b26.toNat : Nat) : Int)).bind fun t27 =>
      if t27 then
        f17_l1 x0 n (IntKind.i64.wrap (x3 + 1))
      else
        (rd x0 x3).bind fun b32 =>
        (f44 ((b32.toNat : Nat) : Int)).bind fun t33 =>
        if t33 then
          f17_l1 x0 n (IntKind.i64.wrap (x3 + 1))
        else
          (rd x0 x3).bind fun b39 =>
          if ((b39.toNat : Nat) : Int) = 45 then
            f17_l1 x0 n (IntKind.i64.wrap (x3 + 1))
          else
            some (Sum.inl (false : Bool))
    else
      some (Sum.inr ())

def f17 (k : Nat) (x0 : List UInt8) : Option Bool :=
  if (x0.length : Int) < 1 then
    some false
  else
    if (x0.length : Int) > 16 then
      some false
    else
      (rd x0 0).bind fun b14 =>
      (f43 ((b14.toNat : Nat) : Int)).bind fun t15 =>
      if t15 then
        (f17_l1 x0 k 0).bind fun s => match s with
          | .inl st => some st
          | .inr _ => 
            some true
      else
        some false
set_option maxRecDepth 20000 in
theorem f17_ok {k : Nat} {H : Hp} {x0 : List UInt8} {r : Bool} (hp : f17 k x0 = some r) :
    SCall Tryz.prog 17 [.string (bs x0)] H (Ret fun v H' => Ext H H' ∧ R_4 r H.next H' v) := by
  unfold f17 at hp
  replace hp := topS hp
  refine SCall.g Tryz.func17 rfl rfl rfl rfl rfl (l := [(0, .v (.string (bs x0)))]) (fun _ => rfl) (fun B abB => ?_)
  refine WJ.ci 209 hp rfl rfl rfl rfl rfl rfl rfl rfl rfl (fun hc6 hp => ?_) (fun hc6 hp => ?_)
  · obtain rfl := endS (show some _ = some r from hp)
    exact WJ.rt 217 rfl rfl rfl (fun ids H' fr => ⟨fr.ext0, rfl⟩)
  · refine WJ.ci 203 hp rfl rfl rfl rfl rfl rfl rfl rfl rfl (fun hc10 hp => ?_) (fun hc10 hp => ?_)
    · obtain rfl := endS (show some _ = some r from hp)
      exact WJ.rt 213 rfl rfl rfl (fun ids H' fr => ⟨fr.ext0, rfl⟩)
    · obtain ⟨b14, e14, hp⟩ := bindS hp
      refine WJ.hd (v := .int .u8 ((b14.toNat : Nat) : Int)) 203 rfl rfl rfl rfl (fun ids H' fr => opD_index rfl (evV_eq _ _ _ _ _ rfl) (evV_eq _ _ _ _ _ rfl) (sidx us9 e14)) rfl ?_
      obtain ⟨t15, e15, hp⟩ := bindS hp
      refine WJ.cl 200 (R := R_4 t15) (fun hm h k => R_4.mono hm h k) rfl (fun ids H' fr => f43_ok e15) ?_
      rintro v B1 ⟨abB1, ivB1⟩ rfl
      refine ⟨_, rfl, ?_⟩
      cases t15
      · replace hp := (itS hp).2 Bool.false_ne_true
        obtain rfl := endS (show some _ = some r from hp)
        exact WJ.rt 208 rfl rfl rfl (fun ids H' fr => ⟨fr.ext0, rfl⟩)
      · replace hp := (itS hp).1 rfl
        refine WJ.adv 11 rfl ?_
        obtain ⟨K19, hK19, hp⟩ : ∃ K, K = _ ∧ Option.bind _ K = some r := ⟨_, rfl, cutS hp⟩
        refine WJ.cut 2 (α := Hp) (fun y => []) (fun y => []) (fun y => []) (fun y => y) (fun y => K19 (Sum.inr ()) = some r) ?_ (fun j19 => ?_)
        · rintro B5 hp
          subst hK19
          show WJ _ _ _ B5 [] _ _ ⟨[], [], true, 0⟩
          obtain rfl := endS (show some _ = some r from hp)
          exact WJ.rt 204 rfl rfl rfl (fun ids H' fr => ⟨fr.ext0, rfl⟩)
        · refine WJ.lp 200 (α := Nat × Int × Hp) (fun y => [(0, .v (.string (bs x0))), (3, .v (.int .i64 y.2.1))]) (fun y => []) (fun y => []) (fun y => y.2.2) (fun y => y.1) (fun y => Option.bind (f17_l1 x0 y.1 y.2.1) K19 = some r) (k, 0, B1) rfl hp (by exact ⟨rfl, rfl, trivial⟩) rfl rfl rfl ?_
          rintro ⟨n, x3, B2⟩ hp ih19
          show WJ _ _ _ B2 [] _ _ ⟨[(0, .v (.string (bs x0))), (3, .v (.int .i64 x3))], [], true, 0⟩
          replace hp : Option.bind (f17_l1 x0 n x3) K19 = some r := hp
          cases n with
          | zero => rw [f17_l1] at hp; exact (noS hp).elim
          | succ n =>
            rw [f17_l1] at hp
            refine WJ.ci 206 hp rfl rfl rfl rfl rfl rfl rfl rfl rfl (fun hc21 hp => ?_) (fun hc21 hp => ?_)
            · obtain ⟨b26, e26, hp⟩ := bindS hp
              refine WJ.hd (v := .int .u8 ((b26.toNat : Nat) : Int)) 209 rfl rfl rfl rfl (fun ids H' fr => opD_index rfl (evV_eq _ _ _ _ _ rfl) (evV_eq _ _ _ _ _ rfl) (sidx us9 e26)) rfl ?_
              obtain ⟨t27, e27, hp⟩ := bindS hp
              refine WJ.cl 200 (R := R_4 t27) (fun hm h k => R_4.mono hm h k) rfl (fun ids H' fr => f43_ok e27) ?_
              rintro v B3 ⟨abB3, ivB3⟩ rfl
              refine ⟨_, rfl, ?_⟩
              cases t27
              · replace hp := (itS hp).2 Bool.false_ne_true
                obtain ⟨b32, e32, hp⟩ := bindS hp
                refine WJ.hd (v := .int .u8 ((b32.toNat : Nat) : Int)) 204 rfl rfl rfl rfl (fun ids H' fr => opD_index rfl (evV_eq _ _ _ _ _ rfl) (evV_eq _ _ _ _ _ rfl) (sidx us9 e32)) rfl ?_
                obtain ⟨t33, e33, hp⟩ := bindS hp
                refine WJ.cl 200 (R := R_4 t33) (fun hm h k => R_4.mono hm h k) rfl (fun ids H' fr => f44_ok e33) ?_
                rintro v B4 ⟨abB4, ivB4⟩ rfl
                refine ⟨_, rfl, ?_⟩
                cases t33
                · replace hp := (itS hp).2 Bool.false_ne_true
                  obtain ⟨b39, e39, hp⟩ := bindS hp
                  refine WJ.hd (v := .int .u8 ((b39.toNat : Nat) : Int)) 205 rfl rfl rfl rfl (fun ids H' fr => opD_index rfl (evV_eq _ _ _ _ _ rfl) (evV_eq _ _ _ _ _ rfl) (sidx us9 e39)) rfl ?_
                  refine WJ.cn 200 hp rfl rfl rfl rfl rfl rfl rfl rfl rfl (fun hc40 hp => ?_) (fun hc40 hp => ?_)
                  · subst hK19
                    obtain rfl := endS (show some _ = some r from hp)
                    exact WJ.rt 207 rfl rfl rfl (fun ids H' fr => ⟨fr.ext0, rfl⟩)
                  · exact WJ.ag 210 rfl (by exact ⟨rfl, rfl, trivial⟩) rfl rfl rfl (ih19 (n, IntKind.i64.wrap (x3 + 1), B4) hp (Nat.lt_succ_self _))
                · replace hp := (itS hp).1 rfl
                  exact WJ.ag 217 rfl (by exact ⟨rfl, rfl, trivial⟩) rfl rfl rfl (ih19 (n, IntKind.i64.wrap (x3 + 1), B4) hp (Nat.lt_succ_self _))
              · replace hp := (itS hp).1 rfl
                exact WJ.ag 223 rfl (by exact ⟨rfl, rfl, trivial⟩) rfl rfl rfl (ih19 (n, IntKind.i64.wrap (x3 + 1), B3) hp (Nat.lt_succ_self _))
            · exact WJ.goto 3 (j19 B2 hp) rfl rfl (by exact trivial) rfl rfl rfl
/-! 4 tipstaff/tipstafflaw03.RowTexts -/
def f4 (k : Nat) (x0 : List UInt8) (x1 : List UInt8) : Option Bool :=
  if (x0.length : Int) > 300 then
    (f8).bind fun t17 =>
    some t17
  else
    if (x1.length : Int) > 300 then
      (f8).bind fun t17 =>
      some t17
    else
      (f12 k x1).bind fun (t20_0, t20_1) =>
      (f13 k x1).bind fun (t25_0, t25_1) =>
      (f14 k x0).bind fun t29 =>
      (f15 k x0).bind fun t31 =>
      if t29 = t31 then
        if t20_0 = t25_0 then
          if t20_1 = t25_1 then
            (f16 k x0).bind fun t45 =>
            (f17 k x0).bind fun t47 =>
            (some (t45 == t47)).bind fun t48 =>
            if t48 then
              (f8).bind fun t51 =>
              some t51
            else
              some false
          else
            some false
        else
          some false
      else
        some false
set_option maxRecDepth 20000 in
theorem f4_ok {k : Nat} {H : Hp} {x0 : List UInt8} {x1 : List UInt8} {r : Bool} (hp : f4 k x0 x1 = some r) :
    SCall Tryz.prog 4 [.string (bs x0), .string (bs x1)] H (Ret fun v H' => Ext H H' ∧ R_4 r H.next H' v) := by
  unfold f4 at hp
  replace hp := topS hp
  refine SCall.g Tryz.func4 rfl rfl rfl rfl rfl (l := [(0, .v (.string (bs x0))), (1, .v (.string (bs x1)))]) (fun _ => rfl) (fun B abB => ?_)
  refine WJ.ci 209 hp rfl rfl rfl rfl rfl rfl rfl rfl rfl (fun hc11 hp => ?_) (fun hc11 hp => ?_)
  · obtain ⟨t17, e17, hp⟩ := bindS hp
    refine WJ.cl 209 (R := R_4 t17) (fun hm h k => R_4.mono hm h k) rfl (fun ids H' fr => f8_ok e17) ?_
    rintro v B1 ⟨abB1, ivB1⟩ rfl
    refine ⟨_, rfl, ?_⟩
    obtain rfl := endS (show some _ = some r from hp)
    exact WJ.rt 202 rfl rfl rfl (fun ids H' fr => ⟨fr.ext0, rfl⟩)
  · refine WJ.ci 203 hp rfl rfl rfl rfl rfl rfl rfl rfl rfl (fun hc15 hp => ?_) (fun hc15 hp => ?_)
    · obtain ⟨t17, e17, hp⟩ := bindS hp
      refine WJ.cl 205 (R := R_4 t17) (fun hm h k => R_4.mono hm h k) rfl (fun ids H' fr => f8_ok e17) ?_
      rintro v B2 ⟨abB2, ivB2⟩ rfl
      refine ⟨_, rfl, ?_⟩
      obtain rfl := endS (show some _ = some r from hp)
      exact WJ.rt 202 rfl rfl rfl (fun ids H' fr => ⟨fr.ext0, rfl⟩)
    · obtain ⟨⟨t20_0, t20_1⟩, e20, hp⟩ := bindS hp
      refine WJ.cl 207 (R := R_9_24 ⟨t20_0, t20_1⟩) (fun hm h k => R_9_24.mono hm h k) rfl (fun ids H' fr => f12_ok e20) ?_
      rintro v B3 ⟨abB3, ivB3⟩ rfl
      refine ⟨_, rfl, ?_⟩
      obtain ⟨⟨t25_0, t25_1⟩, e25, hp⟩ := bindS hp
      refine WJ.cl 209 (R := R_9_24 ⟨t25_0, t25_1⟩) (fun hm h k => R_9_24.mono hm h k) rfl (fun ids H' fr => f13_ok e25) ?_
      rintro v B4 ⟨abB4, ivB4⟩ rfl
      refine ⟨_, rfl, ?_⟩
      obtain ⟨t29, e29, hp⟩ := bindS hp
      refine WJ.cl 209 (R := R_9 t29) (fun hm h k => R_9.mono hm h k) rfl (fun ids H' fr => f14_ok e29) ?_
      rintro v B5 ⟨abB5, ivB5⟩ rfl
      refine ⟨_, rfl, ?_⟩
      obtain ⟨t31, e31, hp⟩ := bindS hp
      refine WJ.cl 201 (R := R_9 t31) (fun hm h k => R_9.mono hm h k) rfl (fun ids H' fr => f15_ok e31) ?_
      rintro v B6 ⟨abB6, ivB6⟩ rfl
      refine ⟨_, rfl, ?_⟩
      refine WJ.ci 200 hp rfl rfl rfl rfl rfl rfl (opD_streq rfl rfl rfl) rfl rfl (fun hc32 hp => ?_) (fun hc32 hp => ?_)
      · refine WJ.ci 203 hp rfl rfl rfl rfl rfl rfl (opD_streq rfl rfl rfl) rfl rfl (fun hc36 hp => ?_) (fun hc36 hp => ?_)
        · refine WJ.ci 204 hp rfl rfl rfl rfl rfl rfl rfl rfl rfl (fun hc41 hp => ?_) (fun hc41 hp => ?_)
          · obtain ⟨t45, e45, hp⟩ := bindS hp
            refine WJ.cl 203 (R := R_4 t45) (fun hm h k => R_4.mono hm h k) rfl (fun ids H' fr => f16_ok e45) ?_
            rintro v B7 ⟨abB7, ivB7⟩ rfl
            refine ⟨_, rfl, ?_⟩
            obtain ⟨t47, e47, hp⟩ := bindS hp
            refine WJ.cl 201 (R := R_4 t47) (fun hm h k => R_4.mono hm h k) rfl (fun ids H' fr => f17_ok e47) ?_
            rintro v B8 ⟨abB8, ivB8⟩ rfl
            refine ⟨_, rfl, ?_⟩
            obtain ⟨t48, e48, hp⟩ := bindS hp
            refine WJ.cv 200 (b := t48) (H0 := ⟨.nil, 0, 0⟩) rfl rfl rfl rfl rfl rfl (by rw [← endS e48]; exact rfl) rfl ?_
            cases t48
            · replace hp := (itS hp).2 Bool.false_ne_true
              obtain rfl := endS (show some _ = some r from hp)
              exact WJ.rt 206 rfl rfl rfl (fun ids H' fr => ⟨fr.ext0, rfl⟩)
            · replace hp := (itS hp).1 rfl
              obtain ⟨t51, e51, hp⟩ := bindS hp
              refine WJ.cl 202 (R := R_4 t51) (fun hm h k => R_4.mono hm h k) rfl (fun ids H' fr => f8_ok e51) ?_
              rintro v B9 ⟨abB9, ivB9⟩ rfl
              refine ⟨_, rfl, ?_⟩
              obtain rfl := endS (show some _ = some r from hp)
              exact WJ.rt 203 rfl rfl rfl (fun ids H' fr => ⟨fr.ext0, rfl⟩)
          · obtain rfl := endS (show some _ = some r from hp)
            exact WJ.rt 213 rfl rfl rfl (fun ids H' fr => ⟨fr.ext0, rfl⟩)
        · obtain rfl := endS (show some _ = some r from hp)
          exact WJ.rt 218 rfl rfl rfl (fun ids H' fr => ⟨fr.ext0, rfl⟩)
      · obtain rfl := endS (show some _ = some r from hp)
        exact WJ.rt 222 rfl rfl rfl (fun ids H' fr => ⟨fr.ext0, rfl⟩)
end
end Go.Proofs.YtgmejigjajcbfaaGreatDoor

set_option linter.unusedVariables false
namespace Go.Proofs.YtgmejigjajcbfaaGreatDoor
open Go Go.Det Go.RowKit
theorem ul9 : Tryz.prog.underlying 9 = some .string := by kernel_rfl
def ok9 (x : List UInt8) : Prop := x.length ≤ reachBytes
theorem rd9 {H : Hp} {cs : List Value} (h : Rd Tryz.prog H 9 cs) : ∃ x : List UInt8, Cod.rep strC 0 H cs x ∧ ok9 x := by
  obtain ⟨x, rfl, hx⟩ := h.str_inv ul9
  exact ⟨x, rfl, hx⟩
def Pure4 : Prop := ∀ (x0 : List UInt8) (x1 : List UInt8), ok9 x0 → ok9 x1 → ∃ k : Nat, f4 k x0 x1 = some true
theorem law4 (hp : Pure4) (H : Hp) (args : List Value) (_ : Tryz.prog.globals.size ≤ H.next) (h : RdArgs Tryz.prog H Tryz.f4.params.toList args) : SCall Tryz.prog 4 args H (fun e _ => e = .ret (.bool true)) := by
  replace h : RdArgs Tryz.prog H [9, 9] args := h
  obtain ⟨v0, args0, ea0, h0, h⟩ := h.scal (by kernel_rfl)
  obtain ⟨x0, e0, k0⟩ := rd9 h0
  obtain rfl := (List.cons.inj e0).1
  obtain ⟨v1, args1, ea1, h1, h⟩ := h.scal (by kernel_rfl)
  obtain ⟨x1, e1, k1⟩ := rd9 h1
  obtain rfl := (List.cons.inj e1).1
  obtain rfl := h.nil_inv
  subst ea1
  subst ea0
  obtain ⟨k, hk⟩ := hp x0 x1 k0 k1
  exact (f4_ok hk).mono fun e H' ⟨v, h1, _, h2⟩ => by rw [h1, h2]
end Go.Proofs.YtgmejigjajcbfaaGreatDoor
