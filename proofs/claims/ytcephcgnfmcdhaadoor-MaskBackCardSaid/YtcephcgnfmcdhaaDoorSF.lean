import Derived.Test.YtcephcgnfmcdhaaDoorSM
set_option linter.unusedVariables false
set_option linter.unusedSimpArgs false
namespace Go.Proofs.YtcephcgnfmcdhaaDoor
open Go Go.Det Go.RowKit
noncomputable section
/-! 37 tipstaff/mask.floor -/
def f37 (x0 : Int) : Option Bool :=
  if x0 ≥ 0 then
    (some (decide (x0 < 64))).bind fun t7 =>
    some t7
  else
    some false
set_option maxRecDepth 20000 in
theorem f37_ok {H : Hp} {x0 : Int} {r : Bool} (hp : f37 x0 = some r) :
    SCall Tryd.prog 37 [.int .i64 x0] H (Ret fun v H' => Ext H H' ∧ R_4 r H.next H' v) := by
  unfold f37 at hp
  replace hp := topS hp
  refine SCall.g Tryd.func37 rfl rfl rfl rfl rfl (l := [(0, .v (.int .i64 x0))]) (fun _ => rfl) (fun B abB => ?_)
  refine WJ.ci 207 hp rfl rfl rfl rfl rfl rfl rfl rfl rfl (fun hc4 hp => ?_) (fun hc4 hp => ?_)
  · obtain ⟨t7, e7, hp⟩ := bindS hp
    refine WJ.cv 202 (b := t7) (H0 := ⟨.nil, 0, 0⟩) rfl rfl rfl rfl rfl rfl (by rw [← endS e7]; exact rfl) rfl ?_
    obtain rfl := endS (show some _ = some r from hp)
    exact WJ.rt 203 rfl rfl rfl (fun ids H' fr => ⟨fr.ext0, rfl⟩)
  · obtain rfl := endS (show some _ = some r from hp)
    exact WJ.rt 206 rfl rfl rfl (fun ids H' fr => ⟨fr.ext0, rfl⟩)
/-! 39 tipstaff/mask.below -/
def f39 (x0 : Int) : Option Int :=
  if x0 ≥ 64 then
    some 18446744073709551615
  else
    some (IntKind.u64.wrap ((gshl .u64 1 (IntKind.u64.wrap x0)) - 1))
set_option maxRecDepth 20000 in
theorem f39_ok {H : Hp} {x0 : Int} {r : Int} (hp : f39 x0 = some r) :
    SCall Tryd.prog 39 [.int .i64 x0] H (Ret fun v H' => Ext H H' ∧ R_22 r H.next H' v) := by
  unfold f39 at hp
  replace hp := topS hp
  refine SCall.g Tryd.func39 rfl rfl rfl rfl rfl (l := [(0, .v (.int .i64 x0))]) (fun _ => rfl) (fun B abB => ?_)
  refine WJ.ci 208 hp rfl rfl rfl rfl rfl rfl rfl rfl rfl (fun hc4 hp => ?_) (fun hc4 hp => ?_)
  · obtain rfl := endS (show some _ = some r from hp)
    exact WJ.rt 206 rfl rfl rfl (fun ids H' fr => ⟨fr.ext0, rfl⟩)
  · refine WJ.hd (v := .int .u64 (gshl .u64 1 (IntKind.u64.wrap x0))) 207 rfl rfl rfl rfl (fun ids H' fr => opD_bin rfl (evV_eq _ _ _ _ _ rfl) (evV_eq _ _ _ _ _ rfl) (bin_shl (nn_u64 _))) rfl ?_
    obtain rfl := endS (show some _ = some r from hp)
    exact WJ.rt 203 rfl rfl rfl (fun ids H' fr => ⟨fr.ext0, rfl⟩)
/-! 16 tipstaff/mask.Put -/
def f16 (x0 : Int) (x1 : Int) (x2 : Int) (x3 : Bool) : Option (Int × Int) :=
  (f37 x1).bind fun t12 =>
  if t12 then
    (f37 x2).bind fun t16 =>
    if t16 then
      if x1 > x2 then
        some (0, 2)
      else
        (f39 (IntKind.i64.wrap (x2 + 1))).bind fun t26 =>
        (f39 x1).bind fun t28 =>
        if x3 then
          some (bits .or .u64 x0 (bits .andNot .u64 t26 t28), 0)
        else
          some (bits .andNot .u64 x0 (bits .andNot .u64 t26 t28), 0)
    else
      some (0, 2)
  else
    some (0, 2)
set_option maxRecDepth 20000 in
theorem f16_ok {H : Hp} {x0 : Int} {x1 : Int} {x2 : Int} {x3 : Bool} {r : Int × Int} (hp : f16 x0 x1 x2 x3 = some r) :
    SCall Tryd.prog 16 [.int .u64 x0, .int .i64 x1, .int .i64 x2, .bool x3] H (Ret fun v H' => Ext H H' ∧ R_22_24 r H.next H' v) := by
  unfold f16 at hp
  replace hp := topS hp
  refine SCall.g Tryd.func16 rfl rfl rfl rfl rfl (l := [(0, .v (.int .u64 x0)), (1, .v (.int .i64 x1)), (2, .v (.int .i64 x2)), (3, .v (.bool x3))]) (fun _ => rfl) (fun B abB => ?_)
  obtain ⟨t12, e12, hp⟩ := bindS hp
  refine WJ.cl 209 (R := R_4 t12) (fun hm h k => R_4.mono hm h k) rfl (fun ids H' fr => f37_ok e12) ?_
  rintro v B1 ⟨abB1, ivB1⟩ rfl
  refine ⟨_, rfl, ?_⟩
  cases t12
  · replace hp := (itS hp).2 Bool.false_ne_true
    obtain rfl := endS (show some _ = some r from hp)
    exact WJ.rt 218 rfl rfl rfl (fun ids H' fr => ⟨fr.ext0, rfl⟩)
  · replace hp := (itS hp).1 rfl
    obtain ⟨t16, e16, hp⟩ := bindS hp
    refine WJ.cl 203 (R := R_4 t16) (fun hm h k => R_4.mono hm h k) rfl (fun ids H' fr => f37_ok e16) ?_
    rintro v B2 ⟨abB2, ivB2⟩ rfl
    refine ⟨_, rfl, ?_⟩
    cases t16
    · replace hp := (itS hp).2 Bool.false_ne_true
      obtain rfl := endS (show some _ = some r from hp)
      exact WJ.rt 214 rfl rfl rfl (fun ids H' fr => ⟨fr.ext0, rfl⟩)
    · replace hp := (itS hp).1 rfl
      refine WJ.ci 205 hp rfl rfl rfl rfl rfl rfl rfl rfl rfl (fun hc22 hp => ?_) (fun hc22 hp => ?_)
      · obtain rfl := endS (show some _ = some r from hp)
        exact WJ.rt 208 rfl rfl rfl (fun ids H' fr => ⟨fr.ext0, rfl⟩)
      · obtain ⟨t26, e26, hp⟩ := bindS hp
        refine WJ.cl 208 (R := R_22 t26) (fun hm h k => R_22.mono hm h k) rfl (fun ids H' fr => f39_ok e26) ?_
        rintro v B3 ⟨abB3, ivB3⟩ rfl
        refine ⟨_, rfl, ?_⟩
        obtain ⟨t28, e28, hp⟩ := bindS hp
        refine WJ.cl 201 (R := R_22 t28) (fun hm h k => R_22.mono hm h k) rfl (fun ids H' fr => f39_ok e28) ?_
        rintro v B4 ⟨abB4, ivB4⟩ rfl
        refine ⟨_, rfl, ?_⟩
        cases x3
        · replace hp := (itS hp).2 Bool.false_ne_true
          obtain rfl := endS (show some _ = some r from hp)
          exact WJ.rt 218 rfl rfl rfl (fun ids H' fr => ⟨fr.ext0, rfl⟩)
        · replace hp := (itS hp).1 rfl
          obtain rfl := endS (show some _ = some r from hp)
          exact WJ.rt 217 rfl rfl rfl (fun ids H' fr => ⟨fr.ext0, rfl⟩)
/-! 26 tipstaff/mask.Has -/
def f26 (x0 : Int) (x1 : Int) : Option Bool :=
  (f37 x1).bind fun t6 =>
  if t6 then
    (some ((bits .and .u64 x0 (gshl .u64 1 (IntKind.u64.wrap x1))) != 0)).bind fun t13 =>
    some t13
  else
    some false
set_option maxRecDepth 20000 in
theorem f26_ok {H : Hp} {x0 : Int} {x1 : Int} {r : Bool} (hp : f26 x0 x1 = some r) :
    SCall Tryd.prog 26 [.int .u64 x0, .int .i64 x1] H (Ret fun v H' => Ext H H' ∧ R_4 r H.next H' v) := by
  unfold f26 at hp
  replace hp := topS hp
  refine SCall.g Tryd.func26 rfl rfl rfl rfl rfl (l := [(0, .v (.int .u64 x0)), (1, .v (.int .i64 x1))]) (fun _ => rfl) (fun B abB => ?_)
  obtain ⟨t6, e6, hp⟩ := bindS hp
  refine WJ.cl 207 (R := R_4 t6) (fun hm h k => R_4.mono hm h k) rfl (fun ids H' fr => f37_ok e6) ?_
  rintro v B1 ⟨abB1, ivB1⟩ rfl
  refine ⟨_, rfl, ?_⟩
  cases t6
  · replace hp := (itS hp).2 Bool.false_ne_true
    obtain rfl := endS (show some _ = some r from hp)
    exact WJ.rt 210 rfl rfl rfl (fun ids H' fr => ⟨fr.ext0, rfl⟩)
  · replace hp := (itS hp).1 rfl
    refine WJ.hd (v := .int .u64 (gshl .u64 1 (IntKind.u64.wrap x1))) 204 rfl rfl rfl rfl (fun ids H' fr => opD_bin rfl (evV_eq _ _ _ _ _ rfl) (evV_eq _ _ _ _ _ rfl) (bin_shl (nn_u64 _))) rfl ?_
    obtain ⟨t13, e13, hp⟩ := bindS hp
    refine WJ.cv 201 (b := t13) (H0 := ⟨.nil, 0, 0⟩) rfl rfl rfl rfl rfl rfl (by rw [← endS e13]; exact rfl) rfl ?_
    obtain rfl := endS (show some _ = some r from hp)
    exact WJ.rt 203 rfl rfl rfl (fun ids H' fr => ⟨fr.ext0, rfl⟩)
/-! 20 tipstaff/mask.Above -/
def f20 (x0 : Int) (x1 : Int) : Option (Int × Int) :=
  (f37 x1).bind fun t8 =>
  if t8 then
    (f39 (IntKind.i64.wrap (x1 + 1))).bind fun t13 =>
    if (bits .andNot .u64 x0 t13) = 0 then
      some (0, 6)
    else
      (f41 (bits .andNot .u64 x0 t13)).bind fun t18 =>
      some (t18, 0)
  else
    some (0, 2)
set_option maxRecDepth 20000 in
theorem f20_ok {H : Hp} {x0 : Int} {x1 : Int} {r : Int × Int} (hp : f20 x0 x1 = some r) :
    SCall Tryd.prog 20 [.int .u64 x0, .int .i64 x1] H (Ret fun v H' => Ext H H' ∧ R_3_24 r H.next H' v) := by
  unfold f20 at hp
  replace hp := topS hp
  refine SCall.g Tryd.func20 rfl rfl rfl rfl rfl (l := [(0, .v (.int .u64 x0)), (1, .v (.int .i64 x1))]) (fun _ => rfl) (fun B abB => ?_)
  obtain ⟨t8, e8, hp⟩ := bindS hp
  refine WJ.cl 209 (R := R_4 t8) (fun hm h k => R_4.mono hm h k) rfl (fun ids H' fr => f37_ok e8) ?_
  rintro v B1 ⟨abB1, ivB1⟩ rfl
  refine ⟨_, rfl, ?_⟩
  cases t8
  · replace hp := (itS hp).2 Bool.false_ne_true
    obtain rfl := endS (show some _ = some r from hp)
    exact WJ.rt 208 rfl rfl rfl (fun ids H' fr => ⟨fr.ext0, rfl⟩)
  · replace hp := (itS hp).1 rfl
    obtain ⟨t13, e13, hp⟩ := bindS hp
    refine WJ.cl 209 (R := R_22 t13) (fun hm h k => R_22.mono hm h k) rfl (fun ids H' fr => f39_ok e13) ?_
    rintro v B2 ⟨abB2, ivB2⟩ rfl
    refine ⟨_, rfl, ?_⟩
    refine WJ.ci 207 hp rfl rfl rfl rfl rfl rfl rfl rfl rfl (fun hc16 hp => ?_) (fun hc16 hp => ?_)
    · obtain rfl := endS (show some _ = some r from hp)
      exact WJ.rt 207 rfl rfl rfl (fun ids H' fr => ⟨fr.ext0, rfl⟩)
    · obtain ⟨t18, e18, hp⟩ := bindS hp
      refine WJ.cl 206 (R := R_3 t18) (fun hm h k => R_3.mono hm h k) rfl (fun ids H' fr => f41_ok e18) ?_
      rintro v B3 ⟨abB3, ivB3⟩ rfl
      refine ⟨_, rfl, ?_⟩
      obtain rfl := endS (show some _ = some r from hp)
      exact WJ.rt 203 rfl rfl rfl (fun ids H' fr => ⟨fr.ext0, rfl⟩)
/-! 21 tipstaff/mask.Below -/
def f21 (x0 : Int) (x1 : Int) : Option (Int × Int) :=
  (f37 x1).bind fun t8 =>
  if t8 then
    (f39 x1).bind fun t12 =>
    if (bits .and .u64 x0 t12) = 0 then
      some (0, 6)
    else
      (f45 (bits .and .u64 x0 t12)).bind fun t17 =>
      some (IntKind.i64.wrap (t17 - 1), 0)
  else
    some (0, 2)
set_option maxRecDepth 20000 in
theorem f21_ok {H : Hp} {x0 : Int} {x1 : Int} {r : Int × Int} (hp : f21 x0 x1 = some r) :
    SCall Tryd.prog 21 [.int .u64 x0, .int .i64 x1] H (Ret fun v H' => Ext H H' ∧ R_3_24 r H.next H' v) := by
  unfold f21 at hp
  replace hp := topS hp
  refine SCall.g Tryd.func21 rfl rfl rfl rfl rfl (l := [(0, .v (.int .u64 x0)), (1, .v (.int .i64 x1))]) (fun _ => rfl) (fun B abB => ?_)
  obtain ⟨t8, e8, hp⟩ := bindS hp
  refine WJ.cl 209 (R := R_4 t8) (fun hm h k => R_4.mono hm h k) rfl (fun ids H' fr => f37_ok e8) ?_
  rintro v B1 ⟨abB1, ivB1⟩ rfl
  refine ⟨_, rfl, ?_⟩
  cases t8
  · replace hp := (itS hp).2 Bool.false_ne_true
    obtain rfl := endS (show some _ = some r from hp)
    exact WJ.rt 208 rfl rfl rfl (fun ids H' fr => ⟨fr.ext0, rfl⟩)
  · replace hp := (itS hp).1 rfl
    obtain ⟨t12, e12, hp⟩ := bindS hp
    refine WJ.cl 208 (R := R_22 t12) (fun hm h k => R_22.mono hm h k) rfl (fun ids H' fr => f39_ok e12) ?_
    rintro v B2 ⟨abB2, ivB2⟩ rfl
    refine ⟨_, rfl, ?_⟩
    refine WJ.ci 207 hp rfl rfl rfl rfl rfl rfl rfl rfl rfl (fun hc15 hp => ?_) (fun hc15 hp => ?_)
    · obtain rfl := endS (show some _ = some r from hp)
      exact WJ.rt 207 rfl rfl rfl (fun ids H' fr => ⟨fr.ext0, rfl⟩)
    · obtain ⟨t17, e17, hp⟩ := bindS hp
      refine WJ.cl 206 (R := R_3 t17) (fun hm h k => R_3.mono hm h k) rfl (fun ids H' fr => f45_ok e17) ?_
      rintro v B3 ⟨abB3, ivB3⟩ rfl
      refine ⟨_, rfl, ?_⟩
      obtain rfl := endS (show some _ = some r from hp)
      exact WJ.rt 204 rfl rfl rfl (fun ids H' fr => ⟨fr.ext0, rfl⟩)
/-! 22 tipstaff/mask.Nearest -/
def f22 (x0 : Int) (x1 : Int) : Option (Int × Int) :=
  (f37 x1).bind fun t11 =>
  if t11 then
    (f26 x0 x1).bind fun t15 =>
    if t15 then
      some (x1, 0)
    else
      (f20 x0 x1).bind fun (t20_0, t20_1) =>
      (f21 x0 x1).bind fun (t26_0, t26_1) =>
      (if t20_1 = 0 then
        if t20_1 = 0 then
          if t26_1 = 0 then
            if (IntKind.i64.wrap (x1 - t26_0)) ≤ (IntKind.i64.wrap (t20_0 - x1)) then
              some (Sum.inl ((t26_0, 0) : Int × Int))
            else
              some (Sum.inr ())
          else
            some (Sum.inr ())
        else
          some (Sum.inl ((t26_0, 0) : Int × Int))
      else
        if t26_1 = 0 then
          if t20_1 = 0 then
            if t26_1 = 0 then
              if (IntKind.i64.wrap (x1 - t26_0)) ≤ (IntKind.i64.wrap (t20_0 - x1)) then
                some (Sum.inl ((t26_0, 0) : Int × Int))
              else
                some (Sum.inr ())
            else
              some (Sum.inr ())
          else
            some (Sum.inl ((t26_0, 0) : Int × Int))
        else
          some (Sum.inl ((0, 6) : Int × Int))).bind fun s => match s with
        | .inl st => some st
        | .inr _ => 
          some (t20_0, 0)
  else
    some (0, 2)
set_option maxRecDepth 20000 in
theorem f22_ok {H : Hp} {x0 : Int} {x1 : Int} {r : Int × Int} (hp : f22 x0 x1 = some r) :
    SCall Tryd.prog 22 [.int .u64 x0, .int .i64 x1] H (Ret fun v H' => Ext H H' ∧ R_3_24 r H.next H' v) := by
  unfold f22 at hp
  replace hp := topS hp
  refine SCall.g Tryd.func22 rfl rfl rfl rfl rfl (l := [(0, .v (.int .u64 x0)), (1, .v (.int .i64 x1))]) (fun _ => rfl) (fun B abB => ?_)
  obtain ⟨t11, e11, hp⟩ := bindS hp
  refine WJ.cl 209 (R := R_4 t11) (fun hm h k => R_4.mono hm h k) rfl (fun ids H' fr => f37_ok e11) ?_
  rintro v B1 ⟨abB1, ivB1⟩ rfl
  refine ⟨_, rfl, ?_⟩
  cases t11
  · replace hp := (itS hp).2 Bool.false_ne_true
    obtain rfl := endS (show some _ = some r from hp)
    exact WJ.rt 208 rfl rfl rfl (fun ids H' fr => ⟨fr.ext0, rfl⟩)
  · replace hp := (itS hp).1 rfl
    obtain ⟨t15, e15, hp⟩ := bindS hp
    refine WJ.cl 209 (R := R_4 t15) (fun hm h k => R_4.mono hm h k) rfl (fun ids H' fr => f26_ok e15) ?_
    rintro v B2 ⟨abB2, ivB2⟩ rfl
    refine ⟨_, rfl, ?_⟩
    cases t15
    · replace hp := (itS hp).2 Bool.false_ne_true
      obtain ⟨⟨t20_0, t20_1⟩, e20, hp⟩ := bindS hp
      refine WJ.cl 207 (R := R_3_24 ⟨t20_0, t20_1⟩) (fun hm h k => R_3_24.mono hm h k) rfl (fun ids H' fr => f20_ok e20) ?_
      rintro v B3 ⟨abB3, ivB3⟩ rfl
      refine ⟨_, rfl, ?_⟩
      obtain ⟨⟨t26_0, t26_1⟩, e26, hp⟩ := bindS hp
      refine WJ.cl 210 (R := R_3_24 ⟨t26_0, t26_1⟩) (fun hm h k => R_3_24.mono hm h k) rfl (fun ids H' fr => f21_ok e26) ?_
      rintro v B4 ⟨abB4, ivB4⟩ rfl
      refine ⟨_, rfl, ?_⟩
      refine WJ.adv 9 rfl ?_
      obtain ⟨K1, hK1, hp⟩ : ∃ K, K = _ ∧ Option.bind _ K = some r := ⟨_, rfl, cutS hp⟩
      refine WJ.cut 3 (α := Unit) (fun y => [(6, .v (.int .i64 t20_0))]) (fun y => []) (fun y => []) (fun y => B4) (fun y => K1 ((Sum.inr ())) = some r) ?_ (fun j1 => ?_)
      · rintro u hp
        subst hK1
        show WJ _ _ _ B4 [] _ _ ⟨[(6, .v (.int .i64 t20_0))], [], true, 0⟩
        obtain rfl := endS (show some _ = some r from hp)
        exact WJ.rt 206 rfl rfl rfl (fun ids H' fr => ⟨fr.ext0, rfl⟩)
      · refine WJ.cn 202 hp rfl rfl rfl rfl rfl rfl rfl rfl rfl (fun hc31 hp => ?_) (fun hc31 hp => ?_)
        · refine WJ.cn 202 hp rfl rfl rfl rfl rfl rfl rfl rfl rfl (fun hc34 hp => ?_) (fun hc34 hp => ?_)
          · subst hK1
            obtain rfl := endS (show some _ = some r from hp)
            exact WJ.rt 209 rfl rfl rfl (fun ids H' fr => ⟨fr.ext0, rfl⟩)
          · refine WJ.cn 207 hp rfl rfl rfl rfl rfl rfl rfl rfl rfl (fun hc38 hp => ?_) (fun hc38 hp => ?_)
            · subst hK1
              obtain rfl := endS (show some _ = some r from hp)
              exact WJ.rt 222 rfl rfl rfl (fun ids H' fr => ⟨fr.ext0, rfl⟩)
            · refine WJ.ci 202 hp rfl rfl rfl rfl rfl rfl rfl rfl rfl (fun hc41 hp => ?_) (fun hc41 hp => ?_)
              · refine WJ.ci 207 hp rfl rfl rfl rfl rfl rfl rfl rfl rfl (fun hc49 hp => ?_) (fun hc49 hp => ?_)
                · subst hK1
                  obtain rfl := endS (show some _ = some r from hp)
                  exact WJ.rt 211 rfl rfl rfl (fun ids H' fr => ⟨fr.ext0, rfl⟩)
                · exact WJ.goto 7 (j1 () hp) rfl rfl (by exact ⟨rfl, trivial⟩) rfl rfl rfl
              · exact WJ.goto 15 (j1 () hp) rfl rfl (by exact ⟨rfl, trivial⟩) rfl rfl rfl
        · refine WJ.cn 210 hp rfl rfl rfl rfl rfl rfl rfl rfl rfl (fun hc38 hp => ?_) (fun hc38 hp => ?_)
          · subst hK1
            obtain rfl := endS (show some _ = some r from hp)
            exact WJ.rt 222 rfl rfl rfl (fun ids H' fr => ⟨fr.ext0, rfl⟩)
          · refine WJ.ci 202 hp rfl rfl rfl rfl rfl rfl rfl rfl rfl (fun hc41 hp => ?_) (fun hc41 hp => ?_)
            · refine WJ.ci 207 hp rfl rfl rfl rfl rfl rfl rfl rfl rfl (fun hc49 hp => ?_) (fun hc49 hp => ?_)
              · subst hK1
                obtain rfl := endS (show some _ = some r from hp)
                exact WJ.rt 211 rfl rfl rfl (fun ids H' fr => ⟨fr.ext0, rfl⟩)
              · exact WJ.goto 7 (j1 () hp) rfl rfl (by exact ⟨rfl, trivial⟩) rfl rfl rfl
            · exact WJ.goto 15 (j1 () hp) rfl rfl (by exact ⟨rfl, trivial⟩) rfl rfl rfl
    · replace hp := (itS hp).1 rfl
      obtain rfl := endS (show some _ = some r from hp)
      exact WJ.rt 208 rfl rfl rfl (fun ids H' fr => ⟨fr.ext0, rfl⟩)
/-! 50 tipstaff/mask.number -/
def f50_l1 (x0 : List UInt8) : Nat → Int → Nat → Option ((Int × Bool) ⊕ (Int))
  | 0, _, _ => none
  | n + 1, x4, p0 =>
    if p0 < x0.length then
      (if (decL x0 p0) < 48 then
        some (Sum.inl ((0, false) : Int × Bool))
      else
        if (decL x0 p0) > 57 then
          some (Sum.inl ((0, false) : Int × Bool))
        else
          if ((p0 : Nat) : Int) > 1 then
            some (Sum.inl ((0, false) : Int × Bool))
          else
            if ((p0 : Nat) : Int) = 1 then
              if x4 = 0 then
                some (Sum.inl ((0, false) : Int × Bool))
              else
                some (Sum.inr ())
            else
              some (Sum.inr ())).bind fun s => match s with
        | .inl st => some (Sum.inl st)
        | .inr _ => 
          f50_l1 x0 n (IntKind.i64.wrap ((IntKind.i64.wrap (10 * x4)) + (IntKind.i64.wrap (IntKind.i32.wrap ((decL x0 p0) - 48))))) (p0 + decN x0 p0)
    else
      some (Sum.inr x4)

def f50 (k : Nat) (x0 : List UInt8) : Option (Int × Bool) :=
  (f50_l1 x0 k 0 0).bind fun s => match s with
    | .inl st => some st
    | .inr x4_2 => 
      (some (!decide (x0 = ([] : List UInt8)))).bind fun t39 =>
      some (x4_2, t39)
set_option maxRecDepth 20000 in
theorem f50_ok {k : Nat} {H : Hp} {x0 : List UInt8} {r : Int × Bool} (hp : f50 k x0 = some r) :
    SCall Tryd.prog 50 [.string (bs x0)] H (Ret fun v H' => Ext H H' ∧ R_3_4 r H.next H' v) := by
  unfold f50 at hp
  replace hp := topS hp
  refine SCall.g Tryd.func50 rfl rfl rfl rfl rfl (l := [(0, .v (.string (bs x0)))]) (fun _ => rfl) (fun B abB => ?_)
  refine WJ.rg 213 rfl rfl rfl rfl rfl us9 rfl ?_
  rintro b8 B1 ⟨abB1, ivB1⟩ h08 it8
  refine ⟨_, rfl, ?_⟩
  refine WJ.adv 2 rfl ?_
  obtain ⟨K2, hK2, hp⟩ : ∃ K, K = _ ∧ Option.bind _ K = some r := ⟨_, rfl, cutS hp⟩
  refine WJ.cut 2 (α := Int × Hp) (fun y => [(0, .v (.string (bs x0))), (4, .v (.int .i64 y.1))]) (fun y => []) (fun y => []) (fun y => y.2) (fun y => K2 (Sum.inr y.1) = some r) ?_ (fun j2 => ?_)
  · rintro ⟨x4_2, B4⟩ hp
    subst hK2
    show WJ _ _ _ B4 [] _ _ ⟨[(0, .v (.string (bs x0))), (4, .v (.int .i64 x4_2))], [], true, 0⟩
    obtain ⟨t39, e39, hp⟩ := bindS hp
    refine WJ.cv 204 (b := t39) (H0 := ⟨.nil, 0, 0⟩) rfl rfl rfl rfl rfl rfl (by rw [← endS e39]; exact (opD_strne rfl rfl rfl)) rfl ?_
    obtain rfl := endS (show some _ = some r from hp)
    exact WJ.rt 203 rfl rfl rfl (fun ids H' fr => ⟨fr.ext0, rfl⟩)
  · refine WJ.lp 200 (α := Nat × Int × Nat × Hp) (fun y => [(0, .v (.string (bs x0))), (4, .v (.int .i64 y.2.1)), (8, .v (.pointer (some ⟨b8, 0, none⟩)))]) (fun y => []) (fun y => []) (fun y => y.2.2.2) (fun y => y.1) (fun y => Option.bind (f50_l1 x0 y.1 y.2.1 y.2.2.1) K2 = some r ∧ y.2.2.2.get b8 = some (.iter (bs x0) y.2.2.1)) (k, 0, 0, B1) rfl ⟨hp, it8⟩ (by exact ⟨rfl, rfl, rfl, trivial⟩) rfl rfl rfl ?_
    rintro ⟨n, x4, p0, B2⟩ ⟨hp, it8⟩ ih2
    show WJ _ _ _ B2 [] _ _ ⟨[(0, .v (.string (bs x0))), (4, .v (.int .i64 x4)), (8, .v (.pointer (some ⟨b8, 0, none⟩)))], [], true, 0⟩
    replace hp : Option.bind (f50_l1 x0 n x4 p0) K2 = some r := hp
    cases n with
    | zero => rw [f50_l1] at hp; exact (noS hp).elim
    | succ n =>
      rw [f50_l1] at hp
      refine WJ.nx 202 hp rfl rfl rfl rfl rfl rfl it8 h08 rfl rfl (fun hp B3 abB3 neB3 it_new => ?_) (fun hp => ?_)
      · replace it8 := it_new
        refine WJ.adv 15 rfl ?_
        obtain ⟨K3, hK3, hp⟩ : ∃ K, K = _ ∧ Option.bind _ K = some r := ⟨_, rfl, cutS hp⟩
        refine WJ.cut 2 (α := Unit) (fun y => [(0, .v (.string (bs x0))), (4, .v (.int .i64 x4)), (6, .v (.int .i32 (decL x0 p0))), (8, .v (.pointer (some ⟨b8, 0, none⟩)))]) (fun y => []) (fun y => []) (fun y => B3) (fun y => K3 ((Sum.inr ())) = some r) ?_ (fun j3 => ?_)
        · rintro u hp
          subst hK3
          show WJ _ _ _ B3 [] _ _ ⟨[(0, .v (.string (bs x0))), (4, .v (.int .i64 x4)), (6, .v (.int .i32 (decL x0 p0))), (8, .v (.pointer (some ⟨b8, 0, none⟩)))], [], true, 0⟩
          exact WJ.ag 210 rfl (by exact ⟨rfl, rfl, rfl, trivial⟩) rfl rfl rfl (ih2 (n, IntKind.i64.wrap ((IntKind.i64.wrap (10 * x4)) + (IntKind.i64.wrap (IntKind.i32.wrap ((decL x0 p0) - 48)))), (p0 + decN x0 p0), B3) ⟨hp, it8⟩ (Nat.lt_succ_self _))
        · refine WJ.ci 202 hp rfl rfl rfl rfl rfl rfl rfl rfl rfl (fun hc14 hp => ?_) (fun hc14 hp => ?_)
          · subst hK3
            subst hK2
            obtain rfl := endS (show some _ = some r from hp)
            exact WJ.rt 223 rfl rfl rfl (fun ids H' fr => ⟨fr.ext0, rfl⟩)
          · refine WJ.ci 202 hp rfl rfl rfl rfl rfl rfl rfl rfl rfl (fun hc17 hp => ?_) (fun hc17 hp => ?_)
            · subst hK3
              subst hK2
              obtain rfl := endS (show some _ = some r from hp)
              exact WJ.rt 220 rfl rfl rfl (fun ids H' fr => ⟨fr.ext0, rfl⟩)
            · refine WJ.ci 203 hp rfl rfl rfl rfl rfl rfl rfl rfl rfl (fun hc21 hp => ?_) (fun hc21 hp => ?_)
              · subst hK3
                subst hK2
                obtain rfl := endS (show some _ = some r from hp)
                exact WJ.rt 216 rfl rfl rfl (fun ids H' fr => ⟨fr.ext0, rfl⟩)
              · refine WJ.ci 203 hp rfl rfl rfl rfl rfl rfl rfl rfl rfl (fun hc25 hp => ?_) (fun hc25 hp => ?_)
                · refine WJ.ci 202 hp rfl rfl rfl rfl rfl rfl rfl rfl rfl (fun hc28 hp => ?_) (fun hc28 hp => ?_)
                  · subst hK3
                    subst hK2
                    obtain rfl := endS (show some _ = some r from hp)
                    exact WJ.rt 209 rfl rfl rfl (fun ids H' fr => ⟨fr.ext0, rfl⟩)
                  · exact WJ.goto 5 (j3 () hp) rfl rfl (by exact ⟨rfl, rfl, rfl, rfl, trivial⟩) rfl rfl rfl
                · exact WJ.goto 8 (j3 () hp) rfl rfl (by exact ⟨rfl, rfl, rfl, rfl, trivial⟩) rfl rfl rfl
      · exact WJ.goto 5 (j2 (x4, B2) hp) rfl rfl (by exact ⟨rfl, rfl, trivial⟩) rfl rfl rfl
/-! 36 tipstaff/mask.read -/
def f36_l1 (k : Nat) (t15 : List (List UInt8)) : Nat → (List T47) → Int → Option (((List T47)) ⊕ ((List T47) × Bool))
  | 0, _, _ => none
  | n + 1, l0, x17 =>
    (some (decide (x17 < (t15.length : Int)))).bind fun t18 =>
    if t18 then
      (rd t15 x17).bind fun t19 =>
      (f49 t19 ([45])).bind fun (t23_0, t23_1, t23_2) =>
      if t23_2 then
        (f50 k t23_0).bind fun (t32_0, t32_1) =>
        (f50 k t23_1).bind fun (t37_0, t37_1) =>
        if t32_1 then
          if t37_1 then
            (apd 16 l0 ([(T47.mk t32_0 t37_0)])).bind fun l52 =>
            f36_l1 k t15 n l52 (IntKind.i64.wrap (x17 + 1))
          else
            some (Sum.inr (([], false) : (List T47) × Bool))
        else
          some (Sum.inr (([], false) : (List T47) × Bool))
      else
        (f50 k t23_0).bind fun (t32_0, t32_1) =>
        (f50 k t23_0).bind fun (t37_0, t37_1) =>
        if t32_1 then
          if t37_1 then
            (apd 16 l0 ([(T47.mk t32_0 (-1))])).bind fun l57 =>
            f36_l1 k t15 n l57 (IntKind.i64.wrap (x17 + 1))
          else
            some (Sum.inr (([], false) : (List T47) × Bool))
        else
          some (Sum.inr (([], false) : (List T47) × Bool))
    else
      some (Sum.inl l0)

def f36 (k : Nat) (x0 : List UInt8) : Option ((List T47) × Bool) :=
  (f48 x0 ([44])).bind fun t15 =>
  (f36_l1 k t15 k ([]) 0).bind fun s => match s with
    | .inl l0_4 => 
      some (l0_4, true)
    | .inr st => some st
set_option maxRecDepth 20000 in
theorem f36_ok {k : Nat} {H : Hp} {x0 : List UInt8} {r : (List T47) × Bool} (hp : f36 k x0 = some r) :
    SCall Tryd.prog 36 [.string (bs x0)] H (Ret fun v H' => Ext H H' ∧ R_43_4 r H.next H' v) := by
  unfold f36 at hp
  replace hp := topS hp
  refine SCall.g Tryd.func36 rfl rfl rfl rfl rfl (l := [(0, .v (.string (bs x0)))]) (fun _ => rfl) (fun B abB => ?_)
  obtain ⟨t15, e15, hp⟩ := bindS hp
  refine WJ.cl 213 (R := R_52 t15) (fun hm h k => R_52.mono hm h k) rfl (fun ids H' fr => f48_ok e15) ?_
  rintro v B1 ⟨abB1, ivB1⟩ ⟨a_t15, c_t15, rfl, g_t15⟩
  refine ⟨_, rfl, ?_⟩
  refine WJ.adv 4 rfl ?_
  refine WJ.nw 2 ?_
  obtain ⟨K4, hK4, hp⟩ : ∃ K, K = _ ∧ Option.bind _ K = some r := ⟨_, rfl, cutS hp⟩
  refine WJ.cut 2 (α := (List T47) × (Option Addr) × Nat × Hp) (fun y => [(4, .v (.slice y.2.1 y.1.length y.2.2.1))]) (fun y => []) (fun y => [⟨y.2.1, y.2.2.1, 2, encL T47.cs y.1⟩]) (fun y => y.2.2.2) (fun y => K4 (Sum.inl y.1) = some r ∧ SlF H.next y.2.2.2 strC a_t15 c_t15 t15) ?_ (fun j4 => ?_)
  · rintro ⟨l0_4, a0_4, c0_4, B8⟩ ⟨hp, g_t15⟩
    subst hK4
    show WJ _ _ _ B8 [⟨a0_4, c0_4, 2, encL T47.cs l0_4⟩] _ _ ⟨[(4, .v (.slice a0_4 l0_4.length c0_4))], [], true, 0⟩
    obtain rfl := endS (show some _ = some r from hp)
    exact WJ.rt 206 rfl rfl rfl (fun ids H' fr => ⟨fr.ext0, ⟨_, _, rfl, (fr.slOwn (j := 0) rfl rfl (Nat.le_refl _))⟩⟩)
  · refine WJ.lp 200 (α := Nat × (List T47) × Int × (Option Addr) × Nat × Hp) (fun y => [(4, .v (.slice y.2.2.2.1 y.2.1.length y.2.2.2.2.1)), (15, .v (.slice a_t15 t15.length c_t15)), (16, .v (.int .i64 ((t15.length : Nat) : Int))), (17, .v (.int .i64 y.2.2.1))]) (fun y => []) (fun y => [⟨y.2.2.2.1, y.2.2.2.2.1, 2, encL T47.cs y.2.1⟩]) (fun y => y.2.2.2.2.2) (fun y => y.1) (fun y => Option.bind (f36_l1 k t15 y.1 y.2.1 y.2.2.1) K4 = some r ∧ SlF H.next y.2.2.2.2.2 strC a_t15 c_t15 t15) (k, ([] : List T47), 0, none, 0, B1) rfl ⟨hp, g_t15⟩ (by exact ⟨rfl, rfl, rfl, rfl, trivial⟩) rfl rfl rfl ?_
    rintro ⟨n, l0, x17, a0, c0, B2⟩ ⟨hp, g_t15⟩ ih4
    show WJ _ _ _ B2 [⟨a0, c0, 2, encL T47.cs l0⟩] _ _ ⟨[(4, .v (.slice a0 l0.length c0)), (15, .v (.slice a_t15 t15.length c_t15)), (16, .v (.int .i64 ((t15.length : Nat) : Int))), (17, .v (.int .i64 x17))], [], true, 0⟩
    replace hp : Option.bind (f36_l1 k t15 n l0 x17) K4 = some r := hp
    cases n with
    | zero => rw [f36_l1] at hp; exact (noS hp).elim
    | succ n =>
      rw [f36_l1] at hp
      obtain ⟨t18, e18, hp⟩ := bindS hp
      refine WJ.cv 202 (b := t18) (H0 := ⟨.nil, 0, 0⟩) rfl rfl rfl rfl rfl rfl (by rw [← endS e18]; exact rfl) rfl ?_
      cases t18
      · replace hp := (itS hp).2 Bool.false_ne_true
        exact WJ.goto 4 (j4 (l0, a0, c0, B2) ⟨hp, g_t15⟩) rfl rfl (by exact ⟨rfl, trivial⟩) rfl rfl rfl
      · replace hp := (itS hp).1 rfl
        obtain ⟨t19, e19, hp⟩ := bindS hp
        obtain ⟨b19, o19, cs19, i19, rfl, p19⟩ := g_t15.at e19 u52 sz9
        refine WJ.hd (v := .pointer (some ⟨b19, o19, none⟩)) 208 rfl rfl rfl rfl (fun ids H' fr => opD_indexAddr rfl (evV_eq _ _ _ _ _ rfl) (evV_eq _ _ _ _ _ rfl) (i19 _)) rfl ?_
        refine WJ.hd (v := .string (bs t19)) 200 rfl rfl rfl rfl (fun ids H' fr => opD_load rfl (evV_eq _ _ _ _ _ rfl) ((p19.mono (Nat.zero_le _) (fr.abv.le (Nat.zero_le _))).load (d := 0) ag9 rfl)) rfl ?_
        obtain ⟨⟨t23_0, t23_1, t23_2⟩, e23, hp⟩ := bindS hp
        refine WJ.cl 205 (R := R_9_9_4 ⟨t23_0, t23_1, t23_2⟩) (fun hm h k => R_9_9_4.mono hm h k) rfl (fun ids H' fr => f49_ok e23) ?_
        rintro v B3 ⟨abB3, ivB3⟩ rfl
        refine ⟨_, rfl, ?_⟩
        replace g_t15 := g_t15.mono (Nat.le_refl _) (abB3.le (Nat.zero_le _))
        replace p19 := p19.mono (Nat.le_refl _) (abB3.le (Nat.zero_le _))
        cases t23_2
        · replace hp := (itS hp).2 Bool.false_ne_true
          obtain ⟨⟨t32_0, t32_1⟩, e32, hp⟩ := bindS hp
          refine WJ.cl 222 (R := R_3_4 ⟨t32_0, t32_1⟩) (fun hm h k => R_3_4.mono hm h k) rfl (fun ids H' fr => f50_ok e32) ?_
          rintro v B4 ⟨abB4, ivB4⟩ rfl
          refine ⟨_, rfl, ?_⟩
          replace g_t15 := g_t15.mono (Nat.le_refl _) (abB4.le (Nat.zero_le _))
          replace p19 := p19.mono (Nat.le_refl _) (abB4.le (Nat.zero_le _))
          obtain ⟨⟨t37_0, t37_1⟩, e37, hp⟩ := bindS hp
          refine WJ.cl 209 (R := R_3_4 ⟨t37_0, t37_1⟩) (fun hm h k => R_3_4.mono hm h k) rfl (fun ids H' fr => f50_ok e37) ?_
          rintro v B5 ⟨abB5, ivB5⟩ rfl
          refine ⟨_, rfl, ?_⟩
          replace g_t15 := g_t15.mono (Nat.le_refl _) (abB5.le (Nat.zero_le _))
          replace p19 := p19.mono (Nat.le_refl _) (abB5.le (Nat.zero_le _))
          cases t32_1
          · replace hp := (itS hp).2 Bool.false_ne_true
            subst hK4
            obtain rfl := endS (show some _ = some r from hp)
            exact WJ.rt 222 rfl rfl rfl (fun ids H' fr => ⟨fr.ext0, ⟨_, _, rfl, SlF.nil⟩⟩)
          · replace hp := (itS hp).1 rfl
            cases t37_1
            · replace hp := (itS hp).2 Bool.false_ne_true
              subst hK4
              obtain rfl := endS (show some _ = some r from hp)
              exact WJ.rt 222 rfl rfl rfl (fun ids H' fr => ⟨fr.ext0, ⟨_, _, rfl, SlF.nil⟩⟩)
            · replace hp := (itS hp).1 rfl
              refine WJ.bs (cs := encL T47.cs [(T47.mk t32_0 (-1))]) (sz := 2) (pl := [(0, .agg ⟨[.int .i64 t32_0, .int .i64 (-1)]⟩)]) 227 rfl rfl rfl rfl rfl (fun _ _ => rfl) (fun _ => by rfl) rfl rfl ?_
              intro b56
              refine ⟨_, rfl, ?_⟩
              obtain ⟨l57, e57, hp⟩ := bindS hp
              obtain ⟨bd57, rfl⟩ := apd_some e57
              refine WJ.ap (L := l0) (L2 := [(T47.mk t32_0 (-1))]) 200 0 rfl rfl rfl rfl rfl rfl rfl rfl (el43 rfl) rfl (fun _ => rfl) (fun _ => rfl) rfl (fun ids H' fr => fr.srcOwn (enc := T47.cs) (sz := 2) (j := 1) (fun _ => rfl) (by decide) rfl) bd57 ?_
              intro a57 c57
              refine ⟨_, rfl, ?_⟩
              refine WJ.pop [⟨a57, c57, 2, encL T47.cs (l0 ++ ([(T47.mk t32_0 (-1))]))⟩] rfl ?_
              exact WJ.ag 207 rfl (by exact ⟨rfl, rfl, rfl, rfl, trivial⟩) rfl rfl rfl (ih4 (n, (l0 ++ ([(T47.mk t32_0 (-1))])), IntKind.i64.wrap (x17 + 1), a57, c57, B5) ⟨hp, g_t15⟩ (Nat.lt_succ_self _))
        · replace hp := (itS hp).1 rfl
          obtain ⟨⟨t32_0, t32_1⟩, e32, hp⟩ := bindS hp
          refine WJ.cl 219 (R := R_3_4 ⟨t32_0, t32_1⟩) (fun hm h k => R_3_4.mono hm h k) rfl (fun ids H' fr => f50_ok e32) ?_
          rintro v B6 ⟨abB6, ivB6⟩ rfl
          refine ⟨_, rfl, ?_⟩
          replace g_t15 := g_t15.mono (Nat.le_refl _) (abB6.le (Nat.zero_le _))
          replace p19 := p19.mono (Nat.le_refl _) (abB6.le (Nat.zero_le _))
          obtain ⟨⟨t37_0, t37_1⟩, e37, hp⟩ := bindS hp
          refine WJ.cl 209 (R := R_3_4 ⟨t37_0, t37_1⟩) (fun hm h k => R_3_4.mono hm h k) rfl (fun ids H' fr => f50_ok e37) ?_
          rintro v B7 ⟨abB7, ivB7⟩ rfl
          refine ⟨_, rfl, ?_⟩
          replace g_t15 := g_t15.mono (Nat.le_refl _) (abB7.le (Nat.zero_le _))
          replace p19 := p19.mono (Nat.le_refl _) (abB7.le (Nat.zero_le _))
          cases t32_1
          · replace hp := (itS hp).2 Bool.false_ne_true
            subst hK4
            obtain rfl := endS (show some _ = some r from hp)
            exact WJ.rt 222 rfl rfl rfl (fun ids H' fr => ⟨fr.ext0, ⟨_, _, rfl, SlF.nil⟩⟩)
          · replace hp := (itS hp).1 rfl
            cases t37_1
            · replace hp := (itS hp).2 Bool.false_ne_true
              subst hK4
              obtain rfl := endS (show some _ = some r from hp)
              exact WJ.rt 222 rfl rfl rfl (fun ids H' fr => ⟨fr.ext0, ⟨_, _, rfl, SlF.nil⟩⟩)
            · replace hp := (itS hp).1 rfl
              refine WJ.bs (cs := encL T47.cs [(T47.mk t32_0 t37_0)]) (sz := 2) (pl := [(0, .agg ⟨[.int .i64 t32_0, .int .i64 t37_0]⟩)]) 228 rfl rfl rfl rfl rfl (fun _ _ => rfl) (fun _ => by rfl) rfl rfl ?_
              intro b51
              refine ⟨_, rfl, ?_⟩
              obtain ⟨l52, e52, hp⟩ := bindS hp
              obtain ⟨bd52, rfl⟩ := apd_some e52
              refine WJ.ap (L := l0) (L2 := [(T47.mk t32_0 t37_0)]) 200 0 rfl rfl rfl rfl rfl rfl rfl rfl (el43 rfl) rfl (fun _ => rfl) (fun _ => rfl) rfl (fun ids H' fr => fr.srcOwn (enc := T47.cs) (sz := 2) (j := 1) (fun _ => rfl) (by decide) rfl) bd52 ?_
              intro a52 c52
              refine ⟨_, rfl, ?_⟩
              refine WJ.pop [⟨a52, c52, 2, encL T47.cs (l0 ++ ([(T47.mk t32_0 t37_0)]))⟩] rfl ?_
              exact WJ.ag 207 rfl (by exact ⟨rfl, rfl, rfl, rfl, trivial⟩) rfl rfl rfl (ih4 (n, (l0 ++ ([(T47.mk t32_0 t37_0)])), IntKind.i64.wrap (x17 + 1), a52, c52, B7) ⟨hp, g_t15⟩ (Nat.lt_succ_self _))
/-! 38 (tipstaff/mask.part).alone -/
def f38 (x0 : T47) : Option Bool :=
  (some (decide ((T47.mk x0.c0 x0.c1) = (T47.mk x0.c0 (-1))))).bind fun t7 =>
  some t7
set_option maxRecDepth 20000 in
theorem f38_ok {H : Hp} {x0 : T47} {r : Bool} (hp : f38 x0 = some r) :
    SCall Tryd.prog 38 [.agg ⟨[.int .i64 x0.c0, .int .i64 x0.c1]⟩] H (Ret fun v H' => Ext H H' ∧ R_4 r H.next H' v) := by
  obtain ⟨x0_c0, x0_c1⟩ := x0
  unfold f38 at hp
  replace hp := topS hp
  refine SCall.g Tryd.func38 rfl rfl rfl rfl rfl (l := [(0, .v (.agg ⟨[.int .i64 x0_c0, .int .i64 x0_c1]⟩))]) (fun _ => rfl) (fun B abB => ?_)
  refine WJ.hp (v := .p 0 0) 208 rfl rfl rfl rfl (fun ids H' fr => opD_indexAddr rfl (evV_eq _ _ _ _ _ rfl) (evV_eq _ _ _ _ _ rfl) (idxOwn (i := 0) (len := 2) ua47 sz3 (by decide))) rfl ?_
  obtain ⟨t7, e7, hp⟩ := bindS hp
  refine WJ.cv 202 (b := t7) (H0 := ⟨.nil, 0, 0⟩) rfl rfl rfl rfl rfl rfl (by rw [← endS e7]; exact (opD_eqS rfl rfl rfl rfl gd47 (eq47 x0_c0 x0_c1 x0_c0 (-1)))) rfl ?_
  obtain rfl := endS (show some _ = some r from hp)
  exact WJ.rt 202 rfl rfl rfl (fun ids H' fr => ⟨fr.ext0, rfl⟩)
/-! 12 tipstaff/mask.Parse -/
def f12_l1 (t14_0 : List T47) : Nat → Int → Int → Int → Option ((Int) ⊕ (Int × Int))
  | 0, _, _, _ => none
  | n + 1, x6, x7, x21 =>
    (some (decide (x21 < (t14_0.length : Int)))).bind fun t22 =>
    if t22 then
      (rd t14_0 x21).bind fun t23 =>
      (f37 t23.c0).bind fun t28 =>
      if t28 then
        if t23.c1 > 63 then
          some (Sum.inr ((0, 2) : Int × Int))
        else
          ((f38 (T47.mk t23.c0 t23.c1)).bind fun t37 =>
          if t37 then
            if t23.c0 < (IntKind.i64.wrap (x7 + 2)) then
              some (Sum.inl ((0, 8) : Int × Int))
            else
              some (Sum.inr ())
          else
            if t23.c1 ≤ t23.c0 then
              some (Sum.inl ((0, 8) : Int × Int))
            else
              if t23.c0 < (IntKind.i64.wrap (x7 + 2)) then
                some (Sum.inl ((0, 8) : Int × Int))
              else
                some (Sum.inr ())).bind fun s => match s with
            | .inl st => some (Sum.inr st)
            | .inr _ => 
              (f39 (IntKind.i64.wrap ((gmax t23.c0 t23.c1) + 1))).bind fun t61 =>
              (f39 t23.c0).bind fun t64 =>
              f12_l1 t14_0 n (bits .or .u64 x6 (bits .andNot .u64 t61 t64)) (gmax t23.c0 t23.c1) (IntKind.i64.wrap (x21 + 1))
      else
        some (Sum.inr ((0, 2) : Int × Int))
    else
      some (Sum.inl x6)

def f12 (k : Nat) (x0 : List UInt8) : Option (Int × Int) :=
  if x0 = ([110, 111, 110, 101]) then
    some (0, 0)
  else
    (f36 k x0).bind fun (t14_0, t14_1) =>
    if t14_1 then
      (f12_l1 t14_0 k 0 (-2) 0).bind fun s => match s with
        | .inl x6_5 => 
          some (x6_5, 0)
        | .inr st => some st
    else
      some (0, 3)
set_option maxRecDepth 20000 in
theorem f12_ok {k : Nat} {H : Hp} {x0 : List UInt8} {r : Int × Int} (hp : f12 k x0 = some r) :
    SCall Tryd.prog 12 [.string (bs x0)] H (Ret fun v H' => Ext H H' ∧ R_22_24 r H.next H' v) := by
  unfold f12 at hp
  replace hp := topS hp
  refine SCall.g Tryd.func12 rfl rfl rfl rfl rfl (l := [(0, .v (.string (bs x0)))]) (fun _ => rfl) (fun B abB => ?_)
  refine WJ.ci 209 hp rfl rfl rfl rfl rfl rfl (opD_streq rfl rfl rfl) rfl rfl (fun hc11 hp => ?_) (fun hc11 hp => ?_)
  · obtain rfl := endS (show some _ = some r from hp)
    exact WJ.rt 207 rfl rfl rfl (fun ids H' fr => ⟨fr.ext0, rfl⟩)
  · obtain ⟨⟨t14_0, t14_1⟩, e14, hp⟩ := bindS hp
    refine WJ.cl 206 (R := R_43_4 ⟨t14_0, t14_1⟩) (fun hm h k => R_43_4.mono hm h k) rfl (fun ids H' fr => f36_ok e14) ?_
    rintro v B1 ⟨abB1, ivB1⟩ ⟨a_t14_0, c_t14_0, rfl, g_t14_0⟩
    refine ⟨_, rfl, ?_⟩
    cases t14_1
    · replace hp := (itS hp).2 Bool.false_ne_true
      obtain rfl := endS (show some _ = some r from hp)
      exact WJ.rt 218 rfl rfl rfl (fun ids H' fr => ⟨fr.ext0, rfl⟩)
    · replace hp := (itS hp).1 rfl
      refine WJ.adv 30 rfl ?_
      obtain ⟨K5, hK5, hp⟩ : ∃ K, K = _ ∧ Option.bind _ K = some r := ⟨_, rfl, cutS hp⟩
      refine WJ.cut 2 (α := Int × Hp) (fun y => [(6, .v (.int .u64 y.1))]) (fun y => []) (fun y => []) (fun y => y.2) (fun y => K5 (Sum.inl y.1) = some r ∧ SlF H.next y.2 T47C a_t14_0 c_t14_0 t14_0) ?_ (fun j5 => ?_)
      · rintro ⟨x6_5, B9⟩ ⟨hp, g_t14_0⟩
        subst hK5
        show WJ _ _ _ B9 [] _ _ ⟨[(6, .v (.int .u64 x6_5))], [], true, 0⟩
        obtain rfl := endS (show some _ = some r from hp)
        exact WJ.rt 206 rfl rfl rfl (fun ids H' fr => ⟨fr.ext0, rfl⟩)
      · refine WJ.lp 200 (α := Nat × Int × Int × Int × Hp) (fun y => [(6, .v (.int .u64 y.2.1)), (7, .v (.int .i64 y.2.2.1)), (19, .v (.slice a_t14_0 t14_0.length c_t14_0)), (20, .v (.int .i64 ((t14_0.length : Nat) : Int))), (21, .v (.int .i64 y.2.2.2.1))]) (fun y => []) (fun y => []) (fun y => y.2.2.2.2) (fun y => y.1) (fun y => Option.bind (f12_l1 t14_0 y.1 y.2.1 y.2.2.1 y.2.2.2.1) K5 = some r ∧ SlF H.next y.2.2.2.2 T47C a_t14_0 c_t14_0 t14_0) (k, 0, (-2), 0, B1) rfl ⟨hp, g_t14_0⟩ (by exact ⟨rfl, rfl, rfl, rfl, rfl, trivial⟩) rfl rfl rfl ?_
        rintro ⟨n, x6, x7, x21, B2⟩ ⟨hp, g_t14_0⟩ ih5
        show WJ _ _ _ B2 [] _ _ ⟨[(6, .v (.int .u64 x6)), (7, .v (.int .i64 x7)), (19, .v (.slice a_t14_0 t14_0.length c_t14_0)), (20, .v (.int .i64 ((t14_0.length : Nat) : Int))), (21, .v (.int .i64 x21))], [], true, 0⟩
        replace hp : Option.bind (f12_l1 t14_0 n x6 x7 x21) K5 = some r := hp
        cases n with
        | zero => rw [f12_l1] at hp; exact (noS hp).elim
        | succ n =>
          rw [f12_l1] at hp
          obtain ⟨t22, e22, hp⟩ := bindS hp
          refine WJ.cv 202 (b := t22) (H0 := ⟨.nil, 0, 0⟩) rfl rfl rfl rfl rfl rfl (by rw [← endS e22]; exact rfl) rfl ?_
          cases t22
          · replace hp := (itS hp).2 Bool.false_ne_true
            exact WJ.goto 4 (j5 (x6, B2) ⟨hp, g_t14_0⟩) rfl rfl (by exact ⟨rfl, trivial⟩) rfl rfl rfl
          · replace hp := (itS hp).1 rfl
            obtain ⟨⟨t23_c0, t23_c1⟩, e23, hp⟩ := bindS hp
            obtain ⟨b23, o23, cs23, i23, rfl, p23⟩ := g_t14_0.at e23 u43 sz47
            refine WJ.hd (v := .pointer (some ⟨b23, o23, none⟩)) 208 rfl rfl rfl rfl (fun ids H' fr => opD_indexAddr rfl (evV_eq _ _ _ _ _ rfl) (evV_eq _ _ _ _ _ rfl) (i23 _)) rfl ?_
            refine WJ.hd (v := .agg ⟨[.int .i64 t23_c0, .int .i64 t23_c1]⟩) 200 rfl rfl rfl rfl (fun ids H' fr => opD_load rfl (evV_eq _ _ _ _ _ rfl) ((p23.mono (Nat.zero_le _) (fr.abv.le (Nat.zero_le _))).loadN (d := 0) ag47 sz47 rfl rfl)) rfl ?_
            refine WJ.hp (v := .p 0 0) 207 rfl rfl rfl rfl (fun ids H' fr => opD_indexAddr rfl (evV_eq _ _ _ _ _ rfl) (evV_eq _ _ _ _ _ rfl) (idxOwn (i := 0) (len := 2) ua47 sz3 (by decide))) rfl ?_
            obtain ⟨t28, e28, hp⟩ := bindS hp
            refine WJ.cl 201 (R := R_4 t28) (fun hm h k => R_4.mono hm h k) rfl (fun ids H' fr => f37_ok e28) ?_
            rintro v B3 ⟨abB3, ivB3⟩ rfl
            refine ⟨_, rfl, ?_⟩
            replace g_t14_0 := g_t14_0.mono (Nat.le_refl _) (abB3.le (Nat.zero_le _))
            replace p23 := p23.mono (Nat.le_refl _) (abB3.le (Nat.zero_le _))
            cases t28
            · replace hp := (itS hp).2 Bool.false_ne_true
              subst hK5
              obtain rfl := endS (show some _ = some r from hp)
              exact WJ.rt 214 rfl rfl rfl (fun ids H' fr => ⟨fr.ext0, rfl⟩)
            · replace hp := (itS hp).1 rfl
              refine WJ.hp (v := .p 0 1) 202 rfl rfl rfl rfl (fun ids H' fr => opD_indexAddr rfl (evV_eq _ _ _ _ _ rfl) (evV_eq _ _ _ _ _ rfl) (idxOwn (i := 1) (len := 2) ua47 sz3 (by decide))) rfl ?_
              refine WJ.ci 201 hp rfl rfl rfl rfl rfl rfl rfl rfl rfl (fun hc33 hp => ?_) (fun hc33 hp => ?_)
              · subst hK5
                obtain rfl := endS (show some _ = some r from hp)
                exact WJ.rt 209 rfl rfl rfl (fun ids H' fr => ⟨fr.ext0, rfl⟩)
              · refine WJ.adv 5 rfl ?_
                obtain ⟨K6, hK6, hp⟩ : ∃ K, K = _ ∧ Option.bind _ K = some r := ⟨_, rfl, cutS hp⟩
                refine WJ.cut 3 (α := Hp) (fun y => [(6, .v (.int .u64 x6)), (9, .p 0 0), (19, .v (.slice a_t14_0 t14_0.length c_t14_0)), (20, .v (.int .i64 ((t14_0.length : Nat) : Int))), (21, .v (.int .i64 x21))]) (fun y => [[.int .i64 t23_c0, .int .i64 t23_c1]]) (fun y => []) (fun y => y) (fun y => K6 ((Sum.inr ())) = some r ∧ SlF H.next y T47C a_t14_0 c_t14_0 t14_0) ?_ (fun j6 => ?_)
                · rintro B5 ⟨hp, g_t14_0⟩
                  subst hK6
                  show WJ _ _ _ B5 [] _ _ ⟨[(6, .v (.int .u64 x6)), (9, .p 0 0), (19, .v (.slice a_t14_0 t14_0.length c_t14_0)), (20, .v (.int .i64 ((t14_0.length : Nat) : Int))), (21, .v (.int .i64 x21))], [[.int .i64 t23_c0, .int .i64 t23_c1]], true, 0⟩
                  refine WJ.hp (v := .p 0 0) 202 rfl rfl rfl rfl (fun ids H' fr => opD_indexAddr rfl (evV_eq _ _ _ _ _ rfl) (evV_eq _ _ _ _ _ rfl) (idxOwn (i := 0) (len := 2) ua47 sz3 (by decide))) rfl ?_
                  refine WJ.hp (v := .p 0 1) 201 rfl rfl rfl rfl (fun ids H' fr => opD_indexAddr rfl (evV_eq _ _ _ _ _ rfl) (evV_eq _ _ _ _ _ rfl) (idxOwn (i := 1) (len := 2) ua47 sz3 (by decide))) rfl ?_
                  refine WJ.hd (v := .int .i64 (gmax t23_c0 t23_c1)) 201 rfl rfl rfl rfl (fun ids H' fr => opD_max rfl rfl rfl (evV_eq (v := .v (.int .i64 t23_c0)) _ _ _ _ _ rfl) (evV_eq (v := .v (.int .i64 t23_c1)) _ _ _ _ _ rfl)) rfl ?_
                  refine WJ.drF 202 rfl gmix (by kernel_rfl) (by kernel_rfl) rfl (fun D6 eD6 abD6 => ?_)
                  have o_g_t14_0 := g_t14_0
                  obtain ⟨t61, e61, hp⟩ := bindS hp
                  refine WD.cl (R := R_22 t61) (fun hm h k => R_22.mono hm h k) rfl (fun ids H' fr => f39_ok e61) ?_
                  rintro v B7 ⟨abB7, ivB7⟩ rfl
                  refine ⟨_, rfl, ?_⟩
                  replace g_t14_0 := g_t14_0.mono (Nat.le_refl _) (abB7.le (Nat.zero_le _))
                  refine WD.hp (v := .p 0 0) rfl rfl rfl rfl (fun ids H' s0 h0 f => side_pure rfl rfl h0 f) (fun ids H' fr => opD_indexAddr rfl (evV_eq _ _ _ _ _ rfl) (evV_eq _ _ _ _ _ rfl) (idxOwn (i := 0) (len := 2) ua47 sz3 (by decide))) rfl ?_
                  obtain ⟨t64, e64, hp⟩ := bindS hp
                  refine WD.cl (R := R_22 t64) (fun hm h k => R_22.mono hm h k) rfl (fun ids H' fr => f39_ok e64) ?_
                  rintro v B8 ⟨abB8, ivB8⟩ rfl
                  refine ⟨_, rfl, ?_⟩
                  replace g_t14_0 := g_t14_0.mono (Nat.le_refl _) (abB8.le (Nat.zero_le _))
                  refine WD.done rfl ?_
                  exact WJ.ag 205 rfl (by exact ⟨rfl, rfl, rfl, rfl, rfl, trivial⟩) rfl rfl rfl (ih5 (n, bits .or .u64 x6 (bits .andNot .u64 t61 t64), gmax t23_c0 t23_c1, IntKind.i64.wrap (x21 + 1), B8) ⟨hp, g_t14_0⟩ (Nat.lt_succ_self _))
                · obtain ⟨t37, e37, hp⟩ := bindS hp
                  refine WJ.cl 202 (R := R_4 t37) (fun hm h k => R_4.mono hm h k) rfl (fun ids H' fr => f38_ok (x0 := (T47.mk t23_c0 t23_c1)) e37) ?_
                  rintro v B4 ⟨abB4, ivB4⟩ rfl
                  refine ⟨_, rfl, ?_⟩
                  replace g_t14_0 := g_t14_0.mono (Nat.le_refl _) (abB4.le (Nat.zero_le _))
                  replace p23 := p23.mono (Nat.le_refl _) (abB4.le (Nat.zero_le _))
                  cases t37
                  · replace hp := (itS hp).2 Bool.false_ne_true
                    refine WJ.hp (v := .p 0 1) 202 rfl rfl rfl rfl (fun ids H' fr => opD_indexAddr rfl (evV_eq _ _ _ _ _ rfl) (evV_eq _ _ _ _ _ rfl) (idxOwn (i := 1) (len := 2) ua47 sz3 (by decide))) rfl ?_
                    refine WJ.hp (v := .p 0 0) 201 rfl rfl rfl rfl (fun ids H' fr => opD_indexAddr rfl (evV_eq _ _ _ _ _ rfl) (evV_eq _ _ _ _ _ rfl) (idxOwn (i := 0) (len := 2) ua47 sz3 (by decide))) rfl ?_
                    refine WJ.ci 201 hp rfl rfl rfl rfl rfl rfl rfl rfl rfl (fun hc44 hp => ?_) (fun hc44 hp => ?_)
                    · subst hK6
                      subst hK5
                      obtain rfl := endS (show some _ = some r from hp)
                      exact WJ.rt 216 rfl rfl rfl (fun ids H' fr => ⟨fr.ext0, rfl⟩)
                    · refine WJ.hp (v := .p 0 0) 202 rfl rfl rfl rfl (fun ids H' fr => opD_indexAddr rfl (evV_eq _ _ _ _ _ rfl) (evV_eq _ _ _ _ _ rfl) (idxOwn (i := 0) (len := 2) ua47 sz3 (by decide))) rfl ?_
                      refine WJ.ci 203 hp rfl rfl rfl rfl rfl rfl rfl rfl rfl (fun hc51 hp => ?_) (fun hc51 hp => ?_)
                      · subst hK6
                        subst hK5
                        obtain rfl := endS (show some _ = some r from hp)
                        exact WJ.rt 209 rfl rfl rfl (fun ids H' fr => ⟨fr.ext0, rfl⟩)
                      · exact WJ.goto 6 (j6 B4 ⟨hp, g_t14_0⟩) rfl rfl (by exact ⟨rfl, rfl, rfl, rfl, rfl, trivial⟩) rfl rfl rfl
                  · replace hp := (itS hp).1 rfl
                    refine WJ.hp (v := .p 0 0) 209 rfl rfl rfl rfl (fun ids H' fr => opD_indexAddr rfl (evV_eq _ _ _ _ _ rfl) (evV_eq _ _ _ _ _ rfl) (idxOwn (i := 0) (len := 2) ua47 sz3 (by decide))) rfl ?_
                    refine WJ.ci 203 hp rfl rfl rfl rfl rfl rfl rfl rfl rfl (fun hc51 hp => ?_) (fun hc51 hp => ?_)
                    · subst hK6
                      subst hK5
                      obtain rfl := endS (show some _ = some r from hp)
                      exact WJ.rt 209 rfl rfl rfl (fun ids H' fr => ⟨fr.ext0, rfl⟩)
                    · exact WJ.goto 6 (j6 B4 ⟨hp, g_t14_0⟩) rfl rfl (by exact ⟨rfl, rfl, rfl, rfl, rfl, trivial⟩) rfl rfl rfl
/-! 23 tipstaff/tipstafflaw02.finds -/
def f23 (x0 : Int) (x1 : Int) (x2 : Int) : Option Bool :=
  if x1 = 0 then
    (some (x0 == x2)).bind fun t12 =>
    some t12
  else
    some false
set_option maxRecDepth 20000 in
theorem f23_ok {H : Hp} {x0 : Int} {x1 : Int} {x2 : Int} {r : Bool} (hp : f23 x0 x1 x2 = some r) :
    SCall Tryd.prog 23 [.int .i64 x0, .int .i64 x1, .int .i64 x2] H (Ret fun v H' => Ext H H' ∧ R_4 r H.next H' v) := by
  unfold f23 at hp
  replace hp := topS hp
  refine SCall.g Tryd.func23 rfl rfl rfl rfl rfl (l := [(0, .v (.int .i64 x0)), (1, .v (.int .i64 x1)), (2, .v (.int .i64 x2))]) (fun _ => rfl) (fun B abB => ?_)
  refine WJ.ci 207 hp rfl rfl rfl rfl rfl rfl rfl rfl rfl (fun hc8 hp => ?_) (fun hc8 hp => ?_)
  · obtain ⟨t12, e12, hp⟩ := bindS hp
    refine WJ.cv 203 (b := t12) (H0 := ⟨.nil, 0, 0⟩) rfl rfl rfl rfl rfl rfl (by rw [← endS e12]; exact rfl) rfl ?_
    obtain rfl := endS (show some _ = some r from hp)
    exact WJ.rt 203 rfl rfl rfl (fun ids H' fr => ⟨fr.ext0, rfl⟩)
  · obtain rfl := endS (show some _ = some r from hp)
    exact WJ.rt 207 rfl rfl rfl (fun ids H' fr => ⟨fr.ext0, rfl⟩)
/-! 14 tipstaff/mask.Text -/
def f14_l1 : Nat → (List (List UInt8)) → Int → Option ((List (List UInt8)))
  | 0, _, _ => none
  | n + 1, l0, x0 =>
    if x0 = 0 then
      some (l0)
    else
      (f41 x0).bind fun t12 =>
      (f41 (bits .xor .u64 18446744073709551615 (gshr .u64 x0 (IntKind.u64.wrap t12)))).bind fun t18 =>
      (f42 t12).bind fun t20 =>
      (if t18 > 1 then
        (f42 (IntKind.i64.wrap ((IntKind.i64.wrap (t12 + t18)) - 1))).bind fun t28 =>
        (scat ([45]) t28).bind fun s29 =>
        (scat t20 s29).bind fun s30 =>
        some (s30)
      else
        some (t20)).bind fun x6_8 =>
        (apd 16 l0 ([x6_8])).bind fun l34 =>
        (f39 (IntKind.i64.wrap (t12 + t18))).bind fun t39 =>
        f14_l1 n l34 (bits .andNot .u64 x0 t39)

def f14 (k : Nat) (x0 : Int) : Option (List UInt8) :=
  if x0 = 0 then
    some ([110, 111, 110, 101])
  else
    (f14_l1 k ([]) x0).bind fun l0_7 =>
      (f43 l0_7 ([44])).bind fun t42 =>
      some t42
set_option maxRecDepth 20000 in
theorem f14_ok {k : Nat} {H : Hp} {x0 : Int} {r : List UInt8} (hp : f14 k x0 = some r) :
    SCall Tryd.prog 14 [.int .u64 x0] H (Ret fun v H' => Ext H H' ∧ R_9 r H.next H' v) := by
  unfold f14 at hp
  replace hp := topS hp
  refine SCall.g Tryd.func14 rfl rfl rfl rfl rfl (l := [(0, .v (.int .u64 x0))]) (fun _ => rfl) (fun B abB => ?_)
  refine WJ.ci 208 hp rfl rfl rfl rfl rfl rfl rfl rfl rfl (fun hc8 hp => ?_) (fun hc8 hp => ?_)
  · obtain rfl := endS (show some _ = some r from hp)
    exact WJ.rt 206 rfl rfl rfl (fun ids H' fr => ⟨fr.ext0, rfl⟩)
  · refine WJ.adv 9 rfl ?_
    refine WJ.nw 1 ?_
    obtain ⟨K7, hK7, hp⟩ : ∃ K, K = _ ∧ Option.bind _ K = some r := ⟨_, rfl, cutS hp⟩
    refine WJ.cut 2 (α := (List (List UInt8)) × (Option Addr) × Nat × Hp) (fun y => [(3, .v (.slice y.2.1 y.1.length y.2.2.1))]) (fun y => []) (fun y => [⟨y.2.1, y.2.2.1, 1, encL sE y.1⟩]) (fun y => y.2.2.2) (fun y => K7 (y.1) = some r) ?_ (fun j7 => ?_)
    · rintro ⟨l0_7, a0_7, c0_7, B8⟩ hp
      subst hK7
      show WJ _ _ _ B8 [⟨a0_7, c0_7, 1, encL sE l0_7⟩] _ _ ⟨[(3, .v (.slice a0_7 l0_7.length c0_7))], [], true, 0⟩
      obtain ⟨t42, e42, hp⟩ := bindS hp
      refine WJ.cl 203 (R := R_9 t42) (fun hm h k => R_9.mono hm h k) rfl (fun ids H' fr => f43_ok (fr.slOwn (j := 0) rfl rfl (Nat.zero_le _)) e42) ?_
      rintro v B9 ⟨abB9, ivB9⟩ rfl
      refine ⟨_, rfl, ?_⟩
      obtain rfl := endS (show some _ = some r from hp)
      exact WJ.rt 202 rfl rfl rfl (fun ids H' fr => ⟨fr.ext0, rfl⟩)
    · refine WJ.lp 200 (α := Nat × (List (List UInt8)) × Int × (Option Addr) × Nat × Hp) (fun y => [(0, .v (.int .u64 y.2.2.1)), (3, .v (.slice y.2.2.2.1 y.2.1.length y.2.2.2.2.1))]) (fun y => []) (fun y => [⟨y.2.2.2.1, y.2.2.2.2.1, 1, encL sE y.2.1⟩]) (fun y => y.2.2.2.2.2) (fun y => y.1) (fun y => Option.bind (f14_l1 y.1 y.2.1 y.2.2.1) K7 = some r) (k, ([] : List (List UInt8)), x0, none, 0, B) rfl hp (by exact ⟨rfl, rfl, trivial⟩) rfl rfl rfl ?_
      rintro ⟨n, l0, x0, a0, c0, B1⟩ hp ih7
      show WJ _ _ _ B1 [⟨a0, c0, 1, encL sE l0⟩] _ _ ⟨[(0, .v (.int .u64 x0)), (3, .v (.slice a0 l0.length c0))], [], true, 0⟩
      replace hp : Option.bind (f14_l1 n l0 x0) K7 = some r := hp
      cases n with
      | zero => rw [f14_l1] at hp; exact (noS hp).elim
      | succ n =>
        rw [f14_l1] at hp
        refine WJ.cn 204 hp rfl rfl rfl rfl rfl rfl rfl rfl rfl (fun hc10 hp => ?_) (fun hc10 hp => ?_)
        · obtain ⟨t12, e12, hp⟩ := bindS hp
          refine WJ.cl 207 (R := R_3 t12) (fun hm h k => R_3.mono hm h k) rfl (fun ids H' fr => f41_ok e12) ?_
          rintro v B2 ⟨abB2, ivB2⟩ rfl
          refine ⟨_, rfl, ?_⟩
          refine WJ.hd (v := .int .u64 (gshr .u64 x0 (IntKind.u64.wrap t12))) 207 rfl rfl rfl rfl (fun ids H' fr => opD_bin rfl (evV_eq _ _ _ _ _ rfl) (evV_eq _ _ _ _ _ rfl) (bin_shr (nn_u64 _))) rfl ?_
          obtain ⟨t18, e18, hp⟩ := bindS hp
          refine WJ.cl 201 (R := R_3 t18) (fun hm h k => R_3.mono hm h k) rfl (fun ids H' fr => f41_ok e18) ?_
          rintro v B3 ⟨abB3, ivB3⟩ rfl
          refine ⟨_, rfl, ?_⟩
          obtain ⟨t20, e20, hp⟩ := bindS hp
          refine WJ.cl 205 (R := R_9 t20) (fun hm h k => R_9.mono hm h k) rfl (fun ids H' fr => f42_ok e20) ?_
          rintro v B4 ⟨abB4, ivB4⟩ rfl
          refine ⟨_, rfl, ?_⟩
          refine WJ.adv 4 rfl ?_
          obtain ⟨K8, hK8, hp⟩ : ∃ K, K = _ ∧ Option.bind _ K = some r := ⟨_, rfl, cutS hp⟩
          refine WJ.cut 2 (α := (List UInt8) × Hp) (fun y => [(0, .v (.int .u64 x0)), (3, .v (.slice a0 l0.length c0)), (4, .v (.int .i64 t12)), (5, .v (.int .i64 t18)), (6, .v (.string (bs y.1)))]) (fun y => []) (fun y => [⟨a0, c0, 1, encL sE l0⟩]) (fun y => y.2) (fun y => K8 ((y.1)) = some r) ?_ (fun j8 => ?_)
          · rintro ⟨x6_8, B6⟩ hp
            subst hK8
            show WJ _ _ _ B6 [⟨a0, c0, 1, encL sE l0⟩] _ _ ⟨[(0, .v (.int .u64 x0)), (3, .v (.slice a0 l0.length c0)), (4, .v (.int .i64 t12)), (5, .v (.int .i64 t18)), (6, .v (.string (bs x6_8)))], [], true, 0⟩
            refine WJ.bs (cs := encL sE [x6_8]) (sz := 1) (pl := [(0, .string (bs x6_8))]) 204 rfl rfl rfl rfl rfl (fun _ _ => rfl) (fun _ => by rfl) rfl rfl ?_
            intro b33
            refine ⟨_, rfl, ?_⟩
            obtain ⟨l34, e34, hp⟩ := bindS hp
            obtain ⟨bd34, rfl⟩ := apd_some e34
            refine WJ.ap (L := l0) (L2 := [x6_8]) 200 0 rfl rfl rfl rfl rfl rfl rfl rfl (el52 rfl) rfl (fun _ => rfl) (fun _ => rfl) rfl (fun ids H' fr => fr.srcOwn (enc := sE) (sz := 1) (j := 1) (fun _ => rfl) (by decide) rfl) bd34 ?_
            intro a34 c34
            refine ⟨_, rfl, ?_⟩
            refine WJ.pop [⟨a34, c34, 1, encL sE (l0 ++ ([x6_8]))⟩] rfl ?_
            obtain ⟨t39, e39, hp⟩ := bindS hp
            refine WJ.cl 207 (R := R_22 t39) (fun hm h k => R_22.mono hm h k) rfl (fun ids H' fr => f39_ok e39) ?_
            rintro v B7 ⟨abB7, ivB7⟩ rfl
            refine ⟨_, rfl, ?_⟩
            exact WJ.ag 204 rfl (by exact ⟨rfl, rfl, trivial⟩) rfl rfl rfl (ih7 (n, (l0 ++ ([x6_8])), bits .andNot .u64 x0 t39, a34, c34, B7) hp (Nat.lt_succ_self _))
          · refine WJ.ci 202 hp rfl rfl rfl rfl rfl rfl rfl rfl rfl (fun hc22 hp => ?_) (fun hc22 hp => ?_)
            · obtain ⟨t28, e28, hp⟩ := bindS hp
              refine WJ.cl 208 (R := R_9 t28) (fun hm h k => R_9.mono hm h k) rfl (fun ids H' fr => f42_ok e28) ?_
              rintro v B5 ⟨abB5, ivB5⟩ rfl
              refine ⟨_, rfl, ?_⟩
              obtain ⟨s29, e29, hp⟩ := bindS hp
              refine WJ.hd (v := .string (bs s29)) 200 rfl rfl rfl rfl (fun ids H' fr => opD_bin rfl (evV_eq _ _ _ _ _ rfl) (evV_eq _ _ _ _ _ rfl) (bin_sadd e29)) rfl ?_
              obtain ⟨s30, e30, hp⟩ := bindS hp
              refine WJ.hd (v := .string (bs s30)) 200 rfl rfl rfl rfl (fun ids H' fr => opD_bin rfl (evV_eq _ _ _ _ _ rfl) (evV_eq _ _ _ _ _ rfl) (bin_sadd e30)) rfl ?_
              exact WJ.goto 2 (j8 (s30, B5) hp) rfl rfl (by exact ⟨rfl, rfl, rfl, rfl, rfl, trivial⟩) rfl rfl rfl
            · exact WJ.goto 3 (j8 (t20, B4) hp) rfl rfl (by exact ⟨rfl, rfl, rfl, rfl, rfl, trivial⟩) rfl rfl rfl
        · exact WJ.goto 3 (j7 (l0, a0, c0, B1) hp) rfl rfl (by exact ⟨rfl, trivial⟩) rfl rfl rfl
/-! 46 math/bits.OnesCount64 -/
def f46 (x0 : Int) : Option Int :=
  some (bits .and .i64 (IntKind.i64.wrap (IntKind.u64.wrap ((IntKind.u64.wrap ((IntKind.u64.wrap ((bits .and .u64 (IntKind.u64.wrap ((gshr .u64 (IntKind.u64.wrap ((bits .and .u64 (gshr .u64 (IntKind.u64.wrap ((bits .and .u64 (gshr .u64 x0 1) 6148914691236517205) + (bits .and .u64 x0 6148914691236517205))) 2) 3689348814741910323) + (bits .and .u64 (IntKind.u64.wrap ((bits .and .u64 (gshr .u64 x0 1) 6148914691236517205) + (bits .and .u64 x0 6148914691236517205))) 3689348814741910323))) 4) + (IntKind.u64.wrap ((bits .and .u64 (gshr .u64 (IntKind.u64.wrap ((bits .and .u64 (gshr .u64 x0 1) 6148914691236517205) + (bits .and .u64 x0 6148914691236517205))) 2) 3689348814741910323) + (bits .and .u64 (IntKind.u64.wrap ((bits .and .u64 (gshr .u64 x0 1) 6148914691236517205) + (bits .and .u64 x0 6148914691236517205))) 3689348814741910323))))) 1085102592571150095) + (gshr .u64 (bits .and .u64 (IntKind.u64.wrap ((gshr .u64 (IntKind.u64.wrap ((bits .and .u64 (gshr .u64 (IntKind.u64.wrap ((bits .and .u64 (gshr .u64 x0 1) 6148914691236517205) + (bits .and .u64 x0 6148914691236517205))) 2) 3689348814741910323) + (bits .and .u64 (IntKind.u64.wrap ((bits .and .u64 (gshr .u64 x0 1) 6148914691236517205) + (bits .and .u64 x0 6148914691236517205))) 3689348814741910323))) 4) + (IntKind.u64.wrap ((bits .and .u64 (gshr .u64 (IntKind.u64.wrap ((bits .and .u64 (gshr .u64 x0 1) 6148914691236517205) + (bits .and .u64 x0 6148914691236517205))) 2) 3689348814741910323) + (bits .and .u64 (IntKind.u64.wrap ((bits .and .u64 (gshr .u64 x0 1) 6148914691236517205) + (bits .and .u64 x0 6148914691236517205))) 3689348814741910323))))) 1085102592571150095) 8))) + (gshr .u64 (IntKind.u64.wrap ((bits .and .u64 (IntKind.u64.wrap ((gshr .u64 (IntKind.u64.wrap ((bits .and .u64 (gshr .u64 (IntKind.u64.wrap ((bits .and .u64 (gshr .u64 x0 1) 6148914691236517205) + (bits .and .u64 x0 6148914691236517205))) 2) 3689348814741910323) + (bits .and .u64 (IntKind.u64.wrap ((bits .and .u64 (gshr .u64 x0 1) 6148914691236517205) + (bits .and .u64 x0 6148914691236517205))) 3689348814741910323))) 4) + (IntKind.u64.wrap ((bits .and .u64 (gshr .u64 (IntKind.u64.wrap ((bits .and .u64 (gshr .u64 x0 1) 6148914691236517205) + (bits .and .u64 x0 6148914691236517205))) 2) 3689348814741910323) + (bits .and .u64 (IntKind.u64.wrap ((bits .and .u64 (gshr .u64 x0 1) 6148914691236517205) + (bits .and .u64 x0 6148914691236517205))) 3689348814741910323))))) 1085102592571150095) + (gshr .u64 (bits .and .u64 (IntKind.u64.wrap ((gshr .u64 (IntKind.u64.wrap ((bits .and .u64 (gshr .u64 (IntKind.u64.wrap ((bits .and .u64 (gshr .u64 x0 1) 6148914691236517205) + (bits .and .u64 x0 6148914691236517205))) 2) 3689348814741910323) + (bits .and .u64 (IntKind.u64.wrap ((bits .and .u64 (gshr .u64 x0 1) 6148914691236517205) + (bits .and .u64 x0 6148914691236517205))) 3689348814741910323))) 4) + (IntKind.u64.wrap ((bits .and .u64 (gshr .u64 (IntKind.u64.wrap ((bits .and .u64 (gshr .u64 x0 1) 6148914691236517205) + (bits .and .u64 x0 6148914691236517205))) 2) 3689348814741910323) + (bits .and .u64 (IntKind.u64.wrap ((bits .and .u64 (gshr .u64 x0 1) 6148914691236517205) + (bits .and .u64 x0 6148914691236517205))) 3689348814741910323))))) 1085102592571150095) 8))) 16))) + (gshr .u64 (IntKind.u64.wrap ((IntKind.u64.wrap ((bits .and .u64 (IntKind.u64.wrap ((gshr .u64 (IntKind.u64.wrap ((bits .and .u64 (gshr .u64 (IntKind.u64.wrap ((bits .and .u64 (gshr .u64 x0 1) 6148914691236517205) + (bits .and .u64 x0 6148914691236517205))) 2) 3689348814741910323) + (bits .and .u64 (IntKind.u64.wrap ((bits .and .u64 (gshr .u64 x0 1) 6148914691236517205) + (bits .and .u64 x0 6148914691236517205))) 3689348814741910323))) 4) + (IntKind.u64.wrap ((bits .and .u64 (gshr .u64 (IntKind.u64.wrap ((bits .and .u64 (gshr .u64 x0 1) 6148914691236517205) + (bits .and .u64 x0 6148914691236517205))) 2) 3689348814741910323) + (bits .and .u64 (IntKind.u64.wrap ((bits .and .u64 (gshr .u64 x0 1) 6148914691236517205) + (bits .and .u64 x0 6148914691236517205))) 3689348814741910323))))) 1085102592571150095) + (gshr .u64 (bits .and .u64 (IntKind.u64.wrap ((gshr .u64 (IntKind.u64.wrap ((bits .and .u64 (gshr .u64 (IntKind.u64.wrap ((bits .and .u64 (gshr .u64 x0 1) 6148914691236517205) + (bits .and .u64 x0 6148914691236517205))) 2) 3689348814741910323) + (bits .and .u64 (IntKind.u64.wrap ((bits .and .u64 (gshr .u64 x0 1) 6148914691236517205) + (bits .and .u64 x0 6148914691236517205))) 3689348814741910323))) 4) + (IntKind.u64.wrap ((bits .and .u64 (gshr .u64 (IntKind.u64.wrap ((bits .and .u64 (gshr .u64 x0 1) 6148914691236517205) + (bits .and .u64 x0 6148914691236517205))) 2) 3689348814741910323) + (bits .and .u64 (IntKind.u64.wrap ((bits .and .u64 (gshr .u64 x0 1) 6148914691236517205) + (bits .and .u64 x0 6148914691236517205))) 3689348814741910323))))) 1085102592571150095) 8))) + (gshr .u64 (IntKind.u64.wrap ((bits .and .u64 (IntKind.u64.wrap ((gshr .u64 (IntKind.u64.wrap ((bits .and .u64 (gshr .u64 (IntKind.u64.wrap ((bits .and .u64 (gshr .u64 x0 1) 6148914691236517205) + (bits .and .u64 x0 6148914691236517205))) 2) 3689348814741910323) + (bits .and .u64 (IntKind.u64.wrap ((bits .and .u64 (gshr .u64 x0 1) 6148914691236517205) + (bits .and .u64 x0 6148914691236517205))) 3689348814741910323))) 4) + (IntKind.u64.wrap ((bits .and .u64 (gshr .u64 (IntKind.u64.wrap ((bits .and .u64 (gshr .u64 x0 1) 6148914691236517205) + (bits .and .u64 x0 6148914691236517205))) 2) 3689348814741910323) + (bits .and .u64 (IntKind.u64.wrap ((bits .and .u64 (gshr .u64 x0 1) 6148914691236517205) + (bits .and .u64 x0 6148914691236517205))) 3689348814741910323))))) 1085102592571150095) + (gshr .u64 (bits .and .u64 (IntKind.u64.wrap ((gshr .u64 (IntKind.u64.wrap ((bits .and .u64 (gshr .u64 (IntKind.u64.wrap ((bits .and .u64 (gshr .u64 x0 1) 6148914691236517205) + (bits .and .u64 x0 6148914691236517205))) 2) 3689348814741910323) + (bits .and .u64 (IntKind.u64.wrap ((bits .and .u64 (gshr .u64 x0 1) 6148914691236517205) + (bits .and .u64 x0 6148914691236517205))) 3689348814741910323))) 4) + (IntKind.u64.wrap ((bits .and .u64 (gshr .u64 (IntKind.u64.wrap ((bits .and .u64 (gshr .u64 x0 1) 6148914691236517205) + (bits .and .u64 x0 6148914691236517205))) 2) 3689348814741910323) + (bits .and .u64 (IntKind.u64.wrap ((bits .and .u64 (gshr .u64 x0 1) 6148914691236517205) + (bits .and .u64 x0 6148914691236517205))) 3689348814741910323))))) 1085102592571150095) 8))) 16))) 32)))) 127)
set_option maxRecDepth 20000 in
theorem f46_ok {H : Hp} {x0 : Int} {r : Int} (hp : f46 x0 = some r) :
    SCall Tryd.prog 46 [.int .u64 x0] H (Ret fun v H' => Ext H H' ∧ R_3 r H.next H' v) := by
  unfold f46 at hp
  replace hp := topS hp
  refine SCall.g Tryd.func46 rfl rfl rfl rfl rfl (l := [(0, .v (.int .u64 x0))]) (fun _ => rfl) (fun B abB => ?_)
  refine WJ.hd (v := .int .u64 (gshr .u64 x0 1)) 207 rfl rfl rfl rfl (fun ids H' fr => opD_bin rfl (evV_eq _ _ _ _ _ rfl) (evV_eq _ _ _ _ _ rfl) (bin_shr (by decide))) rfl ?_
  refine WJ.hd (v := .int .u64 (gshr .u64 (IntKind.u64.wrap ((bits .and .u64 (gshr .u64 x0 1) 6148914691236517205) + (bits .and .u64 x0 6148914691236517205))) 2)) 209 rfl rfl rfl rfl (fun ids H' fr => opD_bin rfl (evV_eq _ _ _ _ _ rfl) (evV_eq _ _ _ _ _ rfl) (bin_shr (by decide))) rfl ?_
  refine WJ.hd (v := .int .u64 (gshr .u64 (IntKind.u64.wrap ((bits .and .u64 (gshr .u64 (IntKind.u64.wrap ((bits .and .u64 (gshr .u64 x0 1) 6148914691236517205) + (bits .and .u64 x0 6148914691236517205))) 2) 3689348814741910323) + (bits .and .u64 (IntKind.u64.wrap ((bits .and .u64 (gshr .u64 x0 1) 6148914691236517205) + (bits .and .u64 x0 6148914691236517205))) 3689348814741910323))) 4)) 209 rfl rfl rfl rfl (fun ids H' fr => opD_bin rfl (evV_eq _ _ _ _ _ rfl) (evV_eq _ _ _ _ _ rfl) (bin_shr (by decide))) rfl ?_
  refine WJ.hd (v := .int .u64 (gshr .u64 (bits .and .u64 (IntKind.u64.wrap ((gshr .u64 (IntKind.u64.wrap ((bits .and .u64 (gshr .u64 (IntKind.u64.wrap ((bits .and .u64 (gshr .u64 x0 1) 6148914691236517205) + (bits .and .u64 x0 6148914691236517205))) 2) 3689348814741910323) + (bits .and .u64 (IntKind.u64.wrap ((bits .and .u64 (gshr .u64 x0 1) 6148914691236517205) + (bits .and .u64 x0 6148914691236517205))) 3689348814741910323))) 4) + (IntKind.u64.wrap ((bits .and .u64 (gshr .u64 (IntKind.u64.wrap ((bits .and .u64 (gshr .u64 x0 1) 6148914691236517205) + (bits .and .u64 x0 6148914691236517205))) 2) 3689348814741910323) + (bits .and .u64 (IntKind.u64.wrap ((bits .and .u64 (gshr .u64 x0 1) 6148914691236517205) + (bits .and .u64 x0 6148914691236517205))) 3689348814741910323))))) 1085102592571150095) 8)) 209 rfl rfl rfl rfl (fun ids H' fr => opD_bin rfl (evV_eq _ _ _ _ _ rfl) (evV_eq _ _ _ _ _ rfl) (bin_shr (by decide))) rfl ?_
  refine WJ.hd (v := .int .u64 (gshr .u64 (IntKind.u64.wrap ((bits .and .u64 (IntKind.u64.wrap ((gshr .u64 (IntKind.u64.wrap ((bits .and .u64 (gshr .u64 (IntKind.u64.wrap ((bits .and .u64 (gshr .u64 x0 1) 6148914691236517205) + (bits .and .u64 x0 6148914691236517205))) 2) 3689348814741910323) + (bits .and .u64 (IntKind.u64.wrap ((bits .and .u64 (gshr .u64 x0 1) 6148914691236517205) + (bits .and .u64 x0 6148914691236517205))) 3689348814741910323))) 4) + (IntKind.u64.wrap ((bits .and .u64 (gshr .u64 (IntKind.u64.wrap ((bits .and .u64 (gshr .u64 x0 1) 6148914691236517205) + (bits .and .u64 x0 6148914691236517205))) 2) 3689348814741910323) + (bits .and .u64 (IntKind.u64.wrap ((bits .and .u64 (gshr .u64 x0 1) 6148914691236517205) + (bits .and .u64 x0 6148914691236517205))) 3689348814741910323))))) 1085102592571150095) + (gshr .u64 (bits .and .u64 (IntKind.u64.wrap ((gshr .u64 (IntKind.u64.wrap ((bits .and .u64 (gshr .u64 (IntKind.u64.wrap ((bits .and .u64 (gshr .u64 x0 1) 6148914691236517205) + (bits .and .u64 x0 6148914691236517205))) 2) 3689348814741910323) + (bits .and .u64 (IntKind.u64.wrap ((bits .and .u64 (gshr .u64 x0 1) 6148914691236517205) + (bits .and .u64 x0 6148914691236517205))) 3689348814741910323))) 4) + (IntKind.u64.wrap ((bits .and .u64 (gshr .u64 (IntKind.u64.wrap ((bits .and .u64 (gshr .u64 x0 1) 6148914691236517205) + (bits .and .u64 x0 6148914691236517205))) 2) 3689348814741910323) + (bits .and .u64 (IntKind.u64.wrap ((bits .and .u64 (gshr .u64 x0 1) 6148914691236517205) + (bits .and .u64 x0 6148914691236517205))) 3689348814741910323))))) 1085102592571150095) 8))) 16)) 207 rfl rfl rfl rfl (fun ids H' fr => opD_bin rfl (evV_eq _ _ _ _ _ rfl) (evV_eq _ _ _ _ _ rfl) (bin_shr (by decide))) rfl ?_
  refine WJ.hd (v := .int .u64 (gshr .u64 (IntKind.u64.wrap ((IntKind.u64.wrap ((bits .and .u64 (IntKind.u64.wrap ((gshr .u64 (IntKind.u64.wrap ((bits .and .u64 (gshr .u64 (IntKind.u64.wrap ((bits .and .u64 (gshr .u64 x0 1) 6148914691236517205) + (bits .and .u64 x0 6148914691236517205))) 2) 3689348814741910323) + (bits .and .u64 (IntKind.u64.wrap ((bits .and .u64 (gshr .u64 x0 1) 6148914691236517205) + (bits .and .u64 x0 6148914691236517205))) 3689348814741910323))) 4) + (IntKind.u64.wrap ((bits .and .u64 (gshr .u64 (IntKind.u64.wrap ((bits .and .u64 (gshr .u64 x0 1) 6148914691236517205) + (bits .and .u64 x0 6148914691236517205))) 2) 3689348814741910323) + (bits .and .u64 (IntKind.u64.wrap ((bits .and .u64 (gshr .u64 x0 1) 6148914691236517205) + (bits .and .u64 x0 6148914691236517205))) 3689348814741910323))))) 1085102592571150095) + (gshr .u64 (bits .and .u64 (IntKind.u64.wrap ((gshr .u64 (IntKind.u64.wrap ((bits .and .u64 (gshr .u64 (IntKind.u64.wrap ((bits .and .u64 (gshr .u64 x0 1) 6148914691236517205) + (bits .and .u64 x0 6148914691236517205))) 2) 3689348814741910323) + (bits .and .u64 (IntKind.u64.wrap ((bits .and .u64 (gshr .u64 x0 1) 6148914691236517205) + (bits .and .u64 x0 6148914691236517205))) 3689348814741910323))) 4) + (IntKind.u64.wrap ((bits .and .u64 (gshr .u64 (IntKind.u64.wrap ((bits .and .u64 (gshr .u64 x0 1) 6148914691236517205) + (bits .and .u64 x0 6148914691236517205))) 2) 3689348814741910323) + (bits .and .u64 (IntKind.u64.wrap ((bits .and .u64 (gshr .u64 x0 1) 6148914691236517205) + (bits .and .u64 x0 6148914691236517205))) 3689348814741910323))))) 1085102592571150095) 8))) + (gshr .u64 (IntKind.u64.wrap ((bits .and .u64 (IntKind.u64.wrap ((gshr .u64 (IntKind.u64.wrap ((bits .and .u64 (gshr .u64 (IntKind.u64.wrap ((bits .and .u64 (gshr .u64 x0 1) 6148914691236517205) + (bits .and .u64 x0 6148914691236517205))) 2) 3689348814741910323) + (bits .and .u64 (IntKind.u64.wrap ((bits .and .u64 (gshr .u64 x0 1) 6148914691236517205) + (bits .and .u64 x0 6148914691236517205))) 3689348814741910323))) 4) + (IntKind.u64.wrap ((bits .and .u64 (gshr .u64 (IntKind.u64.wrap ((bits .and .u64 (gshr .u64 x0 1) 6148914691236517205) + (bits .and .u64 x0 6148914691236517205))) 2) 3689348814741910323) + (bits .and .u64 (IntKind.u64.wrap ((bits .and .u64 (gshr .u64 x0 1) 6148914691236517205) + (bits .and .u64 x0 6148914691236517205))) 3689348814741910323))))) 1085102592571150095) + (gshr .u64 (bits .and .u64 (IntKind.u64.wrap ((gshr .u64 (IntKind.u64.wrap ((bits .and .u64 (gshr .u64 (IntKind.u64.wrap ((bits .and .u64 (gshr .u64 x0 1) 6148914691236517205) + (bits .and .u64 x0 6148914691236517205))) 2) 3689348814741910323) + (bits .and .u64 (IntKind.u64.wrap ((bits .and .u64 (gshr .u64 x0 1) 6148914691236517205) + (bits .and .u64 x0 6148914691236517205))) 3689348814741910323))) 4) + (IntKind.u64.wrap ((bits .and .u64 (gshr .u64 (IntKind.u64.wrap ((bits .and .u64 (gshr .u64 x0 1) 6148914691236517205) + (bits .and .u64 x0 6148914691236517205))) 2) 3689348814741910323) + (bits .and .u64 (IntKind.u64.wrap ((bits .and .u64 (gshr .u64 x0 1) 6148914691236517205) + (bits .and .u64 x0 6148914691236517205))) 3689348814741910323))))) 1085102592571150095) 8))) 16))) 32)) 207 rfl rfl rfl rfl (fun ids H' fr => opD_bin rfl (evV_eq _ _ _ _ _ rfl) (evV_eq _ _ _ _ _ rfl) (bin_shr (by decide))) rfl ?_
  obtain rfl := endS (show some _ = some r from hp)
  exact WJ.rt 210 rfl rfl rfl (fun ids H' fr => ⟨fr.ext0, rfl⟩)
/-! 27 tipstaff/mask.Count -/
def f27 (x0 : Int) : Option Int :=
  (f46 x0).bind fun t4 =>
  some t4
set_option maxRecDepth 20000 in
theorem f27_ok {H : Hp} {x0 : Int} {r : Int} (hp : f27 x0 = some r) :
    SCall Tryd.prog 27 [.int .u64 x0] H (Ret fun v H' => Ext H H' ∧ R_3 r H.next H' v) := by
  unfold f27 at hp
  replace hp := topS hp
  refine SCall.g Tryd.func27 rfl rfl rfl rfl rfl (l := [(0, .v (.int .u64 x0))]) (fun _ => rfl) (fun B abB => ?_)
  obtain ⟨t4, e4, hp⟩ := bindS hp
  refine WJ.cl 207 (R := R_3 t4) (fun hm h k => R_3.mono hm h k) rfl (fun ids H' fr => f46_ok e4) ?_
  rintro v B1 ⟨abB1, ivB1⟩ rfl
  refine ⟨_, rfl, ?_⟩
  obtain rfl := endS (show some _ = some r from hp)
  exact WJ.rt 202 rfl rfl rfl (fun ids H' fr => ⟨fr.ext0, rfl⟩)
/-! 11 tipstaff/tipstafflaw02.awake -/
def f11 (k : Nat) : Option Bool :=
  (f16 0 0 3 true).bind fun (t10_0, t10_1) =>
  (f16 15 1 2 false).bind fun (t14_0, t14_1) =>
  (f22 17 2).bind fun (t18_0, t18_1) =>
  (f12 k ([48, 45, 51, 44, 55])).bind fun (t22_0, t22_1) =>
  if t10_1 = 0 then
    if t10_0 = 15 then
      if t14_1 = 0 then
        if t14_0 = 9 then
          (f23 t18_0 t18_1 0).bind fun t42 =>
          if t42 then
            if t22_1 = 0 then
              if t22_0 = 143 then
                (f14 k 143).bind fun t53 =>
                if t53 = ([48, 45, 51, 44, 55]) then
                  (f26 9 3).bind fun t57 =>
                  if t57 then
                    (f26 9 2).bind fun t60 =>
                    if t60 then
                      some false
                    else
                      (f27 9).bind fun t64 =>
                      (some (t64 == 2)).bind fun t65 =>
                      some t65
                  else
                    some false
                else
                  some false
              else
                some false
            else
              some false
          else
            some false
        else
          some false
      else
        some false
    else
      some false
  else
    some false
set_option maxRecDepth 20000 in
theorem f11_ok {k : Nat} {H : Hp} {r : Bool} (hp : f11 k = some r) :
    SCall Tryd.prog 11 [] H (Ret fun v H' => Ext H H' ∧ R_4 r H.next H' v) := by
  unfold f11 at hp
  replace hp := topS hp
  refine SCall.g Tryd.func11 rfl rfl rfl rfl rfl (l := []) (fun _ => rfl) (fun B abB => ?_)
  obtain ⟨⟨t10_0, t10_1⟩, e10, hp⟩ := bindS hp
  refine WJ.cl 206 (R := R_22_24 ⟨t10_0, t10_1⟩) (fun hm h k => R_22_24.mono hm h k) rfl (fun ids H' fr => f16_ok e10) ?_
  rintro v B1 ⟨abB1, ivB1⟩ rfl
  refine ⟨_, rfl, ?_⟩
  obtain ⟨⟨t14_0, t14_1⟩, e14, hp⟩ := bindS hp
  refine WJ.cl 208 (R := R_22_24 ⟨t14_0, t14_1⟩) (fun hm h k => R_22_24.mono hm h k) rfl (fun ids H' fr => f16_ok e14) ?_
  rintro v B2 ⟨abB2, ivB2⟩ rfl
  refine ⟨_, rfl, ?_⟩
  obtain ⟨⟨t18_0, t18_1⟩, e18, hp⟩ := bindS hp
  refine WJ.cl 208 (R := R_3_24 ⟨t18_0, t18_1⟩) (fun hm h k => R_3_24.mono hm h k) rfl (fun ids H' fr => f22_ok e18) ?_
  rintro v B3 ⟨abB3, ivB3⟩ rfl
  refine ⟨_, rfl, ?_⟩
  obtain ⟨⟨t22_0, t22_1⟩, e22, hp⟩ := bindS hp
  refine WJ.cl 208 (R := R_22_24 ⟨t22_0, t22_1⟩) (fun hm h k => R_22_24.mono hm h k) rfl (fun ids H' fr => f12_ok e22) ?_
  rintro v B4 ⟨abB4, ivB4⟩ rfl
  refine ⟨_, rfl, ?_⟩
  refine WJ.ci 209 hp rfl rfl rfl rfl rfl rfl rfl rfl rfl (fun hc26 hp => ?_) (fun hc26 hp => ?_)
  · refine WJ.ci 202 hp rfl rfl rfl rfl rfl rfl rfl rfl rfl (fun hc29 hp => ?_) (fun hc29 hp => ?_)
    · refine WJ.ci 203 hp rfl rfl rfl rfl rfl rfl rfl rfl rfl (fun hc33 hp => ?_) (fun hc33 hp => ?_)
      · refine WJ.ci 203 hp rfl rfl rfl rfl rfl rfl rfl rfl rfl (fun hc37 hp => ?_) (fun hc37 hp => ?_)
        · obtain ⟨t42, e42, hp⟩ := bindS hp
          refine WJ.cl 204 (R := R_4 t42) (fun hm h k => R_4.mono hm h k) rfl (fun ids H' fr => f23_ok e42) ?_
          rintro v B5 ⟨abB5, ivB5⟩ rfl
          refine ⟨_, rfl, ?_⟩
          cases t42
          · replace hp := (itS hp).2 Bool.false_ne_true
            obtain rfl := endS (show some _ = some r from hp)
            exact WJ.rt 226 rfl rfl rfl (fun ids H' fr => ⟨fr.ext0, rfl⟩)
          · replace hp := (itS hp).1 rfl
            refine WJ.ci 203 hp rfl rfl rfl rfl rfl rfl rfl rfl rfl (fun hc46 hp => ?_) (fun hc46 hp => ?_)
            · refine WJ.ci 203 hp rfl rfl rfl rfl rfl rfl rfl rfl rfl (fun hc50 hp => ?_) (fun hc50 hp => ?_)
              · obtain ⟨t53, e53, hp⟩ := bindS hp
                refine WJ.cl 202 (R := R_9 t53) (fun hm h k => R_9.mono hm h k) rfl (fun ids H' fr => f14_ok e53) ?_
                rintro v B6 ⟨abB6, ivB6⟩ rfl
                refine ⟨_, rfl, ?_⟩
                refine WJ.ci 200 hp rfl rfl rfl rfl rfl rfl (opD_streq rfl rfl rfl) rfl rfl (fun hc54 hp => ?_) (fun hc54 hp => ?_)
                · obtain ⟨t57, e57, hp⟩ := bindS hp
                  refine WJ.cl 202 (R := R_4 t57) (fun hm h k => R_4.mono hm h k) rfl (fun ids H' fr => f26_ok e57) ?_
                  rintro v B7 ⟨abB7, ivB7⟩ rfl
                  refine ⟨_, rfl, ?_⟩
                  cases t57
                  · replace hp := (itS hp).2 Bool.false_ne_true
                    obtain rfl := endS (show some _ = some r from hp)
                    exact WJ.rt 211 rfl rfl rfl (fun ids H' fr => ⟨fr.ext0, rfl⟩)
                  · replace hp := (itS hp).1 rfl
                    obtain ⟨t60, e60, hp⟩ := bindS hp
                    refine WJ.cl 202 (R := R_4 t60) (fun hm h k => R_4.mono hm h k) rfl (fun ids H' fr => f26_ok e60) ?_
                    rintro v B8 ⟨abB8, ivB8⟩ rfl
                    refine ⟨_, rfl, ?_⟩
                    cases t60
                    · replace hp := (itS hp).2 Bool.false_ne_true
                      obtain ⟨t64, e64, hp⟩ := bindS hp
                      refine WJ.cl 203 (R := R_3 t64) (fun hm h k => R_3.mono hm h k) rfl (fun ids H' fr => f27_ok e64) ?_
                      rintro v B9 ⟨abB9, ivB9⟩ rfl
                      refine ⟨_, rfl, ?_⟩
                      obtain ⟨t65, e65, hp⟩ := bindS hp
                      refine WJ.cv 200 (b := t65) (H0 := ⟨.nil, 0, 0⟩) rfl rfl rfl rfl rfl rfl (by rw [← endS e65]; exact rfl) rfl ?_
                      obtain rfl := endS (show some _ = some r from hp)
                      exact WJ.rt 203 rfl rfl rfl (fun ids H' fr => ⟨fr.ext0, rfl⟩)
                    · replace hp := (itS hp).1 rfl
                      obtain rfl := endS (show some _ = some r from hp)
                      exact WJ.rt 208 rfl rfl rfl (fun ids H' fr => ⟨fr.ext0, rfl⟩)
                · obtain rfl := endS (show some _ = some r from hp)
                  exact WJ.rt 214 rfl rfl rfl (fun ids H' fr => ⟨fr.ext0, rfl⟩)
              · obtain rfl := endS (show some _ = some r from hp)
                exact WJ.rt 218 rfl rfl rfl (fun ids H' fr => ⟨fr.ext0, rfl⟩)
            · obtain rfl := endS (show some _ = some r from hp)
              exact WJ.rt 222 rfl rfl rfl (fun ids H' fr => ⟨fr.ext0, rfl⟩)
        · obtain rfl := endS (show some _ = some r from hp)
          exact WJ.rt 231 rfl rfl rfl (fun ids H' fr => ⟨fr.ext0, rfl⟩)
      · obtain rfl := endS (show some _ = some r from hp)
        exact WJ.rt 235 rfl rfl rfl (fun ids H' fr => ⟨fr.ext0, rfl⟩)
    · obtain rfl := endS (show some _ = some r from hp)
      exact WJ.rt 239 rfl rfl rfl (fun ids H' fr => ⟨fr.ext0, rfl⟩)
  · obtain rfl := endS (show some _ = some r from hp)
    exact WJ.rt 242 rfl rfl rfl (fun ids H' fr => ⟨fr.ext0, rfl⟩)
/-! 40 tipstaff/tipstaffref02.number -/
def f40_l1 (x0 : List UInt8) (x1 : Int) : Nat → Int → Int → Option (Int × Int)
  | 0, _, _ => none
  | n + 1, x6, x7 =>
    if (IntKind.i64.wrap (x1 + x7)) < (x0.length : Int) then
      (rd x0 (IntKind.i64.wrap (x1 + x7))).bind fun b19 =>
      if ((b19.toNat : Nat) : Int) ≥ 48 then
        (rd x0 (IntKind.i64.wrap (x1 + x7))).bind fun b27 =>
        if ((b27.toNat : Nat) : Int) ≤ 57 then
          if x7 < 3 then
            (rd x0 (IntKind.i64.wrap (x1 + x7))).bind fun b40 =>
            f40_l1 x0 x1 n (IntKind.i64.wrap ((IntKind.i64.wrap (10 * x6)) + (IntKind.i64.wrap (IntKind.u8.wrap (((b40.toNat : Nat) : Int) - 48))))) (IntKind.i64.wrap (x7 + 1))
          else
            some ((x6, x7))
        else
          some ((x6, x7))
      else
        some ((x6, x7))
    else
      some ((x6, x7))

def f40 (k : Nat) (x0 : List UInt8) (x1 : Int) : Option (Int × Int) :=
  (f40_l1 x0 x1 k 0 0).bind fun (x6_9, x7_9) =>
    (if x7_9 > 2 then
      some (Sum.inl ((0, 0) : Int × Int))
    else
      if x7_9 = 2 then
        (rd x0 x1).bind fun b54 =>
        if ((b54.toNat : Nat) : Int) = 48 then
          some (Sum.inl ((0, 0) : Int × Int))
        else
          some (Sum.inr ())
      else
        some (Sum.inr ())).bind fun s => match s with
      | .inl st => some st
      | .inr _ => 
        some (x6_9, x7_9)
set_option maxRecDepth 20000 in
theorem f40_ok {k : Nat} {H : Hp} {x0 : List UInt8} {x1 : Int} {r : Int × Int} (hp : f40 k x0 x1 = some r) :
    SCall Tryd.prog 40 [.string (bs x0), .int .i64 x1] H (Ret fun v H' => Ext H H' ∧ R_3_3 r H.next H' v) := by
  unfold f40 at hp
  replace hp := topS hp
  refine SCall.g Tryd.func40 rfl rfl rfl rfl rfl (l := [(0, .v (.string (bs x0))), (1, .v (.int .i64 x1))]) (fun _ => rfl) (fun B abB => ?_)
  refine WJ.adv 12 rfl ?_
  obtain ⟨K9, hK9, hp⟩ : ∃ K, K = _ ∧ Option.bind _ K = some r := ⟨_, rfl, cutS hp⟩
  refine WJ.cut 2 (α := Int × Int) (fun y => [(0, .v (.string (bs x0))), (1, .v (.int .i64 x1)), (6, .v (.int .i64 y.1)), (7, .v (.int .i64 y.2))]) (fun y => []) (fun y => []) (fun y => B) (fun y => K9 ((y.1, y.2)) = some r) ?_ (fun j9 => ?_)
  · rintro ⟨x6_9, x7_9⟩ hp
    subst hK9
    show WJ _ _ _ B [] _ _ ⟨[(0, .v (.string (bs x0))), (1, .v (.int .i64 x1)), (6, .v (.int .i64 x6_9)), (7, .v (.int .i64 x7_9))], [], true, 0⟩
    refine WJ.adv 2 rfl ?_
    obtain ⟨K10, hK10, hp⟩ : ∃ K, K = _ ∧ Option.bind _ K = some r := ⟨_, rfl, cutS hp⟩
    refine WJ.cut 2 (α := Unit) (fun y => [(6, .v (.int .i64 x6_9)), (7, .v (.int .i64 x7_9))]) (fun y => []) (fun y => []) (fun y => B) (fun y => K10 ((Sum.inr ())) = some r) ?_ (fun j10 => ?_)
    · rintro u hp
      subst hK10
      show WJ _ _ _ B [] _ _ ⟨[(6, .v (.int .i64 x6_9)), (7, .v (.int .i64 x7_9))], [], true, 0⟩
      obtain rfl := endS (show some _ = some r from hp)
      exact WJ.rt 207 rfl rfl rfl (fun ids H' fr => ⟨fr.ext0, rfl⟩)
    · refine WJ.ci 202 hp rfl rfl rfl rfl rfl rfl rfl rfl rfl (fun hc47 hp => ?_) (fun hc47 hp => ?_)
      · subst hK10
        obtain rfl := endS (show some _ = some r from hp)
        exact WJ.rt 217 rfl rfl rfl (fun ids H' fr => ⟨fr.ext0, rfl⟩)
      · refine WJ.ci 202 hp rfl rfl rfl rfl rfl rfl rfl rfl rfl (fun hc50 hp => ?_) (fun hc50 hp => ?_)
        · obtain ⟨b54, e54, hp⟩ := bindS hp
          refine WJ.hd (v := .int .u8 ((b54.toNat : Nat) : Int)) 203 rfl rfl rfl rfl (fun ids H' fr => opD_index rfl (evV_eq _ _ _ _ _ rfl) (evV_eq _ _ _ _ _ rfl) (sidx us9 e54)) rfl ?_
          refine WJ.ci 200 hp rfl rfl rfl rfl rfl rfl rfl rfl rfl (fun hc55 hp => ?_) (fun hc55 hp => ?_)
          · subst hK10
            obtain rfl := endS (show some _ = some r from hp)
            exact WJ.rt 209 rfl rfl rfl (fun ids H' fr => ⟨fr.ext0, rfl⟩)
          · exact WJ.goto 5 (j10 () hp) rfl rfl (by exact ⟨rfl, rfl, trivial⟩) rfl rfl rfl
        · exact WJ.goto 10 (j10 () hp) rfl rfl (by exact ⟨rfl, rfl, trivial⟩) rfl rfl rfl
  · refine WJ.lp 200 (α := Nat × Int × Int) (fun y => [(0, .v (.string (bs x0))), (1, .v (.int .i64 x1)), (6, .v (.int .i64 y.2.1)), (7, .v (.int .i64 y.2.2))]) (fun y => []) (fun y => []) (fun y => B) (fun y => y.1) (fun y => Option.bind (f40_l1 x0 x1 y.1 y.2.1 y.2.2) K9 = some r) (k, 0, 0) rfl hp (by exact ⟨rfl, rfl, rfl, rfl, trivial⟩) rfl rfl rfl ?_
    rintro ⟨n, x6, x7⟩ hp ih9
    show WJ _ _ _ B [] _ _ ⟨[(0, .v (.string (bs x0))), (1, .v (.int .i64 x1)), (6, .v (.int .i64 x6)), (7, .v (.int .i64 x7))], [], true, 0⟩
    replace hp : Option.bind (f40_l1 x0 x1 n x6 x7) K9 = some r := hp
    cases n with
    | zero => rw [f40_l1] at hp; exact (noS hp).elim
    | succ n =>
      rw [f40_l1] at hp
      refine WJ.ci 208 hp rfl rfl rfl rfl rfl rfl rfl rfl rfl (fun hc13 hp => ?_) (fun hc13 hp => ?_)
      · obtain ⟨b19, e19, hp⟩ := bindS hp
        refine WJ.hd (v := .int .u8 ((b19.toNat : Nat) : Int)) 205 rfl rfl rfl rfl (fun ids H' fr => opD_index rfl (evV_eq _ _ _ _ _ rfl) (evV_eq _ _ _ _ _ rfl) (sidx us9 e19)) rfl ?_
        refine WJ.ci 200 hp rfl rfl rfl rfl rfl rfl rfl rfl rfl (fun hc20 hp => ?_) (fun hc20 hp => ?_)
        · obtain ⟨b27, e27, hp⟩ := bindS hp
          refine WJ.hd (v := .int .u8 ((b27.toNat : Nat) : Int)) 206 rfl rfl rfl rfl (fun ids H' fr => opD_index rfl (evV_eq _ _ _ _ _ rfl) (evV_eq _ _ _ _ _ rfl) (sidx us9 e27)) rfl ?_
          refine WJ.ci 200 hp rfl rfl rfl rfl rfl rfl rfl rfl rfl (fun hc28 hp => ?_) (fun hc28 hp => ?_)
          · refine WJ.ci 203 hp rfl rfl rfl rfl rfl rfl rfl rfl rfl (fun hc32 hp => ?_) (fun hc32 hp => ?_)
            · obtain ⟨b40, e40, hp⟩ := bindS hp
              refine WJ.hd (v := .int .u8 ((b40.toNat : Nat) : Int)) 213 rfl rfl rfl rfl (fun ids H' fr => opD_index rfl (evV_eq _ _ _ _ _ rfl) (evV_eq _ _ _ _ _ rfl) (sidx us9 e40)) rfl ?_
              exact WJ.ag 211 rfl (by exact ⟨rfl, rfl, rfl, rfl, trivial⟩) rfl rfl rfl (ih9 (n, IntKind.i64.wrap ((IntKind.i64.wrap (10 * x6)) + (IntKind.i64.wrap (IntKind.u8.wrap (((b40.toNat : Nat) : Int) - 48)))), IntKind.i64.wrap (x7 + 1)) hp (Nat.lt_succ_self _))
            · exact WJ.goto 4 (j9 (x6, x7) hp) rfl rfl (by exact ⟨rfl, rfl, rfl, rfl, trivial⟩) rfl rfl rfl
          · exact WJ.goto 8 (j9 (x6, x7) hp) rfl rfl (by exact ⟨rfl, rfl, rfl, rfl, trivial⟩) rfl rfl rfl
        · exact WJ.goto 16 (j9 (x6, x7) hp) rfl rfl (by exact ⟨rfl, rfl, rfl, rfl, trivial⟩) rfl rfl rfl
      · exact WJ.goto 23 (j9 (x6, x7) hp) rfl rfl (by exact ⟨rfl, rfl, rfl, rfl, trivial⟩) rfl rfl rfl
/-! 17 tipstaff/tipstaffref02.Put -/
def f17_l1 (x2 : Int) (x3 : Bool) : Nat → Int → Int → Option (Int)
  | 0, _, _ => none
  | n + 1, x0, x10 =>
    if x10 ≤ x2 then
      (if x3 then
        some ((bits .or .u64 (bits .andNot .u64 x0 (gshl .u64 1 (IntKind.u64.wrap x10))) (gshl .u64 1 (IntKind.u64.wrap x10))))
      else
        some ((bits .andNot .u64 x0 (gshl .u64 1 (IntKind.u64.wrap x10))))).bind fun x0_12 =>
        f17_l1 x2 x3 n x0_12 (IntKind.i64.wrap (x10 + 1))
    else
      some (x0)

def f17 (k : Nat) (x0 : Int) (x1 : Int) (x2 : Int) (x3 : Bool) : Option (Int × Int) :=
  if x1 < 0 then
    some (0, 2)
  else
    if x1 > x2 then
      some (0, 2)
    else
      if x2 ≥ 64 then
        some (0, 2)
      else
        (f17_l1 x2 x3 k x0 x1).bind fun x0_11 =>
          some (x0_11, 0)
set_option maxRecDepth 20000 in
theorem f17_ok {k : Nat} {H : Hp} {x0 : Int} {x1 : Int} {x2 : Int} {x3 : Bool} {r : Int × Int} (hp : f17 k x0 x1 x2 x3 = some r) :
    SCall Tryd.prog 17 [.int .u64 x0, .int .i64 x1, .int .i64 x2, .bool x3] H (Ret fun v H' => Ext H H' ∧ R_22_24 r H.next H' v) := by
  unfold f17 at hp
  replace hp := topS hp
  refine SCall.g Tryd.func17 rfl rfl rfl rfl rfl (l := [(0, .v (.int .u64 x0)), (1, .v (.int .i64 x1)), (2, .v (.int .i64 x2)), (3, .v (.bool x3))]) (fun _ => rfl) (fun B abB => ?_)
  refine WJ.ci 209 hp rfl rfl rfl rfl rfl rfl rfl rfl rfl (fun hc12 hp => ?_) (fun hc12 hp => ?_)
  · obtain rfl := endS (show some _ = some r from hp)
    exact WJ.rt 216 rfl rfl rfl (fun ids H' fr => ⟨fr.ext0, rfl⟩)
  · refine WJ.ci 203 hp rfl rfl rfl rfl rfl rfl rfl rfl rfl (fun hc16 hp => ?_) (fun hc16 hp => ?_)
    · obtain rfl := endS (show some _ = some r from hp)
      exact WJ.rt 212 rfl rfl rfl (fun ids H' fr => ⟨fr.ext0, rfl⟩)
    · refine WJ.ci 203 hp rfl rfl rfl rfl rfl rfl rfl rfl rfl (fun hc20 hp => ?_) (fun hc20 hp => ?_)
      · obtain rfl := endS (show some _ = some r from hp)
        exact WJ.rt 208 rfl rfl rfl (fun ids H' fr => ⟨fr.ext0, rfl⟩)
      · refine WJ.adv 11 rfl ?_
        obtain ⟨K11, hK11, hp⟩ : ∃ K, K = _ ∧ Option.bind _ K = some r := ⟨_, rfl, cutS hp⟩
        refine WJ.cut 2 (α := Int) (fun y => [(0, .v (.int .u64 y))]) (fun y => []) (fun y => []) (fun y => B) (fun y => K11 (y) = some r) ?_ (fun j11 => ?_)
        · rintro x0_11 hp
          subst hK11
          show WJ _ _ _ B [] _ _ ⟨[(0, .v (.int .u64 x0_11))], [], true, 0⟩
          obtain rfl := endS (show some _ = some r from hp)
          exact WJ.rt 206 rfl rfl rfl (fun ids H' fr => ⟨fr.ext0, rfl⟩)
        · refine WJ.lp 200 (α := Nat × Int × Int) (fun y => [(0, .v (.int .u64 y.2.1)), (2, .v (.int .i64 x2)), (3, .v (.bool x3)), (10, .v (.int .i64 y.2.2))]) (fun y => []) (fun y => []) (fun y => B) (fun y => y.1) (fun y => Option.bind (f17_l1 x2 x3 y.1 y.2.1 y.2.2) K11 = some r) (k, x0, x1) rfl hp (by exact ⟨rfl, rfl, rfl, rfl, trivial⟩) rfl rfl rfl ?_
          rintro ⟨n, x0, x10⟩ hp ih11
          show WJ _ _ _ B [] _ _ ⟨[(0, .v (.int .u64 x0)), (2, .v (.int .i64 x2)), (3, .v (.bool x3)), (10, .v (.int .i64 x10))], [], true, 0⟩
          replace hp : Option.bind (f17_l1 x2 x3 n x0 x10) K11 = some r := hp
          cases n with
          | zero => rw [f17_l1] at hp; exact (noS hp).elim
          | succ n =>
            rw [f17_l1] at hp
            refine WJ.ci 205 hp rfl rfl rfl rfl rfl rfl rfl rfl rfl (fun hc25 hp => ?_) (fun hc25 hp => ?_)
            · refine WJ.hd (v := .int .u64 (gshl .u64 1 (IntKind.u64.wrap x10))) 210 rfl rfl rfl rfl (fun ids H' fr => opD_bin rfl (evV_eq _ _ _ _ _ rfl) (evV_eq _ _ _ _ _ rfl) (bin_shl (nn_u64 _))) rfl ?_
              refine WJ.adv 7 rfl ?_
              obtain ⟨K12, hK12, hp⟩ : ∃ K, K = _ ∧ Option.bind _ K = some r := ⟨_, rfl, cutS hp⟩
              refine WJ.cut 2 (α := Int) (fun y => [(0, .v (.int .u64 y)), (2, .v (.int .i64 x2)), (3, .v (.bool x3)), (10, .v (.int .i64 x10))]) (fun y => []) (fun y => []) (fun y => B) (fun y => K12 ((y)) = some r) ?_ (fun j12 => ?_)
              · rintro x0_12 hp
                subst hK12
                show WJ _ _ _ B [] _ _ ⟨[(0, .v (.int .u64 x0_12)), (2, .v (.int .i64 x2)), (3, .v (.bool x3)), (10, .v (.int .i64 x10))], [], true, 0⟩
                exact WJ.ag 205 rfl (by exact ⟨rfl, rfl, rfl, rfl, trivial⟩) rfl rfl rfl (ih11 (n, x0_12, IntKind.i64.wrap (x10 + 1)) hp (Nat.lt_succ_self _))
              · cases x3
                · replace hp := (itS hp).2 Bool.false_ne_true
                  exact WJ.goto 3 (j12 (bits .andNot .u64 x0 (gshl .u64 1 (IntKind.u64.wrap x10))) hp) rfl rfl (by exact ⟨rfl, rfl, rfl, rfl, trivial⟩) rfl rfl rfl
                · replace hp := (itS hp).1 rfl
                  refine WJ.hd (v := .int .u64 (gshl .u64 1 (IntKind.u64.wrap x10))) 205 rfl rfl rfl rfl (fun ids H' fr => opD_bin rfl (evV_eq _ _ _ _ _ rfl) (evV_eq _ _ _ _ _ rfl) (bin_shl (nn_u64 _))) rfl ?_
                  exact WJ.goto 4 (j12 (bits .or .u64 (bits .andNot .u64 x0 (gshl .u64 1 (IntKind.u64.wrap x10))) (gshl .u64 1 (IntKind.u64.wrap x10))) hp) rfl rfl (by exact ⟨rfl, rfl, rfl, rfl, trivial⟩) rfl rfl rfl
            · exact WJ.goto 3 (j11 x0 hp) rfl rfl (by exact ⟨rfl, trivial⟩) rfl rfl rfl
/-! 13 tipstaff/tipstaffref02.Parse -/
def f13_l2 (k : Nat) (l0_13 : List Int) (l1_13 : List Int) : Nat → Int → Int → Int → Option ((Int × Int) ⊕ (Int))
  | 0, _, _, _ => none
  | n + 1, x11, x12, x13 =>
    if x13 < (l0_13.length : Int) then
      (rd l0_13 x13).bind fun t81 =>
      (rd l1_13 x13).bind fun t85 =>
      if t81 > 63 then
        some (Sum.inl ((0, 2) : Int × Int))
      else
        if t85 > 63 then
          some (Sum.inl ((0, 2) : Int × Int))
        else
          (if t85 ≥ 0 then
            if t85 ≤ t81 then
              some (Sum.inl ((0, 8) : Int × Int))
            else
              if t81 < (IntKind.i64.wrap (x12 + 2)) then
                some (Sum.inl ((0, 8) : Int × Int))
              else
                some (Sum.inr ())
          else
            if t81 < (IntKind.i64.wrap (x12 + 2)) then
              some (Sum.inl ((0, 8) : Int × Int))
            else
              some (Sum.inr ())).bind fun s => match s with
            | .inl st => some (Sum.inl st)
            | .inr _ => 
              (f17 k x11 t81 (gmax t81 t85) true).bind fun (t113_0, t113_1) =>
              f13_l2 k l0_13 l1_13 n t113_0 (gmax t81 t85) (IntKind.i64.wrap (x13 + 1))
    else
      some (Sum.inr x11)

def f13_l1 (k : Nat) (x0 : List UInt8) : Nat → (List Int) → (List Int) → Int → Option ((Int × Int) ⊕ ((List Int) × (List Int)))
  | 0, _, _, _ => none
  | n + 1, l0, l1, x6 =>
    (f40 k x0 x6).bind fun (t21_0, t21_1) =>
    if t21_1 = 0 then
      some (Sum.inl ((0, 3) : Int × Int))
    else
      (if (IntKind.i64.wrap (x6 + t21_1)) < (x0.length : Int) then
        (rd x0 (IntKind.i64.wrap (x6 + t21_1))).bind fun b37 =>
        if ((b37.toNat : Nat) : Int) = 45 then
          (f40 k x0 (IntKind.i64.wrap ((IntKind.i64.wrap (x6 + t21_1)) + 1))).bind fun (t44_0, t44_1) =>
          if t44_1 = 0 then
            some (Sum.inl ((0, 3) : Int × Int))
          else
            some (Sum.inr (IntKind.i64.wrap ((IntKind.i64.wrap ((IntKind.i64.wrap (x6 + t21_1)) + 1)) + t44_1), t44_0, t44_1))
        else
          some (Sum.inr (IntKind.i64.wrap (x6 + t21_1), t21_0, (-1)))
      else
        some (Sum.inr (IntKind.i64.wrap (x6 + t21_1), t21_0, (-1)))).bind fun s => match s with
        | .inl st => some (Sum.inl st)
        | .inr (x6_14, x9_14, x10_14) => 
          (apd 8 l0 ([t21_0])).bind fun l56 =>
          (if x10_14 < 0 then
            some ((-1))
          else
            some (x9_14)).bind fun x9_15 =>
            (apd 8 l1 ([x9_15])).bind fun l62 =>
            if x6_14 = (x0.length : Int) then
              some (Sum.inr (l56, l62))
            else
              (rd x0 x6_14).bind fun b69 =>
              if ((b69.toNat : Nat) : Int) = 44 then
                f13_l1 k x0 n l56 l62 (IntKind.i64.wrap (x6_14 + 1))
              else
                some (Sum.inl ((0, 3) : Int × Int))

def f13 (k : Nat) (x0 : List UInt8) : Option (Int × Int) :=
  if x0 = ([110, 111, 110, 101]) then
    some (0, 0)
  else
    (f13_l1 k x0 k ([]) ([]) 0).bind fun s => match s with
      | .inl st => some st
      | .inr (l0_13, l1_13) => 
        (f13_l2 k l0_13 l1_13 k 0 (-2) 0).bind fun s => match s with
          | .inl st => some st
          | .inr x11_16 => 
            some (x11_16, 0)
set_option maxRecDepth 20000 in
theorem f13_ok {k : Nat} {H : Hp} {x0 : List UInt8} {r : Int × Int} (hp : f13 k x0 = some r) :
    SCall Tryd.prog 13 [.string (bs x0)] H (Ret fun v H' => Ext H H' ∧ R_22_24 r H.next H' v) := by
  unfold f13 at hp
  replace hp := topS hp
  refine SCall.g Tryd.func13 rfl rfl rfl rfl rfl (l := [(0, .v (.string (bs x0)))]) (fun _ => rfl) (fun B abB => ?_)
  refine WJ.ci 209 hp rfl rfl rfl rfl rfl rfl (opD_streq rfl rfl rfl) rfl rfl (fun hc17 hp => ?_) (fun hc17 hp => ?_)
  · obtain rfl := endS (show some _ = some r from hp)
    exact WJ.rt 207 rfl rfl rfl (fun ids H' fr => ⟨fr.ext0, rfl⟩)
  · refine WJ.adv 14 rfl ?_
    refine WJ.nw 1 ?_
    refine WJ.nw 1 ?_
    obtain ⟨K13, hK13, hp⟩ : ∃ K, K = _ ∧ Option.bind _ K = some r := ⟨_, rfl, cutS hp⟩
    refine WJ.cut 2 (α := (List Int) × (List Int) × (Option Addr) × Nat × (Option Addr) × Nat × Hp) (fun y => [(4, .v (.slice y.2.2.1 y.1.length y.2.2.2.1)), (5, .v (.slice y.2.2.2.2.1 y.2.1.length y.2.2.2.2.2.1))]) (fun y => []) (fun y => [⟨y.2.2.1, y.2.2.2.1, 1, encL iE y.1⟩, ⟨y.2.2.2.2.1, y.2.2.2.2.2.1, 1, encL iE y.2.1⟩]) (fun y => y.2.2.2.2.2.2) (fun y => K13 (Sum.inr (y.1, y.2.1)) = some r) ?_ (fun j13 => ?_)
    · rintro ⟨l0_13, l1_13, a0_13, c0_13, a1_13, c1_13, B5⟩ hp
      subst hK13
      show WJ _ _ _ B5 [⟨a0_13, c0_13, 1, encL iE l0_13⟩, ⟨a1_13, c1_13, 1, encL iE l1_13⟩] _ _ ⟨[(4, .v (.slice a0_13 l0_13.length c0_13)), (5, .v (.slice a1_13 l1_13.length c1_13))], [], true, 0⟩
      refine WJ.adv 14 rfl ?_
      obtain ⟨K16, hK16, hp⟩ : ∃ K, K = _ ∧ Option.bind _ K = some r := ⟨_, rfl, cutS hp⟩
      refine WJ.cut 2 (α := Int × Hp) (fun y => [(11, .v (.int .u64 y.1))]) (fun y => []) (fun y => [⟨a0_13, c0_13, 1, encL iE l0_13⟩, ⟨a1_13, c1_13, 1, encL iE l1_13⟩]) (fun y => y.2) (fun y => K16 (Sum.inr y.1) = some r) ?_ (fun j16 => ?_)
      · rintro ⟨x11_16, B8⟩ hp
        subst hK16
        show WJ _ _ _ B8 [⟨a0_13, c0_13, 1, encL iE l0_13⟩, ⟨a1_13, c1_13, 1, encL iE l1_13⟩] _ _ ⟨[(11, .v (.int .u64 x11_16))], [], true, 0⟩
        obtain rfl := endS (show some _ = some r from hp)
        exact WJ.rt 206 rfl rfl rfl (fun ids H' fr => ⟨fr.ext0, rfl⟩)
      · refine WJ.lp 200 (α := Nat × Int × Int × Int × Hp) (fun y => [(4, .v (.slice a0_13 l0_13.length c0_13)), (5, .v (.slice a1_13 l1_13.length c1_13)), (11, .v (.int .u64 y.2.1)), (12, .v (.int .i64 y.2.2.1)), (13, .v (.int .i64 y.2.2.2.1))]) (fun y => []) (fun y => [⟨a0_13, c0_13, 1, encL iE l0_13⟩, ⟨a1_13, c1_13, 1, encL iE l1_13⟩]) (fun y => y.2.2.2.2) (fun y => y.1) (fun y => Option.bind (f13_l2 k l0_13 l1_13 y.1 y.2.1 y.2.2.1 y.2.2.2.1) K16 = some r) (k, 0, (-2), 0, B5) rfl hp (by exact ⟨rfl, rfl, rfl, rfl, rfl, trivial⟩) rfl rfl rfl ?_
        rintro ⟨n, x11, x12, x13, B6⟩ hp ih16
        show WJ _ _ _ B6 [⟨a0_13, c0_13, 1, encL iE l0_13⟩, ⟨a1_13, c1_13, 1, encL iE l1_13⟩] _ _ ⟨[(4, .v (.slice a0_13 l0_13.length c0_13)), (5, .v (.slice a1_13 l1_13.length c1_13)), (11, .v (.int .u64 x11)), (12, .v (.int .i64 x12)), (13, .v (.int .i64 x13))], [], true, 0⟩
        replace hp : Option.bind (f13_l2 k l0_13 l1_13 n x11 x12 x13) K16 = some r := hp
        cases n with
        | zero => rw [f13_l2] at hp; exact (noS hp).elim
        | succ n =>
          rw [f13_l2] at hp
          refine WJ.ci 206 hp rfl rfl rfl rfl rfl rfl rfl rfl rfl (fun hc76 hp => ?_) (fun hc76 hp => ?_)
          · refine WJ.dr 206 rfl gmix (by kernel_rfl) (by kernel_rfl) rfl ?_
            obtain ⟨t81, e81, hp⟩ := bindS hp
            refine WD.ownAddr (enc := iE) (sz := 1) 0 (fun _ => rfl) rfl rfl e81 (fun b81 hb81 => ?_)
            refine WD.hd (v := .pointer (some ⟨b81, (x13).toNat * 1, none⟩)) rfl rfl rfl rfl (fun _ _ _ _ _ => side_no) (fun ids H' fr => opD_indexAddr rfl (evV_eq _ _ _ _ _ rfl) (evV_eq _ _ _ _ _ rfl) (ownIdx hb81 e81 u40 sz3)) rfl ?_
            refine WD.hd (v := .int .i64 t81) rfl rfl rfl rfl (fun _ _ _ _ _ => side_no) (fun ids H' fr => opD_load rfl (evV_eq _ _ _ _ _ rfl) ((fr.ownEl (enc := iE) (sz := 1) (j := 0) (fun _ => rfl) rfl hb81 e81).load (d := 0) ag3 rfl)) rfl ?_
            obtain ⟨t85, e85, hp⟩ := bindS hp
            refine WD.ownAddr (enc := iE) (sz := 1) 1 (fun _ => rfl) rfl rfl e85 (fun b85 hb85 => ?_)
            refine WD.hd (v := .pointer (some ⟨b85, (x13).toNat * 1, none⟩)) rfl rfl rfl rfl (fun _ _ _ _ _ => side_no) (fun ids H' fr => opD_indexAddr rfl (evV_eq _ _ _ _ _ rfl) (evV_eq _ _ _ _ _ rfl) (ownIdx hb85 e85 u40 sz3)) rfl ?_
            refine WD.hd (v := .int .i64 t85) rfl rfl rfl rfl (fun _ _ _ _ _ => side_no) (fun ids H' fr => opD_load rfl (evV_eq _ _ _ _ _ rfl) ((fr.ownEl (enc := iE) (sz := 1) (j := 1) (fun _ => rfl) rfl hb85 e85).load (d := 0) ag3 rfl)) rfl ?_
            refine WD.done rfl ?_
            refine WJ.ci 204 hp rfl rfl rfl rfl rfl rfl rfl rfl rfl (fun hc88 hp => ?_) (fun hc88 hp => ?_)
            · subst hK16
              obtain rfl := endS (show some _ = some r from hp)
              exact WJ.rt 211 rfl rfl rfl (fun ids H' fr => ⟨fr.ext0, rfl⟩)
            · refine WJ.ci 202 hp rfl rfl rfl rfl rfl rfl rfl rfl rfl (fun hc91 hp => ?_) (fun hc91 hp => ?_)
              · subst hK16
                obtain rfl := endS (show some _ = some r from hp)
                exact WJ.rt 208 rfl rfl rfl (fun ids H' fr => ⟨fr.ext0, rfl⟩)
              · refine WJ.adv 6 rfl ?_
                obtain ⟨K17, hK17, hp⟩ : ∃ K, K = _ ∧ Option.bind _ K = some r := ⟨_, rfl, cutS hp⟩
                refine WJ.cut 2 (α := Unit) (fun y => [(4, .v (.slice a0_13 l0_13.length c0_13)), (5, .v (.slice a1_13 l1_13.length c1_13)), (11, .v (.int .u64 x11)), (13, .v (.int .i64 x13)), (14, .v (.int .i64 t81)), (15, .v (.int .i64 t85))]) (fun y => []) (fun y => [⟨a0_13, c0_13, 1, encL iE l0_13⟩, ⟨a1_13, c1_13, 1, encL iE l1_13⟩]) (fun y => B6) (fun y => K17 ((Sum.inr ())) = some r) ?_ (fun j17 => ?_)
                · rintro u hp
                  subst hK17
                  show WJ _ _ _ B6 [⟨a0_13, c0_13, 1, encL iE l0_13⟩, ⟨a1_13, c1_13, 1, encL iE l1_13⟩] _ _ ⟨[(4, .v (.slice a0_13 l0_13.length c0_13)), (5, .v (.slice a1_13 l1_13.length c1_13)), (11, .v (.int .u64 x11)), (13, .v (.int .i64 x13)), (14, .v (.int .i64 t81)), (15, .v (.int .i64 t85))], [], true, 0⟩
                  refine WJ.hd (v := .int .i64 (gmax t81 t85)) 204 rfl rfl rfl rfl (fun ids H' fr => opD_max rfl rfl rfl (evV_eq (v := .v (.int .i64 t81)) _ _ _ _ _ rfl) (evV_eq (v := .v (.int .i64 t85)) _ _ _ _ _ rfl)) rfl ?_
                  obtain ⟨⟨t113_0, t113_1⟩, e113, hp⟩ := bindS hp
                  refine WJ.cl 206 (R := R_22_24 ⟨t113_0, t113_1⟩) (fun hm h k => R_22_24.mono hm h k) rfl (fun ids H' fr => f17_ok e113) ?_
                  rintro v B7 ⟨abB7, ivB7⟩ rfl
                  refine ⟨_, rfl, ?_⟩
                  exact WJ.ag 211 rfl (by exact ⟨rfl, rfl, rfl, rfl, rfl, trivial⟩) rfl rfl rfl (ih16 (n, t113_0, gmax t81 t85, IntKind.i64.wrap (x13 + 1), B7) hp (Nat.lt_succ_self _))
                · refine WJ.ci 202 hp rfl rfl rfl rfl rfl rfl rfl rfl rfl (fun hc94 hp => ?_) (fun hc94 hp => ?_)
                  · refine WJ.ci 203 hp rfl rfl rfl rfl rfl rfl rfl rfl rfl (fun hc98 hp => ?_) (fun hc98 hp => ?_)
                    · subst hK17
                      subst hK16
                      obtain rfl := endS (show some _ = some r from hp)
                      exact WJ.rt 214 rfl rfl rfl (fun ids H' fr => ⟨fr.ext0, rfl⟩)
                    · refine WJ.ci 205 hp rfl rfl rfl rfl rfl rfl rfl rfl rfl (fun hc104 hp => ?_) (fun hc104 hp => ?_)
                      · subst hK17
                        subst hK16
                        obtain rfl := endS (show some _ = some r from hp)
                        exact WJ.rt 208 rfl rfl rfl (fun ids H' fr => ⟨fr.ext0, rfl⟩)
                      · exact WJ.goto 4 (j17 () hp) rfl rfl (by exact ⟨rfl, rfl, rfl, rfl, rfl, rfl, trivial⟩) rfl rfl rfl
                  · refine WJ.ci 209 hp rfl rfl rfl rfl rfl rfl rfl rfl rfl (fun hc104 hp => ?_) (fun hc104 hp => ?_)
                    · subst hK17
                      subst hK16
                      obtain rfl := endS (show some _ = some r from hp)
                      exact WJ.rt 208 rfl rfl rfl (fun ids H' fr => ⟨fr.ext0, rfl⟩)
                    · exact WJ.goto 4 (j17 () hp) rfl rfl (by exact ⟨rfl, rfl, rfl, rfl, rfl, rfl, trivial⟩) rfl rfl rfl
          · exact WJ.goto 3 (j16 (x11, B6) hp) rfl rfl (by exact ⟨rfl, trivial⟩) rfl rfl rfl
    · refine WJ.lp 200 (α := Nat × (List Int) × (List Int) × Int × (Option Addr) × Nat × (Option Addr) × Nat × Hp) (fun y => [(0, .v (.string (bs x0))), (4, .v (.slice y.2.2.2.2.1 y.2.1.length y.2.2.2.2.2.1)), (5, .v (.slice y.2.2.2.2.2.2.1 y.2.2.1.length y.2.2.2.2.2.2.2.1)), (6, .v (.int .i64 y.2.2.2.1))]) (fun y => []) (fun y => [⟨y.2.2.2.2.1, y.2.2.2.2.2.1, 1, encL iE y.2.1⟩, ⟨y.2.2.2.2.2.2.1, y.2.2.2.2.2.2.2.1, 1, encL iE y.2.2.1⟩]) (fun y => y.2.2.2.2.2.2.2.2) (fun y => y.1) (fun y => Option.bind (f13_l1 k x0 y.1 y.2.1 y.2.2.1 y.2.2.2.1) K13 = some r) (k, ([] : List Int), ([] : List Int), 0, none, 0, none, 0, B) rfl hp (by exact ⟨rfl, rfl, rfl, rfl, trivial⟩) rfl rfl rfl ?_
      rintro ⟨n, l0, l1, x6, a0, c0, a1, c1, B1⟩ hp ih13
      show WJ _ _ _ B1 [⟨a0, c0, 1, encL iE l0⟩, ⟨a1, c1, 1, encL iE l1⟩] _ _ ⟨[(0, .v (.string (bs x0))), (4, .v (.slice a0 l0.length c0)), (5, .v (.slice a1 l1.length c1)), (6, .v (.int .i64 x6))], [], true, 0⟩
      replace hp : Option.bind (f13_l1 k x0 n l0 l1 x6) K13 = some r := hp
      cases n with
      | zero => rw [f13_l1] at hp; exact (noS hp).elim
      | succ n =>
        rw [f13_l1] at hp
        obtain ⟨⟨t21_0, t21_1⟩, e21, hp⟩ := bindS hp
        refine WJ.cl 205 (R := R_3_3 ⟨t21_0, t21_1⟩) (fun hm h k => R_3_3.mono hm h k) rfl (fun ids H' fr => f40_ok e21) ?_
        rintro v B2 ⟨abB2, ivB2⟩ rfl
        refine ⟨_, rfl, ?_⟩
        refine WJ.ci 210 hp rfl rfl rfl rfl rfl rfl rfl rfl rfl (fun hc25 hp => ?_) (fun hc25 hp => ?_)
        · subst hK13
          obtain rfl := endS (show some _ = some r from hp)
          exact WJ.rt 207 rfl rfl rfl (fun ids H' fr => ⟨fr.ext0, rfl⟩)
        · refine WJ.adv 18 rfl ?_
          obtain ⟨K14, hK14, hp⟩ : ∃ K, K = _ ∧ Option.bind _ K = some r := ⟨_, rfl, cutS hp⟩
          refine WJ.cut 2 (α := Int × Int × Int × Hp) (fun y => [(0, .v (.string (bs x0))), (4, .v (.slice a0 l0.length c0)), (5, .v (.slice a1 l1.length c1)), (6, .v (.int .i64 y.1)), (7, .v (.int .i64 t21_0)), (9, .v (.int .i64 y.2.1)), (10, .v (.int .i64 y.2.2.1))]) (fun y => []) (fun y => [⟨a0, c0, 1, encL iE l0⟩, ⟨a1, c1, 1, encL iE l1⟩]) (fun y => y.2.2.2) (fun y => K14 ((Sum.inr (y.1, y.2.1, y.2.2.1))) = some r) ?_ (fun j14 => ?_)
          · rintro ⟨x6_14, x9_14, x10_14, B4⟩ hp
            subst hK14
            show WJ _ _ _ B4 [⟨a0, c0, 1, encL iE l0⟩, ⟨a1, c1, 1, encL iE l1⟩] _ _ ⟨[(0, .v (.string (bs x0))), (4, .v (.slice a0 l0.length c0)), (5, .v (.slice a1 l1.length c1)), (6, .v (.int .i64 x6_14)), (7, .v (.int .i64 t21_0)), (9, .v (.int .i64 x9_14)), (10, .v (.int .i64 x10_14))], [], true, 0⟩
            refine WJ.bs (cs := encL iE [t21_0]) (sz := 1) (pl := [(0, .int .i64 t21_0)]) 204 rfl rfl rfl rfl rfl (fun _ _ => rfl) (fun _ => by rfl) rfl rfl ?_
            intro b55
            refine ⟨_, rfl, ?_⟩
            obtain ⟨l56, e56, hp⟩ := bindS hp
            obtain ⟨bd56, rfl⟩ := apd_some e56
            refine WJ.ap (L := l0) (L2 := [t21_0]) 200 0 rfl rfl rfl rfl rfl rfl rfl rfl (el40 rfl) rfl (fun _ => rfl) (fun _ => rfl) rfl (fun ids H' fr => fr.srcOwn (enc := iE) (sz := 1) (j := 2) (fun _ => rfl) (by decide) rfl) bd56 ?_
            intro a56 c56
            refine ⟨_, rfl, ?_⟩
            refine WJ.pop [⟨a56, c56, 1, encL iE (l0 ++ ([t21_0]))⟩, ⟨a1, c1, 1, encL iE l1⟩] rfl ?_
            refine WJ.adv 4 rfl ?_
            obtain ⟨K15, hK15, hp⟩ : ∃ K, K = _ ∧ Option.bind _ K = some r := ⟨_, rfl, cutS hp⟩
            refine WJ.cut 2 (α := Int) (fun y => [(0, .v (.string (bs x0))), (4, .v (.slice a56 (l0 ++ ([t21_0])).length c56)), (5, .v (.slice a1 l1.length c1)), (6, .v (.int .i64 x6_14)), (9, .v (.int .i64 y))]) (fun y => []) (fun y => [⟨a56, c56, 1, encL iE (l0 ++ ([t21_0]))⟩, ⟨a1, c1, 1, encL iE l1⟩]) (fun y => B4) (fun y => K15 ((y)) = some r) ?_ (fun j15 => ?_)
            · rintro x9_15 hp
              subst hK15
              show WJ _ _ _ B4 [⟨a56, c56, 1, encL iE (l0 ++ ([t21_0]))⟩, ⟨a1, c1, 1, encL iE l1⟩] _ _ ⟨[(0, .v (.string (bs x0))), (4, .v (.slice a56 (l0 ++ ([t21_0])).length c56)), (5, .v (.slice a1 l1.length c1)), (6, .v (.int .i64 x6_14)), (9, .v (.int .i64 x9_15))], [], true, 0⟩
              refine WJ.bs (cs := encL iE [x9_15]) (sz := 1) (pl := [(0, .int .i64 x9_15)]) 204 rfl rfl rfl rfl rfl (fun _ _ => rfl) (fun _ => by rfl) rfl rfl ?_
              intro b61
              refine ⟨_, rfl, ?_⟩
              obtain ⟨l62, e62, hp⟩ := bindS hp
              obtain ⟨bd62, rfl⟩ := apd_some e62
              refine WJ.ap (L := l1) (L2 := [x9_15]) 200 1 rfl rfl rfl rfl rfl rfl rfl rfl (el40 rfl) rfl (fun _ => rfl) (fun _ => rfl) rfl (fun ids H' fr => fr.srcOwn (enc := iE) (sz := 1) (j := 2) (fun _ => rfl) (by decide) rfl) bd62 ?_
              intro a62 c62
              refine ⟨_, rfl, ?_⟩
              refine WJ.pop [⟨a56, c56, 1, encL iE (l0 ++ ([t21_0]))⟩, ⟨a62, c62, 1, encL iE (l1 ++ ([x9_15]))⟩] rfl ?_
              refine WJ.ci 208 hp rfl rfl rfl rfl rfl rfl rfl rfl rfl (fun hc66 hp => ?_) (fun hc66 hp => ?_)
              · exact WJ.goto 3 (j13 ((l0 ++ ([t21_0])), (l1 ++ ([x9_15])), a56, c56, a62, c62, B4) hp) rfl rfl (by exact ⟨rfl, rfl, trivial⟩) rfl rfl rfl
              · obtain ⟨b69, e69, hp⟩ := bindS hp
                refine WJ.hd (v := .int .u8 ((b69.toNat : Nat) : Int)) 208 rfl rfl rfl rfl (fun ids H' fr => opD_index rfl (evV_eq _ _ _ _ _ rfl) (evV_eq _ _ _ _ _ rfl) (sidx us9 e69)) rfl ?_
                refine WJ.cn 200 hp rfl rfl rfl rfl rfl rfl rfl rfl rfl (fun hc70 hp => ?_) (fun hc70 hp => ?_)
                · subst hK13
                  obtain rfl := endS (show some _ = some r from hp)
                  exact WJ.rt 207 rfl rfl rfl (fun ids H' fr => ⟨fr.ext0, rfl⟩)
                · exact WJ.ag 209 rfl (by exact ⟨rfl, rfl, rfl, rfl, trivial⟩) rfl rfl rfl (ih13 (n, (l0 ++ ([t21_0])), (l1 ++ ([x9_15])), IntKind.i64.wrap (x6_14 + 1), a56, c56, a62, c62, B4) hp (Nat.lt_succ_self _))
            · refine WJ.ci 202 hp rfl rfl rfl rfl rfl rfl rfl rfl rfl (fun hc58 hp => ?_) (fun hc58 hp => ?_)
              · exact WJ.goto 5 (j15 (-1) hp) rfl rfl (by exact ⟨rfl, rfl, rfl, rfl, rfl, trivial⟩) rfl rfl rfl
              · exact WJ.goto 3 (j15 x9_14 hp) rfl rfl (by exact ⟨rfl, rfl, rfl, rfl, rfl, trivial⟩) rfl rfl rfl
          · refine WJ.ci 204 hp rfl rfl rfl rfl rfl rfl rfl rfl rfl (fun hc33 hp => ?_) (fun hc33 hp => ?_)
            · obtain ⟨b37, e37, hp⟩ := bindS hp
              refine WJ.hd (v := .int .u8 ((b37.toNat : Nat) : Int)) 203 rfl rfl rfl rfl (fun ids H' fr => opD_index rfl (evV_eq _ _ _ _ _ rfl) (evV_eq _ _ _ _ _ rfl) (sidx us9 e37)) rfl ?_
              refine WJ.ci 200 hp rfl rfl rfl rfl rfl rfl rfl rfl rfl (fun hc38 hp => ?_) (fun hc38 hp => ?_)
              · obtain ⟨⟨t44_0, t44_1⟩, e44, hp⟩ := bindS hp
                refine WJ.cl 208 (R := R_3_3 ⟨t44_0, t44_1⟩) (fun hm h k => R_3_3.mono hm h k) rfl (fun ids H' fr => f40_ok e44) ?_
                rintro v B3 ⟨abB3, ivB3⟩ rfl
                refine ⟨_, rfl, ?_⟩
                refine WJ.ci 210 hp rfl rfl rfl rfl rfl rfl rfl rfl rfl (fun hc48 hp => ?_) (fun hc48 hp => ?_)
                · subst hK14
                  subst hK13
                  obtain rfl := endS (show some _ = some r from hp)
                  exact WJ.rt 207 rfl rfl rfl (fun ids H' fr => ⟨fr.ext0, rfl⟩)
                · exact WJ.goto 10 (j14 (IntKind.i64.wrap ((IntKind.i64.wrap ((IntKind.i64.wrap (x6 + t21_1)) + 1)) + t44_1), t44_0, t44_1, B3) hp) rfl rfl (by exact ⟨rfl, rfl, rfl, rfl, rfl, rfl, rfl, trivial⟩) rfl rfl rfl
              · exact WJ.goto 4 (j14 (IntKind.i64.wrap (x6 + t21_1), t21_0, (-1), B2) hp) rfl rfl (by exact ⟨rfl, rfl, rfl, rfl, rfl, rfl, rfl, trivial⟩) rfl rfl rfl
            · exact WJ.goto 9 (j14 (IntKind.i64.wrap (x6 + t21_1), t21_0, (-1), B2) hp) rfl rfl (by exact ⟨rfl, rfl, rfl, rfl, rfl, rfl, rfl, trivial⟩) rfl rfl rfl
/-! 31 tipstaff/tipstaffref02.Has -/
def f31 (x0 : Int) (x1 : Int) : Option Bool :=
  if x1 ≥ 0 then
    if x1 < 64 then
      (some ((bits .and .u64 (gshr .u64 x0 (IntKind.u64.wrap x1)) 1) == 1)).bind fun t17 =>
      some t17
    else
      some false
  else
    some false
set_option maxRecDepth 20000 in
theorem f31_ok {H : Hp} {x0 : Int} {x1 : Int} {r : Bool} (hp : f31 x0 x1 = some r) :
    SCall Tryd.prog 31 [.int .u64 x0, .int .i64 x1] H (Ret fun v H' => Ext H H' ∧ R_4 r H.next H' v) := by
  unfold f31 at hp
  replace hp := topS hp
  refine SCall.g Tryd.func31 rfl rfl rfl rfl rfl (l := [(0, .v (.int .u64 x0)), (1, .v (.int .i64 x1))]) (fun _ => rfl) (fun B abB => ?_)
  refine WJ.ci 207 hp rfl rfl rfl rfl rfl rfl rfl rfl rfl (fun hc6 hp => ?_) (fun hc6 hp => ?_)
  · refine WJ.ci 202 hp rfl rfl rfl rfl rfl rfl rfl rfl rfl (fun hc9 hp => ?_) (fun hc9 hp => ?_)
    · refine WJ.hd (v := .int .u64 (gshr .u64 x0 (IntKind.u64.wrap x1))) 205 rfl rfl rfl rfl (fun ids H' fr => opD_bin rfl (evV_eq _ _ _ _ _ rfl) (evV_eq _ _ _ _ _ rfl) (bin_shr (nn_u64 _))) rfl ?_
      obtain ⟨t17, e17, hp⟩ := bindS hp
      refine WJ.cv 201 (b := t17) (H0 := ⟨.nil, 0, 0⟩) rfl rfl rfl rfl rfl rfl (by rw [← endS e17]; exact rfl) rfl ?_
      obtain rfl := endS (show some _ = some r from hp)
      exact WJ.rt 203 rfl rfl rfl (fun ids H' fr => ⟨fr.ext0, rfl⟩)
    · obtain rfl := endS (show some _ = some r from hp)
      exact WJ.rt 211 rfl rfl rfl (fun ids H' fr => ⟨fr.ext0, rfl⟩)
  · obtain rfl := endS (show some _ = some r from hp)
    exact WJ.rt 214 rfl rfl rfl (fun ids H' fr => ⟨fr.ext0, rfl⟩)
/-! 44 tipstaff/tipstaffref02.digits -/
def f44_l1 : Nat → Int → (List UInt8) → Option ((List UInt8))
  | 0, _, _ => none
  | n + 1, x0, x3 =>
    (if x0 > 0 then
      some (Sum.inl ())
    else
      if x3 = ([] : List UInt8) then
        some (Sum.inl ())
      else
        some (Sum.inr x3)).bind fun s => match s with
      | .inl _ => 
        (scat (b8 ([IntKind.u8.wrap (IntKind.i64.wrap (48 + (x0.tmod 10)))])) x3).bind fun s17 =>
        f44_l1 n (IntKind.i64.wrap (x0.tdiv 10)) s17
      | .inr st => some (st)

def f44 (k : Nat) (x0 : Int) : Option (List UInt8) :=
  (f44_l1 k x0 ([] : List UInt8)).bind fun x3_18 =>
    some x3_18
set_option maxRecDepth 20000 in
theorem f44_ok {k : Nat} {H : Hp} {x0 : Int} {r : List UInt8} (hp : f44 k x0 = some r) :
    SCall Tryd.prog 44 [.int .i64 x0] H (Ret fun v H' => Ext H H' ∧ R_9 r H.next H' v) := by
  unfold f44 at hp
  replace hp := topS hp
  refine SCall.g Tryd.func44 rfl rfl rfl rfl rfl (l := [(0, .v (.int .i64 x0))]) (fun _ => rfl) (fun B abB => ?_)
  refine WJ.adv 10 rfl ?_
  obtain ⟨K18, hK18, hp⟩ : ∃ K, K = _ ∧ Option.bind _ K = some r := ⟨_, rfl, cutS hp⟩
  refine WJ.cut 2 (α := (List UInt8)) (fun y => [(3, .v (.string (bs y)))]) (fun y => []) (fun y => []) (fun y => B) (fun y => K18 (y) = some r) ?_ (fun j18 => ?_)
  · rintro x3_18 hp
    subst hK18
    show WJ _ _ _ B [] _ _ ⟨[(3, .v (.string (bs x3_18)))], [], true, 0⟩
    obtain rfl := endS (show some _ = some r from hp)
    exact WJ.rt 205 rfl rfl rfl (fun ids H' fr => ⟨fr.ext0, rfl⟩)
  · refine WJ.lp 200 (α := Nat × Int × (List UInt8)) (fun y => [(0, .v (.int .i64 y.2.1)), (3, .v (.string (bs y.2.2)))]) (fun y => []) (fun y => []) (fun y => B) (fun y => y.1) (fun y => Option.bind (f44_l1 y.1 y.2.1 y.2.2) K18 = some r) (k, x0, ([] : List UInt8)) rfl hp (by exact ⟨rfl, rfl, trivial⟩) rfl rfl rfl ?_
    rintro ⟨n, x0, x3⟩ hp ih18
    show WJ _ _ _ B [] _ _ ⟨[(0, .v (.int .i64 x0)), (3, .v (.string (bs x3)))], [], true, 0⟩
    replace hp : Option.bind (f44_l1 n x0 x3) K18 = some r := hp
    cases n with
    | zero => rw [f44_l1] at hp; exact (noS hp).elim
    | succ n =>
      rw [f44_l1] at hp
      refine WJ.adv 2 rfl ?_
      obtain ⟨K19, hK19, hp⟩ : ∃ K, K = _ ∧ Option.bind _ K = some r := ⟨_, rfl, cutS hp⟩
      refine WJ.cut 2 (α := Unit) (fun y => [(0, .v (.int .i64 x0)), (3, .v (.string (bs x3)))]) (fun y => []) (fun y => []) (fun y => B) (fun y => K19 ((Sum.inl ())) = some r) ?_ (fun j19 => ?_)
      · rintro u hp
        subst hK19
        show WJ _ _ _ B [] _ _ ⟨[(0, .v (.int .i64 x0)), (3, .v (.string (bs x3)))], [], true, 0⟩
        refine WJ.hd (v := .int .i64 (x0.tmod 10)) 204 rfl rfl rfl rfl (fun ids H' fr => opD_bin rfl (evV_eq _ _ _ _ _ rfl) (evV_eq _ _ _ _ _ rfl) (bin_rem (by decide))) rfl ?_
        refine WJ.bs (cs := encL (kE .u8) [IntKind.u8.wrap (IntKind.i64.wrap (48 + (x0.tmod 10)))]) (sz := 1) (pl := [(0, .int .u8 (IntKind.u8.wrap (IntKind.i64.wrap (48 + (x0.tmod 10)))))]) 202 rfl rfl rfl rfl rfl (fun _ _ => rfl) (fun _ => by rfl) rfl rfl ?_
        intro b14
        refine ⟨_, rfl, ?_⟩
        refine WJ.hd (v := .string (bs (b8 ([IntKind.u8.wrap (IntKind.i64.wrap (48 + (x0.tmod 10)))])))) 200 rfl rfl rfl rfl (fun ids H' fr => opD_conv rfl (evV_eq _ _ _ _ _ rfl) (fr.convOwn (j := 0) rfl u66 us9 u8_5)) rfl ?_
        obtain ⟨s17, e17, hp⟩ := bindS hp
        refine WJ.hd (v := .string (bs s17)) 201 rfl rfl rfl rfl (fun ids H' fr => opD_bin rfl (evV_eq _ _ _ _ _ rfl) (evV_eq _ _ _ _ _ rfl) (bin_sadd e17)) rfl ?_
        refine WJ.hd (v := .int .i64 (IntKind.i64.wrap (x0.tdiv 10))) 204 rfl rfl rfl rfl (fun ids H' fr => opD_bin rfl (evV_eq _ _ _ _ _ rfl) (evV_eq _ _ _ _ _ rfl) (bin_quo (by decide))) rfl ?_
        exact WJ.ag 203 rfl (by exact ⟨rfl, rfl, trivial⟩) rfl rfl rfl (ih18 (n, IntKind.i64.wrap (x0.tdiv 10), s17) hp (Nat.lt_succ_self _))
      · refine WJ.ci 202 hp rfl rfl rfl rfl rfl rfl rfl rfl rfl (fun hc5 hp => ?_) (fun hc5 hp => ?_)
        · exact WJ.goto 7 (j19 () hp) rfl rfl (by exact ⟨rfl, rfl, trivial⟩) rfl rfl rfl
        · refine WJ.ci 202 hp rfl rfl rfl rfl rfl rfl (opD_streq rfl rfl rfl) rfl rfl (fun hc8 hp => ?_) (fun hc8 hp => ?_)
          · exact WJ.goto 4 (j19 () hp) rfl rfl (by exact ⟨rfl, rfl, trivial⟩) rfl rfl rfl
          · subst hK19
            exact WJ.goto 4 (j18 x3 hp) rfl rfl (by exact ⟨rfl, trivial⟩) rfl rfl rfl
/-! 15 tipstaff/tipstaffref02.Text -/
def f15_l2 (x0 : Int) : Nat → Int → Option (Int)
  | 0, _ => none
  | n + 1, x5 =>
    (f31 x0 (IntKind.i64.wrap (x5 + 1))).bind fun t24 =>
    if t24 then
      f15_l2 x0 n (IntKind.i64.wrap (x5 + 1))
    else
      some (x5)

def f15_l1 (k : Nat) (x0 : Int) : Nat → (List UInt8) → Int → Option ((List UInt8))
  | 0, _, _ => none
  | n + 1, x3, x4 =>
    if x4 < 64 then
      (f31 x0 x4).bind fun t12 =>
      if t12 then
        (f31 x0 (IntKind.i64.wrap (x4 - 1))).bind fun t18 =>
        if t18 then
          f15_l1 k x0 n x3 (IntKind.i64.wrap (x4 + 1))
        else
          (f15_l2 x0 k x4).bind fun x5_21 =>
            (if x3 = ([] : List UInt8) then
              some (x3)
            else
              (scat x3 ([44])).bind fun s30 =>
              some (s30)).bind fun x3_22 =>
              (f44 k x4).bind fun t33 =>
              (scat x3_22 t33).bind fun s34 =>
              (if x5_21 > x4 then
                (scat s34 ([45])).bind fun s39 =>
                (f44 k x5_21).bind fun t41 =>
                (scat s39 t41).bind fun s42 =>
                some (s42)
              else
                some (s34)).bind fun x3_23 =>
                f15_l1 k x0 n x3_23 (IntKind.i64.wrap (x4 + 1))
      else
        f15_l1 k x0 n x3 (IntKind.i64.wrap (x4 + 1))
    else
      some (x3)

def f15 (k : Nat) (x0 : Int) : Option (List UInt8) :=
  (f15_l1 k x0 k ([] : List UInt8) 0).bind fun x3_20 =>
    if x3_20 = ([] : List UInt8) then
      some ([110, 111, 110, 101])
    else
      some x3_20
set_option maxRecDepth 20000 in
theorem f15_ok {k : Nat} {H : Hp} {x0 : Int} {r : List UInt8} (hp : f15 k x0 = some r) :
    SCall Tryd.prog 15 [.int .u64 x0] H (Ret fun v H' => Ext H H' ∧ R_9 r H.next H' v) := by
  unfold f15 at hp
  replace hp := topS hp
  refine SCall.g Tryd.func15 rfl rfl rfl rfl rfl (l := [(0, .v (.int .u64 x0))]) (fun _ => rfl) (fun B abB => ?_)
  refine WJ.adv 14 rfl ?_
  obtain ⟨K20, hK20, hp⟩ : ∃ K, K = _ ∧ Option.bind _ K = some r := ⟨_, rfl, cutS hp⟩
  refine WJ.cut 2 (α := (List UInt8) × Hp) (fun y => [(3, .v (.string (bs y.1)))]) (fun y => []) (fun y => []) (fun y => y.2) (fun y => K20 (y.1) = some r) ?_ (fun j20 => ?_)
  · rintro ⟨x3_20, B10⟩ hp
    subst hK20
    show WJ _ _ _ B10 [] _ _ ⟨[(3, .v (.string (bs x3_20)))], [], true, 0⟩
    refine WJ.ci 204 hp rfl rfl rfl rfl rfl rfl (opD_streq rfl rfl rfl) rfl rfl (fun hc44 hp => ?_) (fun hc44 hp => ?_)
    · obtain rfl := endS (show some _ = some r from hp)
      exact WJ.rt 206 rfl rfl rfl (fun ids H' fr => ⟨fr.ext0, rfl⟩)
    · obtain rfl := endS (show some _ = some r from hp)
      exact WJ.rt 208 rfl rfl rfl (fun ids H' fr => ⟨fr.ext0, rfl⟩)
  · refine WJ.lp 200 (α := Nat × (List UInt8) × Int × Hp) (fun y => [(0, .v (.int .u64 x0)), (3, .v (.string (bs y.2.1))), (4, .v (.int .i64 y.2.2.1))]) (fun y => []) (fun y => []) (fun y => y.2.2.2) (fun y => y.1) (fun y => Option.bind (f15_l1 k x0 y.1 y.2.1 y.2.2.1) K20 = some r) (k, ([] : List UInt8), 0, B) rfl hp (by exact ⟨rfl, rfl, rfl, trivial⟩) rfl rfl rfl ?_
    rintro ⟨n, x3, x4, B1⟩ hp ih20
    show WJ _ _ _ B1 [] _ _ ⟨[(0, .v (.int .u64 x0)), (3, .v (.string (bs x3))), (4, .v (.int .i64 x4))], [], true, 0⟩
    replace hp : Option.bind (f15_l1 k x0 n x3 x4) K20 = some r := hp
    cases n with
    | zero => rw [f15_l1] at hp; exact (noS hp).elim
    | succ n =>
      rw [f15_l1] at hp
      refine WJ.ci 204 hp rfl rfl rfl rfl rfl rfl rfl rfl rfl (fun hc7 hp => ?_) (fun hc7 hp => ?_)
      · obtain ⟨t12, e12, hp⟩ := bindS hp
        refine WJ.cl 210 (R := R_4 t12) (fun hm h k => R_4.mono hm h k) rfl (fun ids H' fr => f31_ok e12) ?_
        rintro v B2 ⟨abB2, ivB2⟩ rfl
        refine ⟨_, rfl, ?_⟩
        cases t12
        · replace hp := (itS hp).2 Bool.false_ne_true
          exact WJ.ag 215 rfl (by exact ⟨rfl, rfl, rfl, trivial⟩) rfl rfl rfl (ih20 (n, x3, IntKind.i64.wrap (x4 + 1), B2) hp (Nat.lt_succ_self _))
        · replace hp := (itS hp).1 rfl
          obtain ⟨t18, e18, hp⟩ := bindS hp
          refine WJ.cl 205 (R := R_4 t18) (fun hm h k => R_4.mono hm h k) rfl (fun ids H' fr => f31_ok e18) ?_
          rintro v B3 ⟨abB3, ivB3⟩ rfl
          refine ⟨_, rfl, ?_⟩
          cases t18
          · replace hp := (itS hp).2 Bool.false_ne_true
            refine WJ.adv 11 rfl ?_
            obtain ⟨K21, hK21, hp⟩ : ∃ K, K = _ ∧ Option.bind _ K = some r := ⟨_, rfl, cutS hp⟩
            refine WJ.cut 2 (α := Int × Hp) (fun y => [(0, .v (.int .u64 x0)), (3, .v (.string (bs x3))), (4, .v (.int .i64 x4)), (5, .v (.int .i64 y.1))]) (fun y => []) (fun y => []) (fun y => y.2) (fun y => K21 (y.1) = some r) ?_ (fun j21 => ?_)
            · rintro ⟨x5_21, B6⟩ hp
              subst hK21
              show WJ _ _ _ B6 [] _ _ ⟨[(0, .v (.int .u64 x0)), (3, .v (.string (bs x3))), (4, .v (.int .i64 x4)), (5, .v (.int .i64 x5_21))], [], true, 0⟩
              refine WJ.adv 2 rfl ?_
              obtain ⟨K22, hK22, hp⟩ : ∃ K, K = _ ∧ Option.bind _ K = some r := ⟨_, rfl, cutS hp⟩
              refine WJ.cut 2 (α := (List UInt8)) (fun y => [(0, .v (.int .u64 x0)), (3, .v (.string (bs y))), (4, .v (.int .i64 x4)), (5, .v (.int .i64 x5_21))]) (fun y => []) (fun y => []) (fun y => B6) (fun y => K22 ((y)) = some r) ?_ (fun j22 => ?_)
              · rintro x3_22 hp
                subst hK22
                show WJ _ _ _ B6 [] _ _ ⟨[(0, .v (.int .u64 x0)), (3, .v (.string (bs x3_22))), (4, .v (.int .i64 x4)), (5, .v (.int .i64 x5_21))], [], true, 0⟩
                obtain ⟨t33, e33, hp⟩ := bindS hp
                refine WJ.cl 204 (R := R_9 t33) (fun hm h k => R_9.mono hm h k) rfl (fun ids H' fr => f44_ok e33) ?_
                rintro v B7 ⟨abB7, ivB7⟩ rfl
                refine ⟨_, rfl, ?_⟩
                obtain ⟨s34, e34, hp⟩ := bindS hp
                refine WJ.hd (v := .string (bs s34)) 200 rfl rfl rfl rfl (fun ids H' fr => opD_bin rfl (evV_eq _ _ _ _ _ rfl) (evV_eq _ _ _ _ _ rfl) (bin_sadd e34)) rfl ?_
                refine WJ.adv 3 rfl ?_
                obtain ⟨K23, hK23, hp⟩ : ∃ K, K = _ ∧ Option.bind _ K = some r := ⟨_, rfl, cutS hp⟩
                refine WJ.cut 3 (α := (List UInt8) × Hp) (fun y => [(0, .v (.int .u64 x0)), (3, .v (.string (bs y.1))), (4, .v (.int .i64 x4))]) (fun y => []) (fun y => []) (fun y => y.2) (fun y => K23 ((y.1)) = some r) ?_ (fun j23 => ?_)
                · rintro ⟨x3_23, B9⟩ hp
                  subst hK23
                  show WJ _ _ _ B9 [] _ _ ⟨[(0, .v (.int .u64 x0)), (3, .v (.string (bs x3_23))), (4, .v (.int .i64 x4))], [], true, 0⟩
                  exact WJ.ag 205 rfl (by exact ⟨rfl, rfl, rfl, trivial⟩) rfl rfl rfl (ih20 (n, x3_23, IntKind.i64.wrap (x4 + 1), B9) hp (Nat.lt_succ_self _))
                · refine WJ.ci 203 hp rfl rfl rfl rfl rfl rfl rfl rfl rfl (fun hc37 hp => ?_) (fun hc37 hp => ?_)
                  · obtain ⟨s39, e39, hp⟩ := bindS hp
                    refine WJ.hd (v := .string (bs s39)) 204 rfl rfl rfl rfl (fun ids H' fr => opD_bin rfl (evV_eq _ _ _ _ _ rfl) (evV_eq _ _ _ _ _ rfl) (bin_sadd e39)) rfl ?_
                    obtain ⟨t41, e41, hp⟩ := bindS hp
                    refine WJ.cl 201 (R := R_9 t41) (fun hm h k => R_9.mono hm h k) rfl (fun ids H' fr => f44_ok e41) ?_
                    rintro v B8 ⟨abB8, ivB8⟩ rfl
                    refine ⟨_, rfl, ?_⟩
                    obtain ⟨s42, e42, hp⟩ := bindS hp
                    refine WJ.hd (v := .string (bs s42)) 200 rfl rfl rfl rfl (fun ids H' fr => opD_bin rfl (evV_eq _ _ _ _ _ rfl) (evV_eq _ _ _ _ _ rfl) (bin_sadd e42)) rfl ?_
                    exact WJ.goto 3 (j23 (s42, B8) hp) rfl rfl (by exact ⟨rfl, rfl, rfl, trivial⟩) rfl rfl rfl
                  · exact WJ.goto 4 (j23 (s34, B7) hp) rfl rfl (by exact ⟨rfl, rfl, rfl, trivial⟩) rfl rfl rfl
              · refine WJ.cn 202 hp rfl rfl rfl rfl rfl rfl (opD_strne rfl rfl rfl) rfl rfl (fun hc28 hp => ?_) (fun hc28 hp => ?_)
                · obtain ⟨s30, e30, hp⟩ := bindS hp
                  refine WJ.hd (v := .string (bs s30)) 204 rfl rfl rfl rfl (fun ids H' fr => opD_bin rfl (evV_eq _ _ _ _ _ rfl) (evV_eq _ _ _ _ _ rfl) (bin_sadd e30)) rfl ?_
                  exact WJ.goto 2 (j22 s30 hp) rfl rfl (by exact ⟨rfl, rfl, rfl, rfl, trivial⟩) rfl rfl rfl
                · exact WJ.goto 3 (j22 x3 hp) rfl rfl (by exact ⟨rfl, rfl, rfl, rfl, trivial⟩) rfl rfl rfl
            · refine WJ.lp 200 (α := Nat × Int × Hp) (fun y => [(0, .v (.int .u64 x0)), (3, .v (.string (bs x3))), (4, .v (.int .i64 x4)), (5, .v (.int .i64 y.2.1))]) (fun y => []) (fun y => []) (fun y => y.2.2) (fun y => y.1) (fun y => Option.bind (f15_l2 x0 y.1 y.2.1) K21 = some r) (k, x4, B3) rfl hp (by exact ⟨rfl, rfl, rfl, rfl, trivial⟩) rfl rfl rfl ?_
              rintro ⟨n, x5, B4⟩ hp ih21
              show WJ _ _ _ B4 [] _ _ ⟨[(0, .v (.int .u64 x0)), (3, .v (.string (bs x3))), (4, .v (.int .i64 x4)), (5, .v (.int .i64 x5))], [], true, 0⟩
              replace hp : Option.bind (f15_l2 x0 n x5) K21 = some r := hp
              cases n with
              | zero => rw [f15_l2] at hp; exact (noS hp).elim
              | succ n =>
                rw [f15_l2] at hp
                obtain ⟨t24, e24, hp⟩ := bindS hp
                refine WJ.cl 206 (R := R_4 t24) (fun hm h k => R_4.mono hm h k) rfl (fun ids H' fr => f31_ok e24) ?_
                rintro v B5 ⟨abB5, ivB5⟩ rfl
                refine ⟨_, rfl, ?_⟩
                cases t24
                · replace hp := (itS hp).2 Bool.false_ne_true
                  exact WJ.goto 3 (j21 (x5, B5) hp) rfl rfl (by exact ⟨rfl, rfl, rfl, rfl, trivial⟩) rfl rfl rfl
                · replace hp := (itS hp).1 rfl
                  exact WJ.ag 210 rfl (by exact ⟨rfl, rfl, rfl, rfl, trivial⟩) rfl rfl rfl (ih21 (n, IntKind.i64.wrap (x5 + 1), B5) hp (Nat.lt_succ_self _))
          · replace hp := (itS hp).1 rfl
            exact WJ.ag 209 rfl (by exact ⟨rfl, rfl, rfl, trivial⟩) rfl rfl rfl (ih20 (n, x3, IntKind.i64.wrap (x4 + 1), B3) hp (Nat.lt_succ_self _))
      · exact WJ.goto 3 (j20 (x3, B1) hp) rfl rfl (by exact ⟨rfl, trivial⟩) rfl rfl rfl
/-! 3 tipstaff/tipstafflaw02.MaskTexts -/
def f3 (k : Nat) (x0 : Int) (x1 : List UInt8) : Option Bool :=
  if (x1.length : Int) > 400 then
    (f11 k).bind fun t12 =>
    some t12
  else
    (f12 k x1).bind fun (t15_0, t15_1) =>
    (f13 k x1).bind fun (t20_0, t20_1) =>
    (f14 k x0).bind fun t24 =>
    (f15 k x0).bind fun t26 =>
    if t24 = t26 then
      if t15_0 = t20_0 then
        if t15_1 = t20_1 then
          (f11 k).bind fun t39 =>
          some t39
        else
          some false
      else
        some false
    else
      some false
set_option maxRecDepth 20000 in
theorem f3_ok {k : Nat} {H : Hp} {x0 : Int} {x1 : List UInt8} {r : Bool} (hp : f3 k x0 x1 = some r) :
    SCall Tryd.prog 3 [.int .u64 x0, .string (bs x1)] H (Ret fun v H' => Ext H H' ∧ R_4 r H.next H' v) := by
  unfold f3 at hp
  replace hp := topS hp
  refine SCall.g Tryd.func3 rfl rfl rfl rfl rfl (l := [(0, .v (.int .u64 x0)), (1, .v (.string (bs x1)))]) (fun _ => rfl) (fun B abB => ?_)
  refine WJ.ci 209 hp rfl rfl rfl rfl rfl rfl rfl rfl rfl (fun hc11 hp => ?_) (fun hc11 hp => ?_)
  · obtain ⟨t12, e12, hp⟩ := bindS hp
    refine WJ.cl 204 (R := R_4 t12) (fun hm h k => R_4.mono hm h k) rfl (fun ids H' fr => f11_ok e12) ?_
    rintro v B1 ⟨abB1, ivB1⟩ rfl
    refine ⟨_, rfl, ?_⟩
    obtain rfl := endS (show some _ = some r from hp)
    exact WJ.rt 202 rfl rfl rfl (fun ids H' fr => ⟨fr.ext0, rfl⟩)
  · obtain ⟨⟨t15_0, t15_1⟩, e15, hp⟩ := bindS hp
    refine WJ.cl 206 (R := R_22_24 ⟨t15_0, t15_1⟩) (fun hm h k => R_22_24.mono hm h k) rfl (fun ids H' fr => f12_ok e15) ?_
    rintro v B2 ⟨abB2, ivB2⟩ rfl
    refine ⟨_, rfl, ?_⟩
    obtain ⟨⟨t20_0, t20_1⟩, e20, hp⟩ := bindS hp
    refine WJ.cl 209 (R := R_22_24 ⟨t20_0, t20_1⟩) (fun hm h k => R_22_24.mono hm h k) rfl (fun ids H' fr => f13_ok e20) ?_
    rintro v B3 ⟨abB3, ivB3⟩ rfl
    refine ⟨_, rfl, ?_⟩
    obtain ⟨t24, e24, hp⟩ := bindS hp
    refine WJ.cl 209 (R := R_9 t24) (fun hm h k => R_9.mono hm h k) rfl (fun ids H' fr => f14_ok e24) ?_
    rintro v B4 ⟨abB4, ivB4⟩ rfl
    refine ⟨_, rfl, ?_⟩
    obtain ⟨t26, e26, hp⟩ := bindS hp
    refine WJ.cl 201 (R := R_9 t26) (fun hm h k => R_9.mono hm h k) rfl (fun ids H' fr => f15_ok e26) ?_
    rintro v B5 ⟨abB5, ivB5⟩ rfl
    refine ⟨_, rfl, ?_⟩
    refine WJ.ci 200 hp rfl rfl rfl rfl rfl rfl (opD_streq rfl rfl rfl) rfl rfl (fun hc27 hp => ?_) (fun hc27 hp => ?_)
    · refine WJ.ci 203 hp rfl rfl rfl rfl rfl rfl rfl rfl rfl (fun hc31 hp => ?_) (fun hc31 hp => ?_)
      · refine WJ.ci 204 hp rfl rfl rfl rfl rfl rfl rfl rfl rfl (fun hc36 hp => ?_) (fun hc36 hp => ?_)
        · obtain ⟨t39, e39, hp⟩ := bindS hp
          refine WJ.cl 202 (R := R_4 t39) (fun hm h k => R_4.mono hm h k) rfl (fun ids H' fr => f11_ok e39) ?_
          rintro v B6 ⟨abB6, ivB6⟩ rfl
          refine ⟨_, rfl, ?_⟩
          obtain rfl := endS (show some _ = some r from hp)
          exact WJ.rt 203 rfl rfl rfl (fun ids H' fr => ⟨fr.ext0, rfl⟩)
        · obtain rfl := endS (show some _ = some r from hp)
          exact WJ.rt 206 rfl rfl rfl (fun ids H' fr => ⟨fr.ext0, rfl⟩)
      · obtain rfl := endS (show some _ = some r from hp)
        exact WJ.rt 211 rfl rfl rfl (fun ids H' fr => ⟨fr.ext0, rfl⟩)
    · obtain rfl := endS (show some _ = some r from hp)
      exact WJ.rt 215 rfl rfl rfl (fun ids H' fr => ⟨fr.ext0, rfl⟩)
/-! 18 tipstaff/mask.All -/
def f18 (x0 : Int) : Option (Int × Int) :=
  if x0 < 0 then
    some (0, 2)
  else
    if x0 > 64 then
      some (0, 2)
    else
      (f39 x0).bind fun t11 =>
      some (t11, 0)
set_option maxRecDepth 20000 in
theorem f18_ok {H : Hp} {x0 : Int} {r : Int × Int} (hp : f18 x0 = some r) :
    SCall Tryd.prog 18 [.int .i64 x0] H (Ret fun v H' => Ext H H' ∧ R_22_24 r H.next H' v) := by
  unfold f18 at hp
  replace hp := topS hp
  refine SCall.g Tryd.func18 rfl rfl rfl rfl rfl (l := [(0, .v (.int .i64 x0))]) (fun _ => rfl) (fun B abB => ?_)
  refine WJ.ci 209 hp rfl rfl rfl rfl rfl rfl rfl rfl rfl (fun hc5 hp => ?_) (fun hc5 hp => ?_)
  · obtain rfl := endS (show some _ = some r from hp)
    exact WJ.rt 211 rfl rfl rfl (fun ids H' fr => ⟨fr.ext0, rfl⟩)
  · refine WJ.ci 202 hp rfl rfl rfl rfl rfl rfl rfl rfl rfl (fun hc8 hp => ?_) (fun hc8 hp => ?_)
    · obtain rfl := endS (show some _ = some r from hp)
      exact WJ.rt 208 rfl rfl rfl (fun ids H' fr => ⟨fr.ext0, rfl⟩)
    · obtain ⟨t11, e11, hp⟩ := bindS hp
      refine WJ.cl 207 (R := R_22 t11) (fun hm h k => R_22.mono hm h k) rfl (fun ids H' fr => f39_ok e11) ?_
      rintro v B1 ⟨abB1, ivB1⟩ rfl
      refine ⟨_, rfl, ?_⟩
      obtain rfl := endS (show some _ = some r from hp)
      exact WJ.rt 203 rfl rfl rfl (fun ids H' fr => ⟨fr.ext0, rfl⟩)
/-! 19 tipstaff/tipstaffref02.All -/
def f19_l1 (x0 : Int) : Nat → Int → Int → Option (Int)
  | 0, _, _ => none
  | n + 1, x4, x5 =>
    if x5 < x0 then
      f19_l1 x0 n (bits .or .u64 x4 (gshl .u64 1 (IntKind.u64.wrap x5))) (IntKind.i64.wrap (x5 + 1))
    else
      some (x4)

def f19 (k : Nat) (x0 : Int) : Option (Int × Int) :=
  if x0 < 0 then
    some (0, 2)
  else
    if x0 > 64 then
      some (0, 2)
    else
      (f19_l1 x0 k 0 0).bind fun x4_24 =>
        some (x4_24, 0)
set_option maxRecDepth 20000 in
theorem f19_ok {k : Nat} {H : Hp} {x0 : Int} {r : Int × Int} (hp : f19 k x0 = some r) :
    SCall Tryd.prog 19 [.int .i64 x0] H (Ret fun v H' => Ext H H' ∧ R_22_24 r H.next H' v) := by
  unfold f19 at hp
  replace hp := topS hp
  refine SCall.g Tryd.func19 rfl rfl rfl rfl rfl (l := [(0, .v (.int .i64 x0))]) (fun _ => rfl) (fun B abB => ?_)
  refine WJ.ci 209 hp rfl rfl rfl rfl rfl rfl rfl rfl rfl (fun hc7 hp => ?_) (fun hc7 hp => ?_)
  · obtain rfl := endS (show some _ = some r from hp)
    exact WJ.rt 211 rfl rfl rfl (fun ids H' fr => ⟨fr.ext0, rfl⟩)
  · refine WJ.ci 202 hp rfl rfl rfl rfl rfl rfl rfl rfl rfl (fun hc10 hp => ?_) (fun hc10 hp => ?_)
    · obtain rfl := endS (show some _ = some r from hp)
      exact WJ.rt 208 rfl rfl rfl (fun ids H' fr => ⟨fr.ext0, rfl⟩)
    · refine WJ.adv 14 rfl ?_
      obtain ⟨K24, hK24, hp⟩ : ∃ K, K = _ ∧ Option.bind _ K = some r := ⟨_, rfl, cutS hp⟩
      refine WJ.cut 2 (α := Int) (fun y => [(4, .v (.int .u64 y))]) (fun y => []) (fun y => []) (fun y => B) (fun y => K24 (y) = some r) ?_ (fun j24 => ?_)
      · rintro x4_24 hp
        subst hK24
        show WJ _ _ _ B [] _ _ ⟨[(4, .v (.int .u64 x4_24))], [], true, 0⟩
        obtain rfl := endS (show some _ = some r from hp)
        exact WJ.rt 206 rfl rfl rfl (fun ids H' fr => ⟨fr.ext0, rfl⟩)
      · refine WJ.lp 200 (α := Nat × Int × Int) (fun y => [(0, .v (.int .i64 x0)), (4, .v (.int .u64 y.2.1)), (5, .v (.int .i64 y.2.2))]) (fun y => []) (fun y => []) (fun y => B) (fun y => y.1) (fun y => Option.bind (f19_l1 x0 y.1 y.2.1 y.2.2) K24 = some r) (k, 0, 0) rfl hp (by exact ⟨rfl, rfl, rfl, trivial⟩) rfl rfl rfl ?_
        rintro ⟨n, x4, x5⟩ hp ih24
        show WJ _ _ _ B [] _ _ ⟨[(0, .v (.int .i64 x0)), (4, .v (.int .u64 x4)), (5, .v (.int .i64 x5))], [], true, 0⟩
        replace hp : Option.bind (f19_l1 x0 n x4 x5) K24 = some r := hp
        cases n with
        | zero => rw [f19_l1] at hp; exact (noS hp).elim
        | succ n =>
          rw [f19_l1] at hp
          refine WJ.ci 205 hp rfl rfl rfl rfl rfl rfl rfl rfl rfl (fun hc14 hp => ?_) (fun hc14 hp => ?_)
          · refine WJ.hd (v := .int .u64 (gshl .u64 1 (IntKind.u64.wrap x5))) 209 rfl rfl rfl rfl (fun ids H' fr => opD_bin rfl (evV_eq _ _ _ _ _ rfl) (evV_eq _ _ _ _ _ rfl) (bin_shl (nn_u64 _))) rfl ?_
            exact WJ.ag 209 rfl (by exact ⟨rfl, rfl, rfl, trivial⟩) rfl rfl rfl (ih24 (n, bits .or .u64 x4 (gshl .u64 1 (IntKind.u64.wrap x5)), IntKind.i64.wrap (x5 + 1)) hp (Nat.lt_succ_self _))
          · exact WJ.goto 3 (j24 x4 hp) rfl rfl (by exact ⟨rfl, trivial⟩) rfl rfl rfl
/-! 4 tipstaff/tipstafflaw02.MaskPuts -/
def f4 (k : Nat) (x0 : Int) (x1 : Int) (x2 : Int) (x3 : Bool) : Option Bool :=
  (f16 x0 x1 x2 x3).bind fun (t22_0, t22_1) =>
  (f17 k x0 x1 x2 x3).bind fun (t30_0, t30_1) =>
  (f18 x2).bind fun (t35_0, t35_1) =>
  (f19 k x2).bind fun (t40_0, t40_1) =>
  if t22_0 = t30_0 then
    if t22_1 = t30_1 then
      if t35_0 = t40_0 then
        if t35_1 = t40_1 then
          (f11 k).bind fun t62 =>
          some t62
        else
          some false
      else
        some false
    else
      some false
  else
    some false
set_option maxRecDepth 20000 in
theorem f4_ok {k : Nat} {H : Hp} {x0 : Int} {x1 : Int} {x2 : Int} {x3 : Bool} {r : Bool} (hp : f4 k x0 x1 x2 x3 = some r) :
    SCall Tryd.prog 4 [.int .u64 x0, .int .i64 x1, .int .i64 x2, .bool x3] H (Ret fun v H' => Ext H H' ∧ R_4 r H.next H' v) := by
  unfold f4 at hp
  replace hp := topS hp
  refine SCall.g Tryd.func4 rfl rfl rfl rfl rfl (l := [(0, .v (.int .u64 x0)), (1, .v (.int .i64 x1)), (2, .v (.int .i64 x2)), (3, .v (.bool x3))]) (fun _ => rfl) (fun B abB => ?_)
  obtain ⟨⟨t22_0, t22_1⟩, e22, hp⟩ := bindS hp
  refine WJ.cl 210 (R := R_22_24 ⟨t22_0, t22_1⟩) (fun hm h k => R_22_24.mono hm h k) rfl (fun ids H' fr => f16_ok e22) ?_
  rintro v B1 ⟨abB1, ivB1⟩ rfl
  refine ⟨_, rfl, ?_⟩
  obtain ⟨⟨t30_0, t30_1⟩, e30, hp⟩ := bindS hp
  refine WJ.cl 212 (R := R_22_24 ⟨t30_0, t30_1⟩) (fun hm h k => R_22_24.mono hm h k) rfl (fun ids H' fr => f17_ok e30) ?_
  rintro v B2 ⟨abB2, ivB2⟩ rfl
  refine ⟨_, rfl, ?_⟩
  obtain ⟨⟨t35_0, t35_1⟩, e35, hp⟩ := bindS hp
  refine WJ.cl 209 (R := R_22_24 ⟨t35_0, t35_1⟩) (fun hm h k => R_22_24.mono hm h k) rfl (fun ids H' fr => f18_ok e35) ?_
  rintro v B3 ⟨abB3, ivB3⟩ rfl
  refine ⟨_, rfl, ?_⟩
  obtain ⟨⟨t40_0, t40_1⟩, e40, hp⟩ := bindS hp
  refine WJ.cl 209 (R := R_22_24 ⟨t40_0, t40_1⟩) (fun hm h k => R_22_24.mono hm h k) rfl (fun ids H' fr => f19_ok e40) ?_
  rintro v B4 ⟨abB4, ivB4⟩ rfl
  refine ⟨_, rfl, ?_⟩
  refine WJ.ci 210 hp rfl rfl rfl rfl rfl rfl rfl rfl rfl (fun hc45 hp => ?_) (fun hc45 hp => ?_)
  · refine WJ.ci 203 hp rfl rfl rfl rfl rfl rfl rfl rfl rfl (fun hc49 hp => ?_) (fun hc49 hp => ?_)
    · refine WJ.ci 204 hp rfl rfl rfl rfl rfl rfl rfl rfl rfl (fun hc54 hp => ?_) (fun hc54 hp => ?_)
      · refine WJ.ci 204 hp rfl rfl rfl rfl rfl rfl rfl rfl rfl (fun hc59 hp => ?_) (fun hc59 hp => ?_)
        · obtain ⟨t62, e62, hp⟩ := bindS hp
          refine WJ.cl 202 (R := R_4 t62) (fun hm h k => R_4.mono hm h k) rfl (fun ids H' fr => f11_ok e62) ?_
          rintro v B5 ⟨abB5, ivB5⟩ rfl
          refine ⟨_, rfl, ?_⟩
          obtain rfl := endS (show some _ = some r from hp)
          exact WJ.rt 203 rfl rfl rfl (fun ids H' fr => ⟨fr.ext0, rfl⟩)
        · obtain rfl := endS (show some _ = some r from hp)
          exact WJ.rt 206 rfl rfl rfl (fun ids H' fr => ⟨fr.ext0, rfl⟩)
      · obtain rfl := endS (show some _ = some r from hp)
        exact WJ.rt 211 rfl rfl rfl (fun ids H' fr => ⟨fr.ext0, rfl⟩)
    · obtain rfl := endS (show some _ = some r from hp)
      exact WJ.rt 216 rfl rfl rfl (fun ids H' fr => ⟨fr.ext0, rfl⟩)
  · obtain rfl := endS (show some _ = some r from hp)
    exact WJ.rt 220 rfl rfl rfl (fun ids H' fr => ⟨fr.ext0, rfl⟩)
/-! 24 tipstaff/tipstafflaw02.fails -/
def f24 (k : Nat) (x0 : List UInt8) (x1 : Int) : Option Bool :=
  (f12 k x0).bind fun (t9_0, t9_1) =>
  if t9_1 = x1 then
    (some (t9_0 == 0)).bind fun t17 =>
    some t17
  else
    some false
set_option maxRecDepth 20000 in
theorem f24_ok {k : Nat} {H : Hp} {x0 : List UInt8} {x1 : Int} {r : Bool} (hp : f24 k x0 x1 = some r) :
    SCall Tryd.prog 24 [.string (bs x0), .int .i64 x1] H (Ret fun v H' => Ext H H' ∧ R_4 r H.next H' v) := by
  unfold f24 at hp
  replace hp := topS hp
  refine SCall.g Tryd.func24 rfl rfl rfl rfl rfl (l := [(0, .v (.string (bs x0))), (1, .v (.int .i64 x1))]) (fun _ => rfl) (fun B abB => ?_)
  obtain ⟨⟨t9_0, t9_1⟩, e9, hp⟩ := bindS hp
  refine WJ.cl 207 (R := R_22_24 ⟨t9_0, t9_1⟩) (fun hm h k => R_22_24.mono hm h k) rfl (fun ids H' fr => f12_ok e9) ?_
  rintro v B1 ⟨abB1, ivB1⟩ rfl
  refine ⟨_, rfl, ?_⟩
  refine WJ.ci 210 hp rfl rfl rfl rfl rfl rfl rfl rfl rfl (fun hc14 hp => ?_) (fun hc14 hp => ?_)
  · obtain ⟨t17, e17, hp⟩ := bindS hp
    refine WJ.cv 202 (b := t17) (H0 := ⟨.nil, 0, 0⟩) rfl rfl rfl rfl rfl rfl (by rw [← endS e17]; exact rfl) rfl ?_
    obtain rfl := endS (show some _ = some r from hp)
    exact WJ.rt 203 rfl rfl rfl (fun ids H' fr => ⟨fr.ext0, rfl⟩)
  · obtain rfl := endS (show some _ = some r from hp)
    exact WJ.rt 206 rfl rfl rfl (fun ids H' fr => ⟨fr.ext0, rfl⟩)
/-! 5 tipstaff/tipstafflaw02.MaskKnown -/
def f5 (k : Nat) : Option Bool :=
  (f16 0 60 64 true).bind fun (t27_0, t27_1) =>
  (f18 5).bind fun (t31_0, t31_1) =>
  (f18 64).bind fun (t35_0, t35_1) =>
  (f18 65).bind fun (t39_0, t39_1) =>
  (f20 9 0).bind fun (t43_0, t43_1) =>
  (f20 9 3).bind fun (t47_0, t47_1) =>
  (f21 9 3).bind fun (t51_0, t51_1) =>
  (f21 9 0).bind fun (t55_0, t55_1) =>
  (f22 9 1).bind fun (t59_0, t59_1) =>
  (f22 9 2).bind fun (t63_0, t63_1) =>
  (f22 0 2).bind fun (t67_0, t67_1) =>
  (if t27_1 = 2 then
    if t31_1 = 0 then
      if t31_0 = 31 then
        if t35_1 = 0 then
          if t35_0 = 18446744073709551615 then
            (some (t39_1 == 2)).bind fun t90 =>
            some (t90)
          else
            some (false)
        else
          some (false)
      else
        some (false)
    else
      some (false)
  else
    some (false)).bind fun x23_25 =>
    ((f23 t43_0 t43_1 3).bind fun t94 =>
    if t94 then
      if t47_1 = 6 then
        (f23 t51_0 t51_1 0).bind fun t102 =>
        if t102 then
          if t55_1 = 6 then
            (f23 t59_0 t59_1 0).bind fun t111 =>
            if t111 then
              (f23 t63_0 t63_1 3).bind fun t116 =>
              if t116 then
                (some (t67_1 == 6)).bind fun t120 =>
                some (t120)
              else
                some (false)
            else
              some (false)
          else
            some (false)
        else
          some (false)
      else
        some (false)
    else
      some (false)).bind fun x24_26 =>
      ((f14 k 0).bind fun t122 =>
      if t122 = ([110, 111, 110, 101]) then
        (f14 k 9223372036854775808).bind fun t125 =>
        if t125 = ([54, 51]) then
          (f24 k ([48, 45, 51, 44, 52]) 8).bind fun t129 =>
          if t129 then
            (f24 k ([51, 45, 48]) 8).bind fun t132 =>
            if t132 then
              (f24 k ([55, 44, 48, 45, 51]) 8).bind fun t135 =>
              if t135 then
                (f24 k ([54, 52]) 2).bind fun t138 =>
                if t138 then
                  (f24 k ([48, 55]) 3).bind fun t141 =>
                  if t141 then
                    (f24 k ([] : List UInt8) 3).bind fun t144 =>
                    some (t144)
                  else
                    some (false)
                else
                  some (false)
              else
                some (false)
            else
              some (false)
          else
            some (false)
        else
          some (false)
      else
        some (false)).bind fun x25_27 =>
        (f11 k).bind fun t146 =>
        if t146 then
          if x23_25 then
            if x24_26 then
              some x25_27
            else
              some false
          else
            some false
        else
          some false
set_option maxRecDepth 20000 in
theorem f5_ok {k : Nat} {H : Hp} {r : Bool} (hp : f5 k = some r) :
    SCall Tryd.prog 5 [] H (Ret fun v H' => Ext H H' ∧ R_4 r H.next H' v) := by
  unfold f5 at hp
  replace hp := topS hp
  refine SCall.g Tryd.func5 rfl rfl rfl rfl rfl (l := []) (fun _ => rfl) (fun B abB => ?_)
  obtain ⟨⟨t27_0, t27_1⟩, e27, hp⟩ := bindS hp
  refine WJ.cl 206 (R := R_22_24 ⟨t27_0, t27_1⟩) (fun hm h k => R_22_24.mono hm h k) rfl (fun ids H' fr => f16_ok e27) ?_
  rintro v B1 ⟨abB1, ivB1⟩ rfl
  refine ⟨_, rfl, ?_⟩
  obtain ⟨⟨t31_0, t31_1⟩, e31, hp⟩ := bindS hp
  refine WJ.cl 208 (R := R_22_24 ⟨t31_0, t31_1⟩) (fun hm h k => R_22_24.mono hm h k) rfl (fun ids H' fr => f18_ok e31) ?_
  rintro v B2 ⟨abB2, ivB2⟩ rfl
  refine ⟨_, rfl, ?_⟩
  obtain ⟨⟨t35_0, t35_1⟩, e35, hp⟩ := bindS hp
  refine WJ.cl 208 (R := R_22_24 ⟨t35_0, t35_1⟩) (fun hm h k => R_22_24.mono hm h k) rfl (fun ids H' fr => f18_ok e35) ?_
  rintro v B3 ⟨abB3, ivB3⟩ rfl
  refine ⟨_, rfl, ?_⟩
  obtain ⟨⟨t39_0, t39_1⟩, e39, hp⟩ := bindS hp
  refine WJ.cl 208 (R := R_22_24 ⟨t39_0, t39_1⟩) (fun hm h k => R_22_24.mono hm h k) rfl (fun ids H' fr => f18_ok e39) ?_
  rintro v B4 ⟨abB4, ivB4⟩ rfl
  refine ⟨_, rfl, ?_⟩
  obtain ⟨⟨t43_0, t43_1⟩, e43, hp⟩ := bindS hp
  refine WJ.cl 208 (R := R_3_24 ⟨t43_0, t43_1⟩) (fun hm h k => R_3_24.mono hm h k) rfl (fun ids H' fr => f20_ok e43) ?_
  rintro v B5 ⟨abB5, ivB5⟩ rfl
  refine ⟨_, rfl, ?_⟩
  obtain ⟨⟨t47_0, t47_1⟩, e47, hp⟩ := bindS hp
  refine WJ.cl 208 (R := R_3_24 ⟨t47_0, t47_1⟩) (fun hm h k => R_3_24.mono hm h k) rfl (fun ids H' fr => f20_ok e47) ?_
  rintro v B6 ⟨abB6, ivB6⟩ rfl
  refine ⟨_, rfl, ?_⟩
  obtain ⟨⟨t51_0, t51_1⟩, e51, hp⟩ := bindS hp
  refine WJ.cl 208 (R := R_3_24 ⟨t51_0, t51_1⟩) (fun hm h k => R_3_24.mono hm h k) rfl (fun ids H' fr => f21_ok e51) ?_
  rintro v B7 ⟨abB7, ivB7⟩ rfl
  refine ⟨_, rfl, ?_⟩
  obtain ⟨⟨t55_0, t55_1⟩, e55, hp⟩ := bindS hp
  refine WJ.cl 208 (R := R_3_24 ⟨t55_0, t55_1⟩) (fun hm h k => R_3_24.mono hm h k) rfl (fun ids H' fr => f21_ok e55) ?_
  rintro v B8 ⟨abB8, ivB8⟩ rfl
  refine ⟨_, rfl, ?_⟩
  obtain ⟨⟨t59_0, t59_1⟩, e59, hp⟩ := bindS hp
  refine WJ.cl 208 (R := R_3_24 ⟨t59_0, t59_1⟩) (fun hm h k => R_3_24.mono hm h k) rfl (fun ids H' fr => f22_ok e59) ?_
  rintro v B9 ⟨abB9, ivB9⟩ rfl
  refine ⟨_, rfl, ?_⟩
  obtain ⟨⟨t63_0, t63_1⟩, e63, hp⟩ := bindS hp
  refine WJ.cl 208 (R := R_3_24 ⟨t63_0, t63_1⟩) (fun hm h k => R_3_24.mono hm h k) rfl (fun ids H' fr => f22_ok e63) ?_
  rintro v B10 ⟨abB10, ivB10⟩ rfl
  refine ⟨_, rfl, ?_⟩
  obtain ⟨⟨t67_0, t67_1⟩, e67, hp⟩ := bindS hp
  refine WJ.cl 208 (R := R_3_24 ⟨t67_0, t67_1⟩) (fun hm h k => R_3_24.mono hm h k) rfl (fun ids H' fr => f22_ok e67) ?_
  rintro v B11 ⟨abB11, ivB11⟩ rfl
  refine ⟨_, rfl, ?_⟩
  refine WJ.adv 7 rfl ?_
  obtain ⟨K25, hK25, hp⟩ : ∃ K, K = _ ∧ Option.bind _ K = some r := ⟨_, rfl, cutS hp⟩
  refine WJ.cut 1 (α := Bool) (fun y => [(9, .v (.int .i64 t43_0)), (10, .v (.int .i64 t43_1)), (12, .v (.int .i64 t47_1)), (13, .v (.int .i64 t51_0)), (14, .v (.int .i64 t51_1)), (16, .v (.int .i64 t55_1)), (17, .v (.int .i64 t59_0)), (18, .v (.int .i64 t59_1)), (19, .v (.int .i64 t63_0)), (20, .v (.int .i64 t63_1)), (22, .v (.int .i64 t67_1)), (23, .v (.bool y))]) (fun y => []) (fun y => []) (fun y => B11) (fun y => K25 ((y)) = some r) ?_ (fun j25 => ?_)
  · rintro x23_25 hp
    subst hK25
    show WJ _ _ _ B11 [] _ _ ⟨[(9, .v (.int .i64 t43_0)), (10, .v (.int .i64 t43_1)), (12, .v (.int .i64 t47_1)), (13, .v (.int .i64 t51_0)), (14, .v (.int .i64 t51_1)), (16, .v (.int .i64 t55_1)), (17, .v (.int .i64 t59_0)), (18, .v (.int .i64 t59_1)), (19, .v (.int .i64 t63_0)), (20, .v (.int .i64 t63_1)), (22, .v (.int .i64 t67_1)), (23, .v (.bool x23_25))], [], true, 0⟩
    refine WJ.adv 1 rfl ?_
    obtain ⟨K26, hK26, hp⟩ : ∃ K, K = _ ∧ Option.bind _ K = some r := ⟨_, rfl, cutS hp⟩
    refine WJ.cut 1 (α := Bool × Hp) (fun y => [(23, .v (.bool x23_25)), (24, .v (.bool y.1))]) (fun y => []) (fun y => []) (fun y => y.2) (fun y => K26 ((y.1)) = some r) ?_ (fun j26 => ?_)
    · rintro ⟨x24_26, B16⟩ hp
      subst hK26
      show WJ _ _ _ B16 [] _ _ ⟨[(23, .v (.bool x23_25)), (24, .v (.bool x24_26))], [], true, 0⟩
      refine WJ.adv 1 rfl ?_
      obtain ⟨K27, hK27, hp⟩ : ∃ K, K = _ ∧ Option.bind _ K = some r := ⟨_, rfl, cutS hp⟩
      refine WJ.cut 1 (α := Bool × Hp) (fun y => [(23, .v (.bool x23_25)), (24, .v (.bool x24_26)), (25, .v (.bool y.1))]) (fun y => []) (fun y => []) (fun y => y.2) (fun y => K27 ((y.1)) = some r) ?_ (fun j27 => ?_)
      · rintro ⟨x25_27, B25⟩ hp
        subst hK27
        show WJ _ _ _ B25 [] _ _ ⟨[(23, .v (.bool x23_25)), (24, .v (.bool x24_26)), (25, .v (.bool x25_27))], [], true, 0⟩
        obtain ⟨t146, e146, hp⟩ := bindS hp
        refine WJ.cl 202 (R := R_4 t146) (fun hm h k => R_4.mono hm h k) rfl (fun ids H' fr => f11_ok e146) ?_
        rintro v B26 ⟨abB26, ivB26⟩ rfl
        refine ⟨_, rfl, ?_⟩
        cases t146
        · replace hp := (itS hp).2 Bool.false_ne_true
          obtain rfl := endS (show some _ = some r from hp)
          exact WJ.rt 211 rfl rfl rfl (fun ids H' fr => ⟨fr.ext0, rfl⟩)
        · replace hp := (itS hp).1 rfl
          cases x23_25
          · replace hp := (itS hp).2 Bool.false_ne_true
            obtain rfl := endS (show some _ = some r from hp)
            exact WJ.rt 211 rfl rfl rfl (fun ids H' fr => ⟨fr.ext0, rfl⟩)
          · replace hp := (itS hp).1 rfl
            cases x24_26
            · replace hp := (itS hp).2 Bool.false_ne_true
              obtain rfl := endS (show some _ = some r from hp)
              exact WJ.rt 211 rfl rfl rfl (fun ids H' fr => ⟨fr.ext0, rfl⟩)
            · replace hp := (itS hp).1 rfl
              obtain rfl := endS (show some _ = some r from hp)
              exact WJ.rt 211 rfl rfl rfl (fun ids H' fr => ⟨fr.ext0, rfl⟩)
      · obtain ⟨t122, e122, hp⟩ := bindS hp
        refine WJ.cl 201 (R := R_9 t122) (fun hm h k => R_9.mono hm h k) rfl (fun ids H' fr => f14_ok e122) ?_
        rintro v B17 ⟨abB17, ivB17⟩ rfl
        refine ⟨_, rfl, ?_⟩
        refine WJ.ci 200 hp rfl rfl rfl rfl rfl rfl (opD_streq rfl rfl rfl) rfl rfl (fun hc123 hp => ?_) (fun hc123 hp => ?_)
        · obtain ⟨t125, e125, hp⟩ := bindS hp
          refine WJ.cl 201 (R := R_9 t125) (fun hm h k => R_9.mono hm h k) rfl (fun ids H' fr => f14_ok e125) ?_
          rintro v B18 ⟨abB18, ivB18⟩ rfl
          refine ⟨_, rfl, ?_⟩
          refine WJ.ci 200 hp rfl rfl rfl rfl rfl rfl (opD_streq rfl rfl rfl) rfl rfl (fun hc126 hp => ?_) (fun hc126 hp => ?_)
          · obtain ⟨t129, e129, hp⟩ := bindS hp
            refine WJ.cl 202 (R := R_4 t129) (fun hm h k => R_4.mono hm h k) rfl (fun ids H' fr => f24_ok e129) ?_
            rintro v B19 ⟨abB19, ivB19⟩ rfl
            refine ⟨_, rfl, ?_⟩
            cases t129
            · replace hp := (itS hp).2 Bool.false_ne_true
              exact WJ.goto 18 (j27 (false, B19) hp) rfl rfl (by exact ⟨rfl, rfl, rfl, trivial⟩) rfl rfl rfl
            · replace hp := (itS hp).1 rfl
              obtain ⟨t132, e132, hp⟩ := bindS hp
              refine WJ.cl 202 (R := R_4 t132) (fun hm h k => R_4.mono hm h k) rfl (fun ids H' fr => f24_ok e132) ?_
              rintro v B20 ⟨abB20, ivB20⟩ rfl
              refine ⟨_, rfl, ?_⟩
              cases t132
              · replace hp := (itS hp).2 Bool.false_ne_true
                exact WJ.goto 15 (j27 (false, B20) hp) rfl rfl (by exact ⟨rfl, rfl, rfl, trivial⟩) rfl rfl rfl
              · replace hp := (itS hp).1 rfl
                obtain ⟨t135, e135, hp⟩ := bindS hp
                refine WJ.cl 202 (R := R_4 t135) (fun hm h k => R_4.mono hm h k) rfl (fun ids H' fr => f24_ok e135) ?_
                rintro v B21 ⟨abB21, ivB21⟩ rfl
                refine ⟨_, rfl, ?_⟩
                cases t135
                · replace hp := (itS hp).2 Bool.false_ne_true
                  exact WJ.goto 12 (j27 (false, B21) hp) rfl rfl (by exact ⟨rfl, rfl, rfl, trivial⟩) rfl rfl rfl
                · replace hp := (itS hp).1 rfl
                  obtain ⟨t138, e138, hp⟩ := bindS hp
                  refine WJ.cl 202 (R := R_4 t138) (fun hm h k => R_4.mono hm h k) rfl (fun ids H' fr => f24_ok e138) ?_
                  rintro v B22 ⟨abB22, ivB22⟩ rfl
                  refine ⟨_, rfl, ?_⟩
                  cases t138
                  · replace hp := (itS hp).2 Bool.false_ne_true
                    exact WJ.goto 9 (j27 (false, B22) hp) rfl rfl (by exact ⟨rfl, rfl, rfl, trivial⟩) rfl rfl rfl
                  · replace hp := (itS hp).1 rfl
                    obtain ⟨t141, e141, hp⟩ := bindS hp
                    refine WJ.cl 202 (R := R_4 t141) (fun hm h k => R_4.mono hm h k) rfl (fun ids H' fr => f24_ok e141) ?_
                    rintro v B23 ⟨abB23, ivB23⟩ rfl
                    refine ⟨_, rfl, ?_⟩
                    cases t141
                    · replace hp := (itS hp).2 Bool.false_ne_true
                      exact WJ.goto 6 (j27 (false, B23) hp) rfl rfl (by exact ⟨rfl, rfl, rfl, trivial⟩) rfl rfl rfl
                    · replace hp := (itS hp).1 rfl
                      obtain ⟨t144, e144, hp⟩ := bindS hp
                      refine WJ.cl 202 (R := R_4 t144) (fun hm h k => R_4.mono hm h k) rfl (fun ids H' fr => f24_ok e144) ?_
                      rintro v B24 ⟨abB24, ivB24⟩ rfl
                      refine ⟨_, rfl, ?_⟩
                      exact WJ.goto 3 (j27 (t144, B24) hp) rfl rfl (by exact ⟨rfl, rfl, rfl, trivial⟩) rfl rfl rfl
          · exact WJ.goto 21 (j27 (false, B18) hp) rfl rfl (by exact ⟨rfl, rfl, rfl, trivial⟩) rfl rfl rfl
        · exact WJ.goto 24 (j27 (false, B17) hp) rfl rfl (by exact ⟨rfl, rfl, rfl, trivial⟩) rfl rfl rfl
    · obtain ⟨t94, e94, hp⟩ := bindS hp
      refine WJ.cl 203 (R := R_4 t94) (fun hm h k => R_4.mono hm h k) rfl (fun ids H' fr => f23_ok e94) ?_
      rintro v B12 ⟨abB12, ivB12⟩ rfl
      refine ⟨_, rfl, ?_⟩
      cases t94
      · replace hp := (itS hp).2 Bool.false_ne_true
        exact WJ.goto 29 (j26 (false, B12) hp) rfl rfl (by exact ⟨rfl, rfl, trivial⟩) rfl rfl rfl
      · replace hp := (itS hp).1 rfl
        refine WJ.ci 202 hp rfl rfl rfl rfl rfl rfl rfl rfl rfl (fun hc97 hp => ?_) (fun hc97 hp => ?_)
        · obtain ⟨t102, e102, hp⟩ := bindS hp
          refine WJ.cl 204 (R := R_4 t102) (fun hm h k => R_4.mono hm h k) rfl (fun ids H' fr => f23_ok e102) ?_
          rintro v B13 ⟨abB13, ivB13⟩ rfl
          refine ⟨_, rfl, ?_⟩
          cases t102
          · replace hp := (itS hp).2 Bool.false_ne_true
            exact WJ.goto 21 (j26 (false, B13) hp) rfl rfl (by exact ⟨rfl, rfl, trivial⟩) rfl rfl rfl
          · replace hp := (itS hp).1 rfl
            refine WJ.ci 203 hp rfl rfl rfl rfl rfl rfl rfl rfl rfl (fun hc106 hp => ?_) (fun hc106 hp => ?_)
            · obtain ⟨t111, e111, hp⟩ := bindS hp
              refine WJ.cl 204 (R := R_4 t111) (fun hm h k => R_4.mono hm h k) rfl (fun ids H' fr => f23_ok e111) ?_
              rintro v B14 ⟨abB14, ivB14⟩ rfl
              refine ⟨_, rfl, ?_⟩
              cases t111
              · replace hp := (itS hp).2 Bool.false_ne_true
                exact WJ.goto 12 (j26 (false, B14) hp) rfl rfl (by exact ⟨rfl, rfl, trivial⟩) rfl rfl rfl
              · replace hp := (itS hp).1 rfl
                obtain ⟨t116, e116, hp⟩ := bindS hp
                refine WJ.cl 204 (R := R_4 t116) (fun hm h k => R_4.mono hm h k) rfl (fun ids H' fr => f23_ok e116) ?_
                rintro v B15 ⟨abB15, ivB15⟩ rfl
                refine ⟨_, rfl, ?_⟩
                cases t116
                · replace hp := (itS hp).2 Bool.false_ne_true
                  exact WJ.goto 7 (j26 (false, B15) hp) rfl rfl (by exact ⟨rfl, rfl, trivial⟩) rfl rfl rfl
                · replace hp := (itS hp).1 rfl
                  obtain ⟨t120, e120, hp⟩ := bindS hp
                  refine WJ.cv 203 (b := t120) (H0 := ⟨.nil, 0, 0⟩) rfl rfl rfl rfl rfl rfl (by rw [← endS e120]; exact rfl) rfl ?_
                  exact WJ.goto 3 (j26 (t120, B15) hp) rfl rfl (by exact ⟨rfl, rfl, trivial⟩) rfl rfl rfl
            · exact WJ.goto 17 (j26 (false, B13) hp) rfl rfl (by exact ⟨rfl, rfl, trivial⟩) rfl rfl rfl
        · exact WJ.goto 26 (j26 (false, B12) hp) rfl rfl (by exact ⟨rfl, rfl, trivial⟩) rfl rfl rfl
  · refine WJ.ci 202 hp rfl rfl rfl rfl rfl rfl rfl rfl rfl (fun hc71 hp => ?_) (fun hc71 hp => ?_)
    · refine WJ.ci 202 hp rfl rfl rfl rfl rfl rfl rfl rfl rfl (fun hc74 hp => ?_) (fun hc74 hp => ?_)
      · refine WJ.ci 203 hp rfl rfl rfl rfl rfl rfl rfl rfl rfl (fun hc78 hp => ?_) (fun hc78 hp => ?_)
        · refine WJ.ci 203 hp rfl rfl rfl rfl rfl rfl rfl rfl rfl (fun hc82 hp => ?_) (fun hc82 hp => ?_)
          · refine WJ.ci 203 hp rfl rfl rfl rfl rfl rfl rfl rfl rfl (fun hc86 hp => ?_) (fun hc86 hp => ?_)
            · obtain ⟨t90, e90, hp⟩ := bindS hp
              refine WJ.cv 203 (b := t90) (H0 := ⟨.nil, 0, 0⟩) rfl rfl rfl rfl rfl rfl (by rw [← endS e90]; exact rfl) rfl ?_
              exact WJ.goto 3 (j25 t90 hp) rfl rfl (by exact ⟨rfl, rfl, rfl, rfl, rfl, rfl, rfl, rfl, rfl, rfl, rfl, rfl, trivial⟩) rfl rfl rfl
            · exact WJ.goto 7 (j25 false hp) rfl rfl (by exact ⟨rfl, rfl, rfl, rfl, rfl, rfl, rfl, rfl, rfl, rfl, rfl, rfl, trivial⟩) rfl rfl rfl
          · exact WJ.goto 11 (j25 false hp) rfl rfl (by exact ⟨rfl, rfl, rfl, rfl, rfl, rfl, rfl, rfl, rfl, rfl, rfl, rfl, trivial⟩) rfl rfl rfl
        · exact WJ.goto 15 (j25 false hp) rfl rfl (by exact ⟨rfl, rfl, rfl, rfl, rfl, rfl, rfl, rfl, rfl, rfl, rfl, rfl, trivial⟩) rfl rfl rfl
      · exact WJ.goto 19 (j25 false hp) rfl rfl (by exact ⟨rfl, rfl, rfl, rfl, rfl, rfl, rfl, rfl, rfl, rfl, rfl, rfl, trivial⟩) rfl rfl rfl
    · exact WJ.goto 22 (j25 false hp) rfl rfl (by exact ⟨rfl, rfl, rfl, rfl, rfl, rfl, rfl, rfl, rfl, rfl, rfl, rfl, trivial⟩) rfl rfl rfl
/-! 25 tipstaff/tipstaffkit.Mod -/
def f25 (x0 : Int) (x1 : Int) : Option Int :=
  if x1 < 1 then
    some 0
  else
    if x1 ≠ 0 then
      (if (x0.tmod x1) < 0 then
        some ((IntKind.i64.wrap ((x0.tmod x1) + x1)))
      else
        some ((x0.tmod x1))).bind fun x0_28 =>
        some x0_28
    else none
set_option maxRecDepth 20000 in
theorem f25_ok {H : Hp} {x0 : Int} {x1 : Int} {r : Int} (hp : f25 x0 x1 = some r) :
    SCall Tryd.prog 25 [.int .i64 x0, .int .i64 x1] H (Ret fun v H' => Ext H H' ∧ R_3 r H.next H' v) := by
  unfold f25 at hp
  replace hp := topS hp
  refine SCall.g Tryd.func25 rfl rfl rfl rfl rfl (l := [(0, .v (.int .i64 x0)), (1, .v (.int .i64 x1))]) (fun _ => rfl) (fun B abB => ?_)
  refine WJ.ci 208 hp rfl rfl rfl rfl rfl rfl rfl rfl rfl (fun hc6 hp => ?_) (fun hc6 hp => ?_)
  · obtain rfl := endS (show some _ = some r from hp)
    exact WJ.rt 206 rfl rfl rfl (fun ids H' fr => ⟨fr.ext0, rfl⟩)
  · obtain ⟨nz9, hp⟩ := ifS hp
    refine WJ.hd (v := .int .i64 (x0.tmod x1)) 207 rfl rfl rfl rfl (fun ids H' fr => opD_bin rfl (evV_eq _ _ _ _ _ rfl) (evV_eq _ _ _ _ _ rfl) (bin_rem nz9)) rfl ?_
    refine WJ.adv 4 rfl ?_
    obtain ⟨K28, hK28, hp⟩ : ∃ K, K = _ ∧ Option.bind _ K = some r := ⟨_, rfl, cutS hp⟩
    refine WJ.cut 2 (α := Int) (fun y => [(0, .v (.int .i64 y))]) (fun y => []) (fun y => []) (fun y => B) (fun y => K28 ((y)) = some r) ?_ (fun j28 => ?_)
    · rintro x0_28 hp
      subst hK28
      show WJ _ _ _ B [] _ _ ⟨[(0, .v (.int .i64 x0_28))], [], true, 0⟩
      obtain rfl := endS (show some _ = some r from hp)
      exact WJ.rt 205 rfl rfl rfl (fun ids H' fr => ⟨fr.ext0, rfl⟩)
    · refine WJ.ci 202 hp rfl rfl rfl rfl rfl rfl rfl rfl rfl (fun hc11 hp => ?_) (fun hc11 hp => ?_)
      · exact WJ.goto 8 (j28 (IntKind.i64.wrap ((x0.tmod x1) + x1)) hp) rfl rfl (by exact ⟨rfl, trivial⟩) rfl rfl rfl
      · exact WJ.goto 3 (j28 (x0.tmod x1) hp) rfl rfl (by exact ⟨rfl, trivial⟩) rfl rfl rfl
/-! 6 tipstaff/tipstafflaw02.MaskPut -/
def f6_l1 (x0 : Int) (x3 : Bool) (t21 : Int) (t23 : Int) (t35_0 : Int) (t42_0 : Int) : Nat → Int → Int → Option ((Bool) ⊕ (Int))
  | 0, _, _ => none
  | n + 1, x16, x17 =>
    if x17 < 64 then
      (if x17 ≥ (gmin t21 t23) then
        (some (decide (x17 ≤ (gmax t21 t23)))).bind fun t61 =>
        some (t61)
      else
        some (false)).bind fun x18_30 =>
        ((f26 t35_0 x17).bind fun t65 =>
        if x18_30 then
          if x3 then
            (some (!(t65 == true))).bind fun t79 =>
            if t79 then
              some (Sum.inr (false : Bool))
            else
              (f26 t42_0 x17).bind fun t83 =>
              (some (!(t83 == false))).bind fun t91 =>
              if t91 then
                some (Sum.inr (false : Bool))
              else
                some (Sum.inl ())
          else
            (some (!(t65 == false))).bind fun t79 =>
            if t79 then
              some (Sum.inr (false : Bool))
            else
              (f26 t42_0 x17).bind fun t83 =>
              (some (!(t83 == false))).bind fun t91 =>
              if t91 then
                some (Sum.inr (false : Bool))
              else
                some (Sum.inl ())
        else
          (f26 x0 x17).bind fun t76 =>
          (some (!(t65 == t76))).bind fun t79 =>
          if t79 then
            some (Sum.inr (false : Bool))
          else
            (f26 t42_0 x17).bind fun t83 =>
            (f26 x0 x17).bind fun t89 =>
            (some (!(t83 == t89))).bind fun t91 =>
            if t91 then
              some (Sum.inr (false : Bool))
            else
              some (Sum.inl ())).bind fun s => match s with
          | .inl _ => 
            (f26 t35_0 x17).bind fun t95 =>
            (if t95 then
              some ((IntKind.i64.wrap (x16 + 1)))
            else
              some (x16)).bind fun x16_32 =>
              f6_l1 x0 x3 t21 t23 t35_0 t42_0 n x16_32 (IntKind.i64.wrap (x17 + 1))
          | .inr st => some (Sum.inl st)
    else
      some (Sum.inr x16)

def f6 (k : Nat) (x0 : Int) (x1 : Int) (x2 : Int) (x3 : Bool) : Option Bool :=
  (f5 k).bind fun t19 =>
  (f25 x1 64).bind fun t21 =>
  (f25 x2 64).bind fun t23 =>
  (f16 x0 (gmin t21 t23) (gmax t21 t23) x3).bind fun (t35_0, t35_1) =>
  (f16 t35_0 (gmin t21 t23) (gmax t21 t23) false).bind fun (t42_0, t42_1) =>
  if t35_1 = 0 then
    if t42_1 = 0 then
      (f6_l1 x0 x3 t21 t23 t35_0 t42_0 k 0 0).bind fun s => match s with
        | .inl st => some st
        | .inr x16_29 => 
          if t19 then
            (f27 t35_0).bind fun t102 =>
            (some (x16_29 == t102)).bind fun t103 =>
            some t103
          else
            some false
    else
      some false
  else
    some false
set_option maxRecDepth 20000 in
theorem f6_ok {k : Nat} {H : Hp} {x0 : Int} {x1 : Int} {x2 : Int} {x3 : Bool} {r : Bool} (hp : f6 k x0 x1 x2 x3 = some r) :
    SCall Tryd.prog 6 [.int .u64 x0, .int .i64 x1, .int .i64 x2, .bool x3] H (Ret fun v H' => Ext H H' ∧ R_4 r H.next H' v) := by
  unfold f6 at hp
  replace hp := topS hp
  refine SCall.g Tryd.func6 rfl rfl rfl rfl rfl (l := [(0, .v (.int .u64 x0)), (1, .v (.int .i64 x1)), (2, .v (.int .i64 x2)), (3, .v (.bool x3))]) (fun _ => rfl) (fun B abB => ?_)
  obtain ⟨t19, e19, hp⟩ := bindS hp
  refine WJ.cl 206 (R := R_4 t19) (fun hm h k => R_4.mono hm h k) rfl (fun ids H' fr => f5_ok e19) ?_
  rintro v B1 ⟨abB1, ivB1⟩ rfl
  refine ⟨_, rfl, ?_⟩
  obtain ⟨t21, e21, hp⟩ := bindS hp
  refine WJ.cl 205 (R := R_3 t21) (fun hm h k => R_3.mono hm h k) rfl (fun ids H' fr => f25_ok e21) ?_
  rintro v B2 ⟨abB2, ivB2⟩ rfl
  refine ⟨_, rfl, ?_⟩
  obtain ⟨t23, e23, hp⟩ := bindS hp
  refine WJ.cl 201 (R := R_3 t23) (fun hm h k => R_3.mono hm h k) rfl (fun ids H' fr => f25_ok e23) ?_
  rintro v B3 ⟨abB3, ivB3⟩ rfl
  refine ⟨_, rfl, ?_⟩
  refine WJ.hd (v := .int .i64 (gmin t21 t23)) 207 rfl rfl rfl rfl (fun ids H' fr => opD_min rfl rfl rfl (evV_eq (v := .v (.int .i64 t21)) _ _ _ _ _ rfl) (evV_eq (v := .v (.int .i64 t23)) _ _ _ _ _ rfl)) rfl ?_
  refine WJ.hd (v := .int .i64 (gmax t21 t23)) 202 rfl rfl rfl rfl (fun ids H' fr => opD_max rfl rfl rfl (evV_eq (v := .v (.int .i64 t21)) _ _ _ _ _ rfl) (evV_eq (v := .v (.int .i64 t23)) _ _ _ _ _ rfl)) rfl ?_
  obtain ⟨⟨t35_0, t35_1⟩, e35, hp⟩ := bindS hp
  refine WJ.cl 209 (R := R_22_24 ⟨t35_0, t35_1⟩) (fun hm h k => R_22_24.mono hm h k) rfl (fun ids H' fr => f16_ok e35) ?_
  rintro v B4 ⟨abB4, ivB4⟩ rfl
  refine ⟨_, rfl, ?_⟩
  obtain ⟨⟨t42_0, t42_1⟩, e42, hp⟩ := bindS hp
  refine WJ.cl 211 (R := R_22_24 ⟨t42_0, t42_1⟩) (fun hm h k => R_22_24.mono hm h k) rfl (fun ids H' fr => f16_ok e42) ?_
  rintro v B5 ⟨abB5, ivB5⟩ rfl
  refine ⟨_, rfl, ?_⟩
  refine WJ.cn 210 hp rfl rfl rfl rfl rfl rfl rfl rfl rfl (fun hc46 hp => ?_) (fun hc46 hp => ?_)
  · obtain rfl := endS (show some _ = some r from hp)
    exact WJ.rt 210 rfl rfl rfl (fun ids H' fr => ⟨fr.ext0, rfl⟩)
  · refine WJ.cn 202 hp rfl rfl rfl rfl rfl rfl rfl rfl rfl (fun hc49 hp => ?_) (fun hc49 hp => ?_)
    · obtain rfl := endS (show some _ = some r from hp)
      exact WJ.rt 207 rfl rfl rfl (fun ids H' fr => ⟨fr.ext0, rfl⟩)
    · refine WJ.adv 14 rfl ?_
      obtain ⟨K29, hK29, hp⟩ : ∃ K, K = _ ∧ Option.bind _ K = some r := ⟨_, rfl, cutS hp⟩
      refine WJ.cut 2 (α := Int × Hp) (fun y => [(9, .v (.bool t19)), (12, .v (.int .u64 t35_0)), (16, .v (.int .i64 y.1))]) (fun y => []) (fun y => []) (fun y => y.2) (fun y => K29 (Sum.inr y.1) = some r) ?_ (fun j29 => ?_)
      · rintro ⟨x16_29, B15⟩ hp
        subst hK29
        show WJ _ _ _ B15 [] _ _ ⟨[(9, .v (.bool t19)), (12, .v (.int .u64 t35_0)), (16, .v (.int .i64 x16_29))], [], true, 0⟩
        cases t19
        · replace hp := (itS hp).2 Bool.false_ne_true
          obtain rfl := endS (show some _ = some r from hp)
          exact WJ.rt 211 rfl rfl rfl (fun ids H' fr => ⟨fr.ext0, rfl⟩)
        · replace hp := (itS hp).1 rfl
          obtain ⟨t102, e102, hp⟩ := bindS hp
          refine WJ.cl 206 (R := R_3 t102) (fun hm h k => R_3.mono hm h k) rfl (fun ids H' fr => f27_ok e102) ?_
          rintro v B16 ⟨abB16, ivB16⟩ rfl
          refine ⟨_, rfl, ?_⟩
          obtain ⟨t103, e103, hp⟩ := bindS hp
          refine WJ.cv 200 (b := t103) (H0 := ⟨.nil, 0, 0⟩) rfl rfl rfl rfl rfl rfl (by rw [← endS e103]; exact rfl) rfl ?_
          obtain rfl := endS (show some _ = some r from hp)
          exact WJ.rt 203 rfl rfl rfl (fun ids H' fr => ⟨fr.ext0, rfl⟩)
      · refine WJ.lp 200 (α := Nat × Int × Int × Hp) (fun y => [(0, .v (.int .u64 x0)), (3, .v (.bool x3)), (9, .v (.bool t19)), (10, .v (.int .i64 (gmin t21 t23))), (11, .v (.int .i64 (gmax t21 t23))), (12, .v (.int .u64 t35_0)), (14, .v (.int .u64 t42_0)), (16, .v (.int .i64 y.2.1)), (17, .v (.int .i64 y.2.2.1))]) (fun y => []) (fun y => []) (fun y => y.2.2.2) (fun y => y.1) (fun y => Option.bind (f6_l1 x0 x3 t21 t23 t35_0 t42_0 y.1 y.2.1 y.2.2.1) K29 = some r) (k, 0, 0, B5) rfl hp (by exact ⟨rfl, rfl, rfl, rfl, rfl, rfl, rfl, rfl, rfl, trivial⟩) rfl rfl rfl ?_
        rintro ⟨n, x16, x17, B6⟩ hp ih29
        show WJ _ _ _ B6 [] _ _ ⟨[(0, .v (.int .u64 x0)), (3, .v (.bool x3)), (9, .v (.bool t19)), (10, .v (.int .i64 (gmin t21 t23))), (11, .v (.int .i64 (gmax t21 t23))), (12, .v (.int .u64 t35_0)), (14, .v (.int .u64 t42_0)), (16, .v (.int .i64 x16)), (17, .v (.int .i64 x17))], [], true, 0⟩
        replace hp : Option.bind (f6_l1 x0 x3 t21 t23 t35_0 t42_0 n x16 x17) K29 = some r := hp
        cases n with
        | zero => rw [f6_l1] at hp; exact (noS hp).elim
        | succ n =>
          rw [f6_l1] at hp
          refine WJ.ci 204 hp rfl rfl rfl rfl rfl rfl rfl rfl rfl (fun hc52 hp => ?_) (fun hc52 hp => ?_)
          · refine WJ.adv 6 rfl ?_
            obtain ⟨K30, hK30, hp⟩ : ∃ K, K = _ ∧ Option.bind _ K = some r := ⟨_, rfl, cutS hp⟩
            refine WJ.cut 1 (α := Bool) (fun y => [(0, .v (.int .u64 x0)), (3, .v (.bool x3)), (9, .v (.bool t19)), (10, .v (.int .i64 (gmin t21 t23))), (11, .v (.int .i64 (gmax t21 t23))), (12, .v (.int .u64 t35_0)), (14, .v (.int .u64 t42_0)), (16, .v (.int .i64 x16)), (17, .v (.int .i64 x17)), (18, .v (.bool y))]) (fun y => []) (fun y => []) (fun y => B6) (fun y => K30 ((y)) = some r) ?_ (fun j30 => ?_)
            · rintro x18_30 hp
              subst hK30
              show WJ _ _ _ B6 [] _ _ ⟨[(0, .v (.int .u64 x0)), (3, .v (.bool x3)), (9, .v (.bool t19)), (10, .v (.int .i64 (gmin t21 t23))), (11, .v (.int .i64 (gmax t21 t23))), (12, .v (.int .u64 t35_0)), (14, .v (.int .u64 t42_0)), (16, .v (.int .i64 x16)), (17, .v (.int .i64 x17)), (18, .v (.bool x18_30))], [], true, 0⟩
              refine WJ.adv 2 rfl ?_
              obtain ⟨K31, hK31, hp⟩ : ∃ K, K = _ ∧ Option.bind _ K = some r := ⟨_, rfl, cutS hp⟩
              refine WJ.cut 2 (α := Hp) (fun y => [(0, .v (.int .u64 x0)), (3, .v (.bool x3)), (9, .v (.bool t19)), (10, .v (.int .i64 (gmin t21 t23))), (11, .v (.int .i64 (gmax t21 t23))), (12, .v (.int .u64 t35_0)), (14, .v (.int .u64 t42_0)), (16, .v (.int .i64 x16)), (17, .v (.int .i64 x17))]) (fun y => []) (fun y => []) (fun y => y) (fun y => K31 ((Sum.inl ())) = some r) ?_ (fun j31 => ?_)
              · rintro B13 hp
                subst hK31
                show WJ _ _ _ B13 [] _ _ ⟨[(0, .v (.int .u64 x0)), (3, .v (.bool x3)), (9, .v (.bool t19)), (10, .v (.int .i64 (gmin t21 t23))), (11, .v (.int .i64 (gmax t21 t23))), (12, .v (.int .u64 t35_0)), (14, .v (.int .u64 t42_0)), (16, .v (.int .i64 x16)), (17, .v (.int .i64 x17))], [], true, 0⟩
                obtain ⟨t95, e95, hp⟩ := bindS hp
                refine WJ.cl 204 (R := R_4 t95) (fun hm h k => R_4.mono hm h k) rfl (fun ids H' fr => f26_ok e95) ?_
                rintro v B14 ⟨abB14, ivB14⟩ rfl
                refine ⟨_, rfl, ?_⟩
                refine WJ.adv 1 rfl ?_
                obtain ⟨K32, hK32, hp⟩ : ∃ K, K = _ ∧ Option.bind _ K = some r := ⟨_, rfl, cutS hp⟩
                refine WJ.cut 2 (α := Int) (fun y => [(0, .v (.int .u64 x0)), (3, .v (.bool x3)), (9, .v (.bool t19)), (10, .v (.int .i64 (gmin t21 t23))), (11, .v (.int .i64 (gmax t21 t23))), (12, .v (.int .u64 t35_0)), (14, .v (.int .u64 t42_0)), (16, .v (.int .i64 y)), (17, .v (.int .i64 x17))]) (fun y => []) (fun y => []) (fun y => B14) (fun y => K32 ((y)) = some r) ?_ (fun j32 => ?_)
                · rintro x16_32 hp
                  subst hK32
                  show WJ _ _ _ B14 [] _ _ ⟨[(0, .v (.int .u64 x0)), (3, .v (.bool x3)), (9, .v (.bool t19)), (10, .v (.int .i64 (gmin t21 t23))), (11, .v (.int .i64 (gmax t21 t23))), (12, .v (.int .u64 t35_0)), (14, .v (.int .u64 t42_0)), (16, .v (.int .i64 x16_32)), (17, .v (.int .i64 x17))], [], true, 0⟩
                  exact WJ.ag 205 rfl (by exact ⟨rfl, rfl, rfl, rfl, rfl, rfl, rfl, rfl, rfl, trivial⟩) rfl rfl rfl (ih29 (n, x16_32, IntKind.i64.wrap (x17 + 1), B14) hp (Nat.lt_succ_self _))
                · cases t95
                  · replace hp := (itS hp).2 Bool.false_ne_true
                    exact WJ.goto 3 (j32 x16 hp) rfl rfl (by exact ⟨rfl, rfl, rfl, rfl, rfl, rfl, rfl, rfl, rfl, trivial⟩) rfl rfl rfl
                  · replace hp := (itS hp).1 rfl
                    exact WJ.goto 7 (j32 (IntKind.i64.wrap (x16 + 1)) hp) rfl rfl (by exact ⟨rfl, rfl, rfl, rfl, rfl, rfl, rfl, rfl, rfl, trivial⟩) rfl rfl rfl
              · obtain ⟨t65, e65, hp⟩ := bindS hp
                refine WJ.cl 203 (R := R_4 t65) (fun hm h k => R_4.mono hm h k) rfl (fun ids H' fr => f26_ok e65) ?_
                rintro v B7 ⟨abB7, ivB7⟩ rfl
                refine ⟨_, rfl, ?_⟩
                cases x18_30
                · replace hp := (itS hp).2 Bool.false_ne_true
                  obtain ⟨t76, e76, hp⟩ := bindS hp
                  refine WJ.cl 210 (R := R_4 t76) (fun hm h k => R_4.mono hm h k) rfl (fun ids H' fr => f26_ok e76) ?_
                  rintro v B8 ⟨abB8, ivB8⟩ rfl
                  refine ⟨_, rfl, ?_⟩
                  obtain ⟨t79, e79, hp⟩ := bindS hp
                  refine WJ.cv 202 (b := t79) (H0 := ⟨.nil, 0, 0⟩) rfl rfl rfl rfl rfl rfl (by rw [← endS e79]; exact rfl) rfl ?_
                  cases t79
                  · replace hp := (itS hp).2 Bool.false_ne_true
                    obtain ⟨t83, e83, hp⟩ := bindS hp
                    refine WJ.cl 203 (R := R_4 t83) (fun hm h k => R_4.mono hm h k) rfl (fun ids H' fr => f26_ok e83) ?_
                    rintro v B9 ⟨abB9, ivB9⟩ rfl
                    refine ⟨_, rfl, ?_⟩
                    obtain ⟨t89, e89, hp⟩ := bindS hp
                    refine WJ.cl 205 (R := R_4 t89) (fun hm h k => R_4.mono hm h k) rfl (fun ids H' fr => f26_ok e89) ?_
                    rintro v B10 ⟨abB10, ivB10⟩ rfl
                    refine ⟨_, rfl, ?_⟩
                    obtain ⟨t91, e91, hp⟩ := bindS hp
                    refine WJ.cv 201 (b := t91) (H0 := ⟨.nil, 0, 0⟩) rfl rfl rfl rfl rfl rfl (by rw [← endS e91]; exact rfl) rfl ?_
                    cases t91
                    · replace hp := (itS hp).2 Bool.false_ne_true
                      exact WJ.goto 4 (j31 B10 hp) rfl rfl (by exact ⟨rfl, rfl, rfl, rfl, rfl, rfl, rfl, rfl, rfl, trivial⟩) rfl rfl rfl
                    · replace hp := (itS hp).1 rfl
                      subst hK31
                      subst hK29
                      obtain rfl := endS (show some _ = some r from hp)
                      exact WJ.rt 207 rfl rfl rfl (fun ids H' fr => ⟨fr.ext0, rfl⟩)
                  · replace hp := (itS hp).1 rfl
                    subst hK31
                    subst hK29
                    obtain rfl := endS (show some _ = some r from hp)
                    exact WJ.rt 219 rfl rfl rfl (fun ids H' fr => ⟨fr.ext0, rfl⟩)
                · replace hp := (itS hp).1 rfl
                  cases x3
                  · replace hp := (itS hp).2 Bool.false_ne_true
                    obtain ⟨t79, e79, hp⟩ := bindS hp
                    refine WJ.cv 213 (b := t79) (H0 := ⟨.nil, 0, 0⟩) rfl rfl rfl rfl rfl rfl (by rw [← endS e79]; exact rfl) rfl ?_
                    cases t79
                    · replace hp := (itS hp).2 Bool.false_ne_true
                      obtain ⟨t83, e83, hp⟩ := bindS hp
                      refine WJ.cl 203 (R := R_4 t83) (fun hm h k => R_4.mono hm h k) rfl (fun ids H' fr => f26_ok e83) ?_
                      rintro v B11 ⟨abB11, ivB11⟩ rfl
                      refine ⟨_, rfl, ?_⟩
                      obtain ⟨t91, e91, hp⟩ := bindS hp
                      refine WJ.cv 207 (b := t91) (H0 := ⟨.nil, 0, 0⟩) rfl rfl rfl rfl rfl rfl (by rw [← endS e91]; exact rfl) rfl ?_
                      cases t91
                      · replace hp := (itS hp).2 Bool.false_ne_true
                        exact WJ.goto 4 (j31 B11 hp) rfl rfl (by exact ⟨rfl, rfl, rfl, rfl, rfl, rfl, rfl, rfl, rfl, trivial⟩) rfl rfl rfl
                      · replace hp := (itS hp).1 rfl
                        subst hK31
                        subst hK29
                        obtain rfl := endS (show some _ = some r from hp)
                        exact WJ.rt 207 rfl rfl rfl (fun ids H' fr => ⟨fr.ext0, rfl⟩)
                    · replace hp := (itS hp).1 rfl
                      subst hK31
                      subst hK29
                      obtain rfl := endS (show some _ = some r from hp)
                      exact WJ.rt 219 rfl rfl rfl (fun ids H' fr => ⟨fr.ext0, rfl⟩)
                  · replace hp := (itS hp).1 rfl
                    obtain ⟨t79, e79, hp⟩ := bindS hp
                    refine WJ.cv 213 (b := t79) (H0 := ⟨.nil, 0, 0⟩) rfl rfl rfl rfl rfl rfl (by rw [← endS e79]; exact rfl) rfl ?_
                    cases t79
                    · replace hp := (itS hp).2 Bool.false_ne_true
                      obtain ⟨t83, e83, hp⟩ := bindS hp
                      refine WJ.cl 203 (R := R_4 t83) (fun hm h k => R_4.mono hm h k) rfl (fun ids H' fr => f26_ok e83) ?_
                      rintro v B12 ⟨abB12, ivB12⟩ rfl
                      refine ⟨_, rfl, ?_⟩
                      obtain ⟨t91, e91, hp⟩ := bindS hp
                      refine WJ.cv 207 (b := t91) (H0 := ⟨.nil, 0, 0⟩) rfl rfl rfl rfl rfl rfl (by rw [← endS e91]; exact rfl) rfl ?_
                      cases t91
                      · replace hp := (itS hp).2 Bool.false_ne_true
                        exact WJ.goto 4 (j31 B12 hp) rfl rfl (by exact ⟨rfl, rfl, rfl, rfl, rfl, rfl, rfl, rfl, rfl, trivial⟩) rfl rfl rfl
                      · replace hp := (itS hp).1 rfl
                        subst hK31
                        subst hK29
                        obtain rfl := endS (show some _ = some r from hp)
                        exact WJ.rt 207 rfl rfl rfl (fun ids H' fr => ⟨fr.ext0, rfl⟩)
                    · replace hp := (itS hp).1 rfl
                      subst hK31
                      subst hK29
                      obtain rfl := endS (show some _ = some r from hp)
                      exact WJ.rt 219 rfl rfl rfl (fun ids H' fr => ⟨fr.ext0, rfl⟩)
            · refine WJ.ci 203 hp rfl rfl rfl rfl rfl rfl rfl rfl rfl (fun hc57 hp => ?_) (fun hc57 hp => ?_)
              · obtain ⟨t61, e61, hp⟩ := bindS hp
                refine WJ.cv 203 (b := t61) (H0 := ⟨.nil, 0, 0⟩) rfl rfl rfl rfl rfl rfl (by rw [← endS e61]; exact rfl) rfl ?_
                exact WJ.goto 3 (j30 t61 hp) rfl rfl (by exact ⟨rfl, rfl, rfl, rfl, rfl, rfl, rfl, rfl, rfl, rfl, trivial⟩) rfl rfl rfl
              · exact WJ.goto 7 (j30 false hp) rfl rfl (by exact ⟨rfl, rfl, rfl, rfl, rfl, rfl, rfl, rfl, rfl, rfl, trivial⟩) rfl rfl rfl
          · exact WJ.goto 3 (j29 (x16, B6) hp) rfl rfl (by exact ⟨rfl, rfl, rfl, trivial⟩) rfl rfl rfl
/-! 7 tipstaff/tipstafflaw02.MaskNear -/
def f7_l1 (x0 : Int) (t13 : Int) (t17_0 : Int) : Nat → Int → Option ((Bool) ⊕ (Unit))
  | 0, _ => none
  | n + 1, x9 =>
    if x9 < 64 then
      ((f26 x0 x9).bind fun t65 =>
      if t65 then
        if (IntKind.i64.wrap ((gmax x9 t13) - (gmin x9 t13))) < (IntKind.i64.wrap ((gmax t17_0 t13) - (gmin t17_0 t13))) then
          some (Sum.inr (false : Bool))
        else
          if (IntKind.i64.wrap ((gmax x9 t13) - (gmin x9 t13))) = (IntKind.i64.wrap ((gmax t17_0 t13) - (gmin t17_0 t13))) then
            if x9 < t17_0 then
              some (Sum.inr (false : Bool))
            else
              some (Sum.inl ())
          else
            some (Sum.inl ())
      else
        some (Sum.inl ())).bind fun s => match s with
        | .inl _ => 
          f7_l1 x0 t13 t17_0 n (IntKind.i64.wrap (x9 + 1))
        | .inr st => some (Sum.inl st)
    else
      some (Sum.inr ())

def f7 (k : Nat) (x0 : Int) (x1 : Int) : Option Bool :=
  (f5 k).bind fun t11 =>
  (f25 x1 64).bind fun t13 =>
  (f22 x0 t13).bind fun (t17_0, t17_1) =>
  if x0 = 0 then
    if t11 then
      (some (t17_1 == 6)).bind fun t25 =>
      some t25
    else
      some false
  else
    (if t17_1 = 0 then
      (f26 x0 t17_0).bind fun t32 =>
      if t32 then
        (f26 x0 t13).bind fun t38 =>
        if t38 then
          if t17_0 = t13 then
            some (Sum.inr ())
          else
            some (Sum.inl (false : Bool))
        else
          some (Sum.inr ())
      else
        some (Sum.inl (false : Bool))
    else
      some (Sum.inl (false : Bool))).bind fun s => match s with
      | .inl st => some st
      | .inr _ => 
        (f7_l1 x0 t13 t17_0 k 0).bind fun s => match s with
          | .inl st => some st
          | .inr _ => 
            some t11
set_option maxRecDepth 20000 in
theorem f7_ok {k : Nat} {H : Hp} {x0 : Int} {x1 : Int} {r : Bool} (hp : f7 k x0 x1 = some r) :
    SCall Tryd.prog 7 [.int .u64 x0, .int .i64 x1] H (Ret fun v H' => Ext H H' ∧ R_4 r H.next H' v) := by
  unfold f7 at hp
  replace hp := topS hp
  refine SCall.g Tryd.func7 rfl rfl rfl rfl rfl (l := [(0, .v (.int .u64 x0)), (1, .v (.int .i64 x1))]) (fun _ => rfl) (fun B abB => ?_)
  obtain ⟨t11, e11, hp⟩ := bindS hp
  refine WJ.cl 206 (R := R_4 t11) (fun hm h k => R_4.mono hm h k) rfl (fun ids H' fr => f5_ok e11) ?_
  rintro v B1 ⟨abB1, ivB1⟩ rfl
  refine ⟨_, rfl, ?_⟩
  obtain ⟨t13, e13, hp⟩ := bindS hp
  refine WJ.cl 205 (R := R_3 t13) (fun hm h k => R_3.mono hm h k) rfl (fun ids H' fr => f25_ok e13) ?_
  rintro v B2 ⟨abB2, ivB2⟩ rfl
  refine ⟨_, rfl, ?_⟩
  obtain ⟨⟨t17_0, t17_1⟩, e17, hp⟩ := bindS hp
  refine WJ.cl 206 (R := R_3_24 ⟨t17_0, t17_1⟩) (fun hm h k => R_3_24.mono hm h k) rfl (fun ids H' fr => f22_ok e17) ?_
  rintro v B3 ⟨abB3, ivB3⟩ rfl
  refine ⟨_, rfl, ?_⟩
  refine WJ.ci 210 hp rfl rfl rfl rfl rfl rfl rfl rfl rfl (fun hc21 hp => ?_) (fun hc21 hp => ?_)
  · cases t11
    · replace hp := (itS hp).2 Bool.false_ne_true
      obtain rfl := endS (show some _ = some r from hp)
      exact WJ.rt 211 rfl rfl rfl (fun ids H' fr => ⟨fr.ext0, rfl⟩)
    · replace hp := (itS hp).1 rfl
      obtain ⟨t25, e25, hp⟩ := bindS hp
      refine WJ.cv 207 (b := t25) (H0 := ⟨.nil, 0, 0⟩) rfl rfl rfl rfl rfl rfl (by rw [← endS e25]; exact rfl) rfl ?_
      obtain rfl := endS (show some _ = some r from hp)
      exact WJ.rt 203 rfl rfl rfl (fun ids H' fr => ⟨fr.ext0, rfl⟩)
  · refine WJ.adv 5 rfl ?_
    obtain ⟨K33, hK33, hp⟩ : ∃ K, K = _ ∧ Option.bind _ K = some r := ⟨_, rfl, cutS hp⟩
    refine WJ.cut 2 (α := Hp) (fun y => [(0, .v (.int .u64 x0)), (1, .v (.int .i64 t13)), (5, .v (.bool t11)), (6, .v (.int .i64 t17_0))]) (fun y => []) (fun y => []) (fun y => y) (fun y => K33 ((Sum.inr ())) = some r) ?_ (fun j33 => ?_)
    · rintro B6 hp
      subst hK33
      show WJ _ _ _ B6 [] _ _ ⟨[(0, .v (.int .u64 x0)), (1, .v (.int .i64 t13)), (5, .v (.bool t11)), (6, .v (.int .i64 t17_0))], [], true, 0⟩
      refine WJ.hd (v := .int .i64 (gmax t17_0 t13)) 204 rfl rfl rfl rfl (fun ids H' fr => opD_max rfl rfl rfl (evV_eq (v := .v (.int .i64 t17_0)) _ _ _ _ _ rfl) (evV_eq (v := .v (.int .i64 t13)) _ _ _ _ _ rfl)) rfl ?_
      refine WJ.hd (v := .int .i64 (gmin t17_0 t13)) 202 rfl rfl rfl rfl (fun ids H' fr => opD_min rfl rfl rfl (evV_eq (v := .v (.int .i64 t17_0)) _ _ _ _ _ rfl) (evV_eq (v := .v (.int .i64 t13)) _ _ _ _ _ rfl)) rfl ?_
      refine WJ.adv 9 rfl ?_
      obtain ⟨K34, hK34, hp⟩ : ∃ K, K = _ ∧ Option.bind _ K = some r := ⟨_, rfl, cutS hp⟩
      refine WJ.cut 2 (α := Hp) (fun y => [(5, .v (.bool t11))]) (fun y => []) (fun y => []) (fun y => y) (fun y => K34 (Sum.inr ()) = some r) ?_ (fun j34 => ?_)
      · rintro B10 hp
        subst hK34
        show WJ _ _ _ B10 [] _ _ ⟨[(5, .v (.bool t11))], [], true, 0⟩
        obtain rfl := endS (show some _ = some r from hp)
        exact WJ.rt 205 rfl rfl rfl (fun ids H' fr => ⟨fr.ext0, rfl⟩)
      · refine WJ.lp 200 (α := Nat × Int × Hp) (fun y => [(0, .v (.int .u64 x0)), (1, .v (.int .i64 t13)), (5, .v (.bool t11)), (6, .v (.int .i64 t17_0)), (8, .v (.int .i64 (IntKind.i64.wrap ((gmax t17_0 t13) - (gmin t17_0 t13))))), (9, .v (.int .i64 y.2.1))]) (fun y => []) (fun y => []) (fun y => y.2.2) (fun y => y.1) (fun y => Option.bind (f7_l1 x0 t13 t17_0 y.1 y.2.1) K34 = some r) (k, 0, B6) rfl hp (by exact ⟨rfl, rfl, rfl, rfl, rfl, rfl, trivial⟩) rfl rfl rfl ?_
        rintro ⟨n, x9, B7⟩ hp ih34
        show WJ _ _ _ B7 [] _ _ ⟨[(0, .v (.int .u64 x0)), (1, .v (.int .i64 t13)), (5, .v (.bool t11)), (6, .v (.int .i64 t17_0)), (8, .v (.int .i64 (IntKind.i64.wrap ((gmax t17_0 t13) - (gmin t17_0 t13))))), (9, .v (.int .i64 x9))], [], true, 0⟩
        replace hp : Option.bind (f7_l1 x0 t13 t17_0 n x9) K34 = some r := hp
        cases n with
        | zero => rw [f7_l1] at hp; exact (noS hp).elim
        | succ n =>
          rw [f7_l1] at hp
          refine WJ.ci 204 hp rfl rfl rfl rfl rfl rfl rfl rfl rfl (fun hc53 hp => ?_) (fun hc53 hp => ?_)
          · refine WJ.hd (v := .int .i64 (gmax x9 t13)) 209 rfl rfl rfl rfl (fun ids H' fr => opD_max rfl rfl rfl (evV_eq (v := .v (.int .i64 x9)) _ _ _ _ _ rfl) (evV_eq (v := .v (.int .i64 t13)) _ _ _ _ _ rfl)) rfl ?_
            refine WJ.hd (v := .int .i64 (gmin x9 t13)) 202 rfl rfl rfl rfl (fun ids H' fr => opD_min rfl rfl rfl (evV_eq (v := .v (.int .i64 x9)) _ _ _ _ _ rfl) (evV_eq (v := .v (.int .i64 t13)) _ _ _ _ _ rfl)) rfl ?_
            refine WJ.adv 4 rfl ?_
            obtain ⟨K35, hK35, hp⟩ : ∃ K, K = _ ∧ Option.bind _ K = some r := ⟨_, rfl, cutS hp⟩
            refine WJ.cut 3 (α := Hp) (fun y => [(0, .v (.int .u64 x0)), (1, .v (.int .i64 t13)), (5, .v (.bool t11)), (6, .v (.int .i64 t17_0)), (8, .v (.int .i64 (IntKind.i64.wrap ((gmax t17_0 t13) - (gmin t17_0 t13))))), (9, .v (.int .i64 x9))]) (fun y => []) (fun y => []) (fun y => y) (fun y => K35 ((Sum.inl ())) = some r) ?_ (fun j35 => ?_)
            · rintro B9 hp
              subst hK35
              show WJ _ _ _ B9 [] _ _ ⟨[(0, .v (.int .u64 x0)), (1, .v (.int .i64 t13)), (5, .v (.bool t11)), (6, .v (.int .i64 t17_0)), (8, .v (.int .i64 (IntKind.i64.wrap ((gmax t17_0 t13) - (gmin t17_0 t13))))), (9, .v (.int .i64 x9))], [], true, 0⟩
              exact WJ.ag 205 rfl (by exact ⟨rfl, rfl, rfl, rfl, rfl, rfl, trivial⟩) rfl rfl rfl (ih34 (n, IntKind.i64.wrap (x9 + 1), B9) hp (Nat.lt_succ_self _))
            · obtain ⟨t65, e65, hp⟩ := bindS hp
              refine WJ.cl 203 (R := R_4 t65) (fun hm h k => R_4.mono hm h k) rfl (fun ids H' fr => f26_ok e65) ?_
              rintro v B8 ⟨abB8, ivB8⟩ rfl
              refine ⟨_, rfl, ?_⟩
              cases t65
              · replace hp := (itS hp).2 Bool.false_ne_true
                exact WJ.goto 19 (j35 B8 hp) rfl rfl (by exact ⟨rfl, rfl, rfl, rfl, rfl, rfl, trivial⟩) rfl rfl rfl
              · replace hp := (itS hp).1 rfl
                refine WJ.ci 203 hp rfl rfl rfl rfl rfl rfl rfl rfl rfl (fun hc69 hp => ?_) (fun hc69 hp => ?_)
                · subst hK35
                  subst hK34
                  obtain rfl := endS (show some _ = some r from hp)
                  exact WJ.rt 217 rfl rfl rfl (fun ids H' fr => ⟨fr.ext0, rfl⟩)
                · refine WJ.ci 203 hp rfl rfl rfl rfl rfl rfl rfl rfl rfl (fun hc73 hp => ?_) (fun hc73 hp => ?_)
                  · refine WJ.ci 203 hp rfl rfl rfl rfl rfl rfl rfl rfl rfl (fun hc77 hp => ?_) (fun hc77 hp => ?_)
                    · subst hK35
                      subst hK34
                      obtain rfl := endS (show some _ = some r from hp)
                      exact WJ.rt 209 rfl rfl rfl (fun ids H' fr => ⟨fr.ext0, rfl⟩)
                    · exact WJ.goto 7 (j35 B8 hp) rfl rfl (by exact ⟨rfl, rfl, rfl, rfl, rfl, rfl, trivial⟩) rfl rfl rfl
                  · exact WJ.goto 11 (j35 B8 hp) rfl rfl (by exact ⟨rfl, rfl, rfl, rfl, rfl, rfl, trivial⟩) rfl rfl rfl
          · exact WJ.goto 3 (j34 B7 hp) rfl rfl (by exact ⟨rfl, trivial⟩) rfl rfl rfl
    · refine WJ.cn 202 hp rfl rfl rfl rfl rfl rfl rfl rfl rfl (fun hc28 hp => ?_) (fun hc28 hp => ?_)
      · subst hK33
        obtain rfl := endS (show some _ = some r from hp)
        exact WJ.rt 222 rfl rfl rfl (fun ids H' fr => ⟨fr.ext0, rfl⟩)
      · obtain ⟨t32, e32, hp⟩ := bindS hp
        refine WJ.cl 203 (R := R_4 t32) (fun hm h k => R_4.mono hm h k) rfl (fun ids H' fr => f26_ok e32) ?_
        rintro v B4 ⟨abB4, ivB4⟩ rfl
        refine ⟨_, rfl, ?_⟩
        cases t32
        · replace hp := (itS hp).2 Bool.false_ne_true
          subst hK33
          obtain rfl := endS (show some _ = some r from hp)
          exact WJ.rt 218 rfl rfl rfl (fun ids H' fr => ⟨fr.ext0, rfl⟩)
        · replace hp := (itS hp).1 rfl
          obtain ⟨t38, e38, hp⟩ := bindS hp
          refine WJ.cl 205 (R := R_4 t38) (fun hm h k => R_4.mono hm h k) rfl (fun ids H' fr => f26_ok e38) ?_
          rintro v B5 ⟨abB5, ivB5⟩ rfl
          refine ⟨_, rfl, ?_⟩
          cases t38
          · replace hp := (itS hp).2 Bool.false_ne_true
            exact WJ.goto 9 (j33 B5 hp) rfl rfl (by exact ⟨rfl, rfl, rfl, rfl, trivial⟩) rfl rfl rfl
          · replace hp := (itS hp).1 rfl
            refine WJ.cn 203 hp rfl rfl rfl rfl rfl rfl rfl rfl rfl (fun hc42 hp => ?_) (fun hc42 hp => ?_)
            · subst hK33
              obtain rfl := endS (show some _ = some r from hp)
              exact WJ.rt 208 rfl rfl rfl (fun ids H' fr => ⟨fr.ext0, rfl⟩)
            · exact WJ.goto 5 (j33 B5 hp) rfl rfl (by exact ⟨rfl, rfl, rfl, rfl, trivial⟩) rfl rfl rfl
/-! 8 tipstaff/tipstafflaw02.MaskBack -/
def f8 (k : Nat) (x0 : Int) (x1 : List UInt8) : Option Bool :=
  (f5 k).bind fun t10 =>
  (f14 k x0).bind fun t13 =>
  (f12 k t13).bind fun (t14_0, t14_1) =>
  if t14_1 = 0 then
    if t14_0 = x0 then
      if (x1.length : Int) > 200 then
        some t10
      else
        (f12 k x1).bind fun (t30_0, t30_1) =>
        if t10 then
          if t30_1 = 0 then
            (f14 k t30_0).bind fun t39 =>
            (some (decide (t39 = x1))).bind fun t41 =>
            some t41
          else
            some true
        else
          some false
    else
      some false
  else
    some false
set_option maxRecDepth 20000 in
theorem f8_ok {k : Nat} {H : Hp} {x0 : Int} {x1 : List UInt8} {r : Bool} (hp : f8 k x0 x1 = some r) :
    SCall Tryd.prog 8 [.int .u64 x0, .string (bs x1)] H (Ret fun v H' => Ext H H' ∧ R_4 r H.next H' v) := by
  unfold f8 at hp
  replace hp := topS hp
  refine SCall.g Tryd.func8 rfl rfl rfl rfl rfl (l := [(0, .v (.int .u64 x0)), (1, .v (.string (bs x1)))]) (fun _ => rfl) (fun B abB => ?_)
  obtain ⟨t10, e10, hp⟩ := bindS hp
  refine WJ.cl 206 (R := R_4 t10) (fun hm h k => R_4.mono hm h k) rfl (fun ids H' fr => f5_ok e10) ?_
  rintro v B1 ⟨abB1, ivB1⟩ rfl
  refine ⟨_, rfl, ?_⟩
  obtain ⟨t13, e13, hp⟩ := bindS hp
  refine WJ.cl 205 (R := R_9 t13) (fun hm h k => R_9.mono hm h k) rfl (fun ids H' fr => f14_ok e13) ?_
  rintro v B2 ⟨abB2, ivB2⟩ rfl
  refine ⟨_, rfl, ?_⟩
  obtain ⟨⟨t14_0, t14_1⟩, e14, hp⟩ := bindS hp
  refine WJ.cl 200 (R := R_22_24 ⟨t14_0, t14_1⟩) (fun hm h k => R_22_24.mono hm h k) rfl (fun ids H' fr => f12_ok e14) ?_
  rintro v B3 ⟨abB3, ivB3⟩ rfl
  refine ⟨_, rfl, ?_⟩
  refine WJ.cn 210 hp rfl rfl rfl rfl rfl rfl rfl rfl rfl (fun hc18 hp => ?_) (fun hc18 hp => ?_)
  · obtain rfl := endS (show some _ = some r from hp)
    exact WJ.rt 211 rfl rfl rfl (fun ids H' fr => ⟨fr.ext0, rfl⟩)
  · refine WJ.cn 203 hp rfl rfl rfl rfl rfl rfl rfl rfl rfl (fun hc22 hp => ?_) (fun hc22 hp => ?_)
    · obtain rfl := endS (show some _ = some r from hp)
      exact WJ.rt 207 rfl rfl rfl (fun ids H' fr => ⟨fr.ext0, rfl⟩)
    · refine WJ.ci 209 hp rfl rfl rfl rfl rfl rfl rfl rfl rfl (fun hc26 hp => ?_) (fun hc26 hp => ?_)
      · obtain rfl := endS (show some _ = some r from hp)
        exact WJ.rt 207 rfl rfl rfl (fun ids H' fr => ⟨fr.ext0, rfl⟩)
      · obtain ⟨⟨t30_0, t30_1⟩, e30, hp⟩ := bindS hp
        refine WJ.cl 206 (R := R_22_24 ⟨t30_0, t30_1⟩) (fun hm h k => R_22_24.mono hm h k) rfl (fun ids H' fr => f12_ok e30) ?_
        rintro v B4 ⟨abB4, ivB4⟩ rfl
        refine ⟨_, rfl, ?_⟩
        cases t10
        · replace hp := (itS hp).2 Bool.false_ne_true
          obtain rfl := endS (show some _ = some r from hp)
          exact WJ.rt 221 rfl rfl rfl (fun ids H' fr => ⟨fr.ext0, rfl⟩)
        · replace hp := (itS hp).1 rfl
          refine WJ.cn 211 hp rfl rfl rfl rfl rfl rfl rfl rfl rfl (fun hc36 hp => ?_) (fun hc36 hp => ?_)
          · obtain rfl := endS (show some _ = some r from hp)
            exact WJ.rt 209 rfl rfl rfl (fun ids H' fr => ⟨fr.ext0, rfl⟩)
          · obtain ⟨t39, e39, hp⟩ := bindS hp
            refine WJ.cl 202 (R := R_9 t39) (fun hm h k => R_9.mono hm h k) rfl (fun ids H' fr => f14_ok e39) ?_
            rintro v B5 ⟨abB5, ivB5⟩ rfl
            refine ⟨_, rfl, ?_⟩
            obtain ⟨t41, e41, hp⟩ := bindS hp
            refine WJ.cv 201 (b := t41) (H0 := ⟨.nil, 0, 0⟩) rfl rfl rfl rfl rfl rfl (by rw [← endS e41]; exact (opD_streq rfl rfl rfl)) rfl ?_
            obtain rfl := endS (show some _ = some r from hp)
            exact WJ.rt 204 rfl rfl rfl (fun ids H' fr => ⟨fr.ext0, rfl⟩)
end
end Go.Proofs.YtcephcgnfmcdhaaDoor
