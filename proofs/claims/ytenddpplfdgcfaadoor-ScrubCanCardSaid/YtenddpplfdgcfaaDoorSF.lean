import Derived.Test.YtenddpplfdgcfaaDoorSM
set_option linter.unusedVariables false
set_option linter.unusedSimpArgs false
namespace Go.Proofs.YtenddpplfdgcfaaDoor
open Go Go.Det Go.RowKit
noncomputable section
/-! 21 tipstaff/scrub.shown -/
def f21 (x0 : Sight) : Option Bool :=
  if x0.Panel < 0 then
    some false
  else
    if x0.Panel > 20 then
      some false
    else
      if x0.Floor = (-1) then
        if x0.Out then
          some true
        else
          (some (x0.Panel == 0)).bind fun t19 =>
          some t19
      else
        if x0.Floor ≥ 0 then
          if x0.Floor < 64 then
            if x0.Out then
              some false
            else
              some true
          else
            some false
        else
          some false
set_option maxRecDepth 20000 in
theorem f21_ok {H : Hp} {x0 : Sight} {r : Bool} (hp : f21 x0 = some r) :
    SCall Tryd.prog 21 [.agg ⟨[.int .i64 x0.Floor, .int .i64 x0.Panel, .bool x0.Out]⟩] H (Ret fun v H' => Ext H H' ∧ R_4 r H.next H' v) := by
  obtain ⟨x0_Floor, x0_Panel, x0_Out⟩ := x0
  unfold f21 at hp
  replace hp := topS hp
  refine SCall.g Tryd.func21 rfl rfl rfl rfl rfl (l := [(0, .v (.agg ⟨[.int .i64 x0_Floor, .int .i64 x0_Panel, .bool x0_Out]⟩))]) (fun _ => rfl) (fun B abB => ?_)
  refine WJ.ci 210 hp rfl rfl rfl rfl rfl rfl rfl rfl rfl (fun hc5 hp => ?_) (fun hc5 hp => ?_)
  · obtain rfl := endS (show some _ = some r from hp)
    exact WJ.rt 211 rfl rfl rfl (fun ids H' fr => ⟨fr.ext0, rfl⟩)
  · refine WJ.ci 203 hp rfl rfl rfl rfl rfl rfl rfl rfl rfl (fun hc9 hp => ?_) (fun hc9 hp => ?_)
    · obtain rfl := endS (show some _ = some r from hp)
      exact WJ.rt 207 rfl rfl rfl (fun ids H' fr => ⟨fr.ext0, rfl⟩)
    · refine WJ.ci 209 hp rfl rfl rfl rfl rfl rfl rfl rfl rfl (fun hc13 hp => ?_) (fun hc13 hp => ?_)
      · cases x0_Out
        · replace hp := (itS hp).2 Bool.false_ne_true
          obtain ⟨t19, e19, hp⟩ := bindS hp
          refine WJ.cv 209 (b := t19) (H0 := ⟨.nil, 0, 0⟩) rfl rfl rfl rfl rfl rfl (by rw [← endS e19]; exact rfl) rfl ?_
          obtain rfl := endS (show some _ = some r from hp)
          exact WJ.rt 203 rfl rfl rfl (fun ids H' fr => ⟨fr.ext0, rfl⟩)
        · replace hp := (itS hp).1 rfl
          obtain rfl := endS (show some _ = some r from hp)
          exact WJ.rt 213 rfl rfl rfl (fun ids H' fr => ⟨fr.ext0, rfl⟩)
      · refine WJ.ci 207 hp rfl rfl rfl rfl rfl rfl rfl rfl rfl (fun hc23 hp => ?_) (fun hc23 hp => ?_)
        · refine WJ.ci 203 hp rfl rfl rfl rfl rfl rfl rfl rfl rfl (fun hc27 hp => ?_) (fun hc27 hp => ?_)
          · cases x0_Out
            · replace hp := (itS hp).2 Bool.false_ne_true
              obtain rfl := endS (show some _ = some r from hp)
              exact WJ.rt 208 rfl rfl rfl (fun ids H' fr => ⟨fr.ext0, rfl⟩)
            · replace hp := (itS hp).1 rfl
              obtain rfl := endS (show some _ = some r from hp)
              exact WJ.rt 208 rfl rfl rfl (fun ids H' fr => ⟨fr.ext0, rfl⟩)
          · obtain rfl := endS (show some _ = some r from hp)
            exact WJ.rt 208 rfl rfl rfl (fun ids H' fr => ⟨fr.ext0, rfl⟩)
        · obtain rfl := endS (show some _ = some r from hp)
          exact WJ.rt 212 rfl rfl rfl (fun ids H' fr => ⟨fr.ext0, rfl⟩)
/-! 7 tipstaff/scrub.Text -/
def f7 (x0 : Sight) : Option ((List UInt8) × Int) :=
  (f20 x0.Panel).bind fun t7 =>
  (f21 (Sight.mk x0.Floor x0.Panel x0.Out)).bind fun t10 =>
  if t10 then
    if x0.Out then
      if x0.Panel = 0 then
        some ([111, 117, 116], 0)
      else
        (scat ([111, 117, 116, 58]) t7).bind fun s24 =>
        some (s24, 0)
    else
      if x0.Floor = (-1) then
        some ([45], 0)
      else
        (f20 x0.Floor).bind fun t31 =>
        (scat t31 ([58])).bind fun s32 =>
        (scat s32 t7).bind fun s34 =>
        some (s34, 0)
  else
    some (([] : List UInt8), 2)
set_option maxRecDepth 20000 in
theorem f7_ok {H : Hp} {x0 : Sight} {r : (List UInt8) × Int} (hp : f7 x0 = some r) :
    SCall Tryd.prog 7 [.agg ⟨[.int .i64 x0.Floor, .int .i64 x0.Panel, .bool x0.Out]⟩] H (Ret fun v H' => Ext H H' ∧ R_9_25 r H.next H' v) := by
  obtain ⟨x0_Floor, x0_Panel, x0_Out⟩ := x0
  unfold f7 at hp
  replace hp := topS hp
  refine SCall.g Tryd.func7 rfl rfl rfl rfl rfl (l := [(0, .v (.agg ⟨[.int .i64 x0_Floor, .int .i64 x0_Panel, .bool x0_Out]⟩))]) (fun _ => rfl) (fun B abB => ?_)
  obtain ⟨t7, e7, hp⟩ := bindS hp
  refine WJ.cl 210 (R := R_9 t7) (fun hm h k => R_9.mono hm h k) rfl (fun ids H' fr => f20_ok e7) ?_
  rintro v B1 ⟨abB1, ivB1⟩ rfl
  refine ⟨_, rfl, ?_⟩
  obtain ⟨t10, e10, hp⟩ := bindS hp
  refine WJ.cl 207 (R := R_4 t10) (fun hm h k => R_4.mono hm h k) rfl (fun ids H' fr => f21_ok (x0 := (Sight.mk x0_Floor x0_Panel x0_Out)) e10) ?_
  rintro v B2 ⟨abB2, ivB2⟩ rfl
  refine ⟨_, rfl, ?_⟩
  cases t10
  · replace hp := (itS hp).2 Bool.false_ne_true
    obtain rfl := endS (show some _ = some r from hp)
    exact WJ.rt 209 rfl rfl rfl (fun ids H' fr => ⟨fr.ext0, rfl⟩)
  · replace hp := (itS hp).1 rfl
    cases x0_Out
    · replace hp := (itS hp).2 Bool.false_ne_true
      refine WJ.ci 227 hp rfl rfl rfl rfl rfl rfl rfl rfl rfl (fun hc28 hp => ?_) (fun hc28 hp => ?_)
      · obtain rfl := endS (show some _ = some r from hp)
        exact WJ.rt 208 rfl rfl rfl (fun ids H' fr => ⟨fr.ext0, rfl⟩)
      · obtain ⟨t31, e31, hp⟩ := bindS hp
        refine WJ.cl 209 (R := R_9 t31) (fun hm h k => R_9.mono hm h k) rfl (fun ids H' fr => f20_ok e31) ?_
        rintro v B3 ⟨abB3, ivB3⟩ rfl
        refine ⟨_, rfl, ?_⟩
        obtain ⟨s32, e32, hp⟩ := bindS hp
        refine WJ.hd (v := .string (bs s32)) 200 rfl rfl rfl rfl (fun ids H' fr => opD_bin rfl (evV_eq _ _ _ _ _ rfl) (evV_eq _ _ _ _ _ rfl) (bin_sadd e32)) rfl ?_
        obtain ⟨s34, e34, hp⟩ := bindS hp
        refine WJ.hd (v := .string (bs s34)) 201 rfl rfl rfl rfl (fun ids H' fr => opD_bin rfl (evV_eq _ _ _ _ _ rfl) (evV_eq _ _ _ _ _ rfl) (bin_sadd e34)) rfl ?_
        obtain rfl := endS (show some _ = some r from hp)
        exact WJ.rt 203 rfl rfl rfl (fun ids H' fr => ⟨fr.ext0, rfl⟩)
    · replace hp := (itS hp).1 rfl
      refine WJ.ci 211 hp rfl rfl rfl rfl rfl rfl rfl rfl rfl (fun hc18 hp => ?_) (fun hc18 hp => ?_)
      · obtain rfl := endS (show some _ = some r from hp)
        exact WJ.rt 209 rfl rfl rfl (fun ids H' fr => ⟨fr.ext0, rfl⟩)
      · obtain ⟨s24, e24, hp⟩ := bindS hp
        refine WJ.hd (v := .string (bs s24)) 214 rfl rfl rfl rfl (fun ids H' fr => opD_bin rfl (evV_eq _ _ _ _ _ rfl) (evV_eq _ _ _ _ _ rfl) (bin_sadd e24)) rfl ?_
        obtain rfl := endS (show some _ = some r from hp)
        exact WJ.rt 203 rfl rfl rfl (fun ids H' fr => ⟨fr.ext0, rfl⟩)
/-! 22 tipstaff/tipstaffref32.can -/
def f22 (x0 : Sight) : Option Bool :=
  if x0.Panel < 0 then
    some false
  else
    if x0.Panel > 20 then
      some false
    else
      if x0.Floor = (-1) then
        if x0.Out then
          some true
        else
          (some (x0.Panel == 0)).bind fun t19 =>
          some t19
      else
        if x0.Floor ≥ 0 then
          if x0.Floor < 64 then
            if x0.Out then
              some false
            else
              some true
          else
            some false
        else
          some false
set_option maxRecDepth 20000 in
theorem f22_ok {H : Hp} {x0 : Sight} {r : Bool} (hp : f22 x0 = some r) :
    SCall Tryd.prog 22 [.agg ⟨[.int .i64 x0.Floor, .int .i64 x0.Panel, .bool x0.Out]⟩] H (Ret fun v H' => Ext H H' ∧ R_4 r H.next H' v) := by
  obtain ⟨x0_Floor, x0_Panel, x0_Out⟩ := x0
  unfold f22 at hp
  replace hp := topS hp
  refine SCall.g Tryd.func22 rfl rfl rfl rfl rfl (l := [(0, .v (.agg ⟨[.int .i64 x0_Floor, .int .i64 x0_Panel, .bool x0_Out]⟩))]) (fun _ => rfl) (fun B abB => ?_)
  refine WJ.ci 210 hp rfl rfl rfl rfl rfl rfl rfl rfl rfl (fun hc5 hp => ?_) (fun hc5 hp => ?_)
  · obtain rfl := endS (show some _ = some r from hp)
    exact WJ.rt 211 rfl rfl rfl (fun ids H' fr => ⟨fr.ext0, rfl⟩)
  · refine WJ.ci 203 hp rfl rfl rfl rfl rfl rfl rfl rfl rfl (fun hc9 hp => ?_) (fun hc9 hp => ?_)
    · obtain rfl := endS (show some _ = some r from hp)
      exact WJ.rt 207 rfl rfl rfl (fun ids H' fr => ⟨fr.ext0, rfl⟩)
    · refine WJ.ci 209 hp rfl rfl rfl rfl rfl rfl rfl rfl rfl (fun hc13 hp => ?_) (fun hc13 hp => ?_)
      · cases x0_Out
        · replace hp := (itS hp).2 Bool.false_ne_true
          obtain ⟨t19, e19, hp⟩ := bindS hp
          refine WJ.cv 209 (b := t19) (H0 := ⟨.nil, 0, 0⟩) rfl rfl rfl rfl rfl rfl (by rw [← endS e19]; exact rfl) rfl ?_
          obtain rfl := endS (show some _ = some r from hp)
          exact WJ.rt 203 rfl rfl rfl (fun ids H' fr => ⟨fr.ext0, rfl⟩)
        · replace hp := (itS hp).1 rfl
          obtain rfl := endS (show some _ = some r from hp)
          exact WJ.rt 213 rfl rfl rfl (fun ids H' fr => ⟨fr.ext0, rfl⟩)
      · refine WJ.ci 207 hp rfl rfl rfl rfl rfl rfl rfl rfl rfl (fun hc23 hp => ?_) (fun hc23 hp => ?_)
        · refine WJ.ci 203 hp rfl rfl rfl rfl rfl rfl rfl rfl rfl (fun hc27 hp => ?_) (fun hc27 hp => ?_)
          · cases x0_Out
            · replace hp := (itS hp).2 Bool.false_ne_true
              obtain rfl := endS (show some _ = some r from hp)
              exact WJ.rt 208 rfl rfl rfl (fun ids H' fr => ⟨fr.ext0, rfl⟩)
            · replace hp := (itS hp).1 rfl
              obtain rfl := endS (show some _ = some r from hp)
              exact WJ.rt 208 rfl rfl rfl (fun ids H' fr => ⟨fr.ext0, rfl⟩)
          · obtain rfl := endS (show some _ = some r from hp)
            exact WJ.rt 208 rfl rfl rfl (fun ids H' fr => ⟨fr.ext0, rfl⟩)
        · obtain rfl := endS (show some _ = some r from hp)
          exact WJ.rt 212 rfl rfl rfl (fun ids H' fr => ⟨fr.ext0, rfl⟩)
/-! 30 tipstaff/tipstaffref32.digits -/
def f30 : Nat → Int → Option (List UInt8)
  | 0, _ => none
  | k + 1, x0 =>
    if x0 < 10 then
      (sub ([48, 49, 50, 51, 52, 53, 54, 55, 56, 57]) x0 (IntKind.i64.wrap (x0 + 1))).bind fun s8 =>
      some s8
    else
      (f30 k (IntKind.i64.wrap (x0.tdiv 10))).bind fun t11 =>
      (sub ([48, 49, 50, 51, 52, 53, 54, 55, 56, 57]) (x0.tmod 10) (IntKind.i64.wrap ((x0.tmod 10) + 1))).bind fun s17 =>
      (scat t11 s17).bind fun s18 =>
      some s18
set_option maxRecDepth 20000 in
theorem f30_ok {k : Nat} {H : Hp} {x0 : Int} {r : List UInt8} (hp : f30 k x0 = some r) :
    SCall Tryd.prog 30 [.int .i64 x0] H (Ret fun v H' => Ext H H' ∧ R_9 r H.next H' v) := by
  induction k generalizing H x0 r with
  | zero => rw [f30] at hp; cases hp
  | succ k ih =>
  rw [f30] at hp
  replace hp := topS hp
  refine SCall.g Tryd.func30 rfl rfl rfl rfl rfl (l := [(0, .v (.int .i64 x0))]) (fun _ => rfl) (fun B abB => ?_)
  refine WJ.ci 208 hp rfl rfl rfl rfl rfl rfl rfl rfl rfl (fun hc4 hp => ?_) (fun hc4 hp => ?_)
  · obtain ⟨s8, e8, hp⟩ := bindS hp
    refine WJ.hd (v := .string (bs s8)) 207 rfl rfl rfl rfl (fun ids H' fr => opD_slh rfl (evV_eq _ _ _ _ _ rfl) (evV_eq _ _ _ _ _ rfl) (evV_eq _ _ _ _ _ rfl) (sliceD_lh us9 e8)) rfl ?_
    obtain rfl := endS (show some _ = some r from hp)
    exact WJ.rt 202 rfl rfl rfl (fun ids H' fr => ⟨fr.ext0, rfl⟩)
  · refine WJ.drF 204 rfl gmix (by kernel_rfl) (by kernel_rfl) rfl (fun D1 eD1 abD1 => ?_)
    refine WD.hd (v := .int .i64 (IntKind.i64.wrap (x0.tdiv 10))) rfl rfl rfl rfl (fun ids H' s0 h0 f => side_pure rfl rfl h0 f) (fun ids H' fr => opD_bin rfl (evV_eq _ _ _ _ _ rfl) (evV_eq _ _ _ _ _ rfl) (bin_quo (by decide))) rfl ?_
    obtain ⟨t11, e11, hp⟩ := bindS hp
    refine WD.cl (R := R_9 t11) (fun hm h k => R_9.mono hm h k) rfl (fun ids H' fr => ih e11) ?_
    rintro v B2 ⟨abB2, ivB2⟩ rfl
    refine ⟨_, rfl, ?_⟩
    refine WD.hd (v := .int .i64 (x0.tmod 10)) rfl rfl rfl rfl (fun ids H' s0 h0 f => side_pure rfl rfl h0 f) (fun ids H' fr => opD_bin rfl (evV_eq _ _ _ _ _ rfl) (evV_eq _ _ _ _ _ rfl) (bin_rem (by decide))) rfl ?_
    refine WD.hd (v := .int .i64 (x0.tmod 10)) rfl rfl rfl rfl (fun ids H' s0 h0 f => side_pure rfl rfl h0 f) (fun ids H' fr => opD_bin rfl (evV_eq _ _ _ _ _ rfl) (evV_eq _ _ _ _ _ rfl) (bin_rem (by decide))) rfl ?_
    obtain ⟨s17, e17, hp⟩ := bindS hp
    refine WD.hd (v := .string (bs s17)) rfl rfl rfl rfl (fun ids H' s0 h0 f => side_str rfl rfl rfl h0 f) (fun ids H' fr => opD_slh rfl (evV_eq _ _ _ _ _ rfl) (evV_eq _ _ _ _ _ rfl) (evV_eq _ _ _ _ _ rfl) (sliceD_lh us9 e17)) rfl ?_
    obtain ⟨s18, e18, hp⟩ := bindS hp
    refine WD.hd (v := .string (bs s18)) rfl rfl rfl rfl (fun ids H' s0 h0 f => side_pure rfl rfl h0 f) (fun ids H' fr => opD_bin rfl (evV_eq _ _ _ _ _ rfl) (evV_eq _ _ _ _ _ rfl) (bin_sadd e18)) rfl ?_
    refine WD.done rfl ?_
    obtain rfl := endS (show some _ = some r from hp)
    exact WJ.rt 200 rfl rfl rfl (fun ids H' fr => ⟨fr.ext0, rfl⟩)
/-! 23 tipstaff/tipstaffref32.text -/
def f23 (k : Nat) (x0 : Sight) : Option (List UInt8) :=
  if x0.Floor ≥ 0 then
    (f30 k x0.Floor).bind fun t9 =>
    (scat t9 ([58])).bind fun s10 =>
    (f30 k x0.Panel).bind fun t13 =>
    (scat s10 t13).bind fun s14 =>
    some s14
  else
    if x0.Out then
      if x0.Panel = 0 then
        some ([111, 117, 116])
      else
        (f30 k x0.Panel).bind fun t25 =>
        (scat ([111, 117, 116, 58]) t25).bind fun s26 =>
        some s26
    else
      some ([45])
set_option maxRecDepth 20000 in
theorem f23_ok {k : Nat} {H : Hp} {x0 : Sight} {r : List UInt8} (hp : f23 k x0 = some r) :
    SCall Tryd.prog 23 [.agg ⟨[.int .i64 x0.Floor, .int .i64 x0.Panel, .bool x0.Out]⟩] H (Ret fun v H' => Ext H H' ∧ R_9 r H.next H' v) := by
  obtain ⟨x0_Floor, x0_Panel, x0_Out⟩ := x0
  unfold f23 at hp
  replace hp := topS hp
  refine SCall.g Tryd.func23 rfl rfl rfl rfl rfl (l := [(0, .v (.agg ⟨[.int .i64 x0_Floor, .int .i64 x0_Panel, .bool x0_Out]⟩))]) (fun _ => rfl) (fun B abB => ?_)
  refine WJ.ci 211 hp rfl rfl rfl rfl rfl rfl rfl rfl rfl (fun hc6 hp => ?_) (fun hc6 hp => ?_)
  · refine WJ.drF 204 rfl gmix (by kernel_rfl) (by kernel_rfl) rfl (fun D1 eD1 abD1 => ?_)
    obtain ⟨t9, e9, hp⟩ := bindS hp
    refine WD.cl (R := R_9 t9) (fun hm h k => R_9.mono hm h k) rfl (fun ids H' fr => f30_ok e9) ?_
    rintro v B2 ⟨abB2, ivB2⟩ rfl
    refine ⟨_, rfl, ?_⟩
    obtain ⟨s10, e10, hp⟩ := bindS hp
    refine WD.hd (v := .string (bs s10)) rfl rfl rfl rfl (fun ids H' s0 h0 f => side_pure rfl rfl h0 f) (fun ids H' fr => opD_bin rfl (evV_eq _ _ _ _ _ rfl) (evV_eq _ _ _ _ _ rfl) (bin_sadd e10)) rfl ?_
    obtain ⟨t13, e13, hp⟩ := bindS hp
    refine WD.cl (R := R_9 t13) (fun hm h k => R_9.mono hm h k) rfl (fun ids H' fr => f30_ok e13) ?_
    rintro v B3 ⟨abB3, ivB3⟩ rfl
    refine ⟨_, rfl, ?_⟩
    obtain ⟨s14, e14, hp⟩ := bindS hp
    refine WD.hd (v := .string (bs s14)) rfl rfl rfl rfl (fun ids H' s0 h0 f => side_pure rfl rfl h0 f) (fun ids H' fr => opD_bin rfl (evV_eq _ _ _ _ _ rfl) (evV_eq _ _ _ _ _ rfl) (bin_sadd e14)) rfl ?_
    refine WD.done rfl ?_
    obtain rfl := endS (show some _ = some r from hp)
    exact WJ.rt 200 rfl rfl rfl (fun ids H' fr => ⟨fr.ext0, rfl⟩)
  · cases x0_Out
    · replace hp := (itS hp).2 Bool.false_ne_true
      obtain rfl := endS (show some _ = some r from hp)
      exact WJ.rt 215 rfl rfl rfl (fun ids H' fr => ⟨fr.ext0, rfl⟩)
    · replace hp := (itS hp).1 rfl
      refine WJ.ci 215 hp rfl rfl rfl rfl rfl rfl rfl rfl rfl (fun hc22 hp => ?_) (fun hc22 hp => ?_)
      · obtain rfl := endS (show some _ = some r from hp)
        exact WJ.rt 207 rfl rfl rfl (fun ids H' fr => ⟨fr.ext0, rfl⟩)
      · obtain ⟨t25, e25, hp⟩ := bindS hp
        refine WJ.cl 209 (R := R_9 t25) (fun hm h k => R_9.mono hm h k) rfl (fun ids H' fr => f30_ok e25) ?_
        rintro v B4 ⟨abB4, ivB4⟩ rfl
        refine ⟨_, rfl, ?_⟩
        obtain ⟨s26, e26, hp⟩ := bindS hp
        refine WJ.hd (v := .string (bs s26)) 200 rfl rfl rfl rfl (fun ids H' fr => opD_bin rfl (evV_eq _ _ _ _ _ rfl) (evV_eq _ _ _ _ _ rfl) (bin_sadd e26)) rfl ?_
        obtain rfl := endS (show some _ = some r from hp)
        exact WJ.rt 202 rfl rfl rfl (fun ids H' fr => ⟨fr.ext0, rfl⟩)
/-! 8 tipstaff/tipstaffref32.Text -/
def f8 (k : Nat) (x0 : Sight) : Option ((List UInt8) × Int) :=
  (f22 (Sight.mk x0.Floor x0.Panel x0.Out)).bind fun t5 =>
  if t5 then
    (f23 k (Sight.mk x0.Floor x0.Panel x0.Out)).bind fun t8 =>
    some (t8, 0)
  else
    some (([] : List UInt8), 2)
set_option maxRecDepth 20000 in
theorem f8_ok {k : Nat} {H : Hp} {x0 : Sight} {r : (List UInt8) × Int} (hp : f8 k x0 = some r) :
    SCall Tryd.prog 8 [.agg ⟨[.int .i64 x0.Floor, .int .i64 x0.Panel, .bool x0.Out]⟩] H (Ret fun v H' => Ext H H' ∧ R_9_25 r H.next H' v) := by
  obtain ⟨x0_Floor, x0_Panel, x0_Out⟩ := x0
  unfold f8 at hp
  replace hp := topS hp
  refine SCall.g Tryd.func8 rfl rfl rfl rfl rfl (l := [(0, .v (.agg ⟨[.int .i64 x0_Floor, .int .i64 x0_Panel, .bool x0_Out]⟩))]) (fun _ => rfl) (fun B abB => ?_)
  obtain ⟨t5, e5, hp⟩ := bindS hp
  refine WJ.cl 210 (R := R_4 t5) (fun hm h k => R_4.mono hm h k) rfl (fun ids H' fr => f22_ok (x0 := (Sight.mk x0_Floor x0_Panel x0_Out)) e5) ?_
  rintro v B1 ⟨abB1, ivB1⟩ rfl
  refine ⟨_, rfl, ?_⟩
  cases t5
  · replace hp := (itS hp).2 Bool.false_ne_true
    obtain rfl := endS (show some _ = some r from hp)
    exact WJ.rt 208 rfl rfl rfl (fun ids H' fr => ⟨fr.ext0, rfl⟩)
  · replace hp := (itS hp).1 rfl
    obtain ⟨t8, e8, hp⟩ := bindS hp
    refine WJ.cl 207 (R := R_9 t8) (fun hm h k => R_9.mono hm h k) rfl (fun ids H' fr => f23_ok (x0 := (Sight.mk x0_Floor x0_Panel x0_Out)) e8) ?_
    rintro v B2 ⟨abB2, ivB2⟩ rfl
    refine ⟨_, rfl, ?_⟩
    obtain rfl := endS (show some _ = some r from hp)
    exact WJ.rt 203 rfl rfl rfl (fun ids H' fr => ⟨fr.ext0, rfl⟩)
/-! 25 tipstaff/scrub.number -/
def f25_l1 (x0 : List UInt8) : Nat → Nat → Option ((Int × Bool) ⊕ (Unit))
  | 0, _ => none
  | n + 1, p0 =>
    if p0 < x0.length then
      if (decL x0 p0) > 57 then
        some (Sum.inl ((0, false) : Int × Bool))
      else
        (f32 (decL x0 p0)).bind fun t17 =>
        if t17 then
          f25_l1 x0 n (p0 + decN x0 p0)
        else
          some (Sum.inl ((0, false) : Int × Bool))
    else
      some (Sum.inr ())

def f25 (k : Nat) (x0 : List UInt8) : Option (Int × Bool) :=
  (f25_l1 x0 k 0).bind fun s => match s with
    | .inl st => some st
    | .inr _ => 
      (f33 x0).bind fun (t22_0, t22_1) =>
      if t22_1 then
        (some (decide ((x0.length : Int) ≤ 2))).bind fun t31 =>
        some (t22_0, t31)
      else
        some (t22_0, false)
set_option maxRecDepth 20000 in
theorem f25_ok {k : Nat} {H : Hp} {x0 : List UInt8} {r : Int × Bool} (hp : f25 k x0 = some r) :
    SCall Tryd.prog 25 [.string (bs x0)] H (Ret fun v H' => Ext H H' ∧ R_3_4 r H.next H' v) := by
  unfold f25 at hp
  replace hp := topS hp
  refine SCall.g Tryd.func25 rfl rfl rfl rfl rfl (l := [(0, .v (.string (bs x0)))]) (fun _ => rfl) (fun B abB => ?_)
  refine WJ.rg 209 rfl rfl rfl rfl rfl us9 rfl ?_
  rintro b9 B1 ⟨abB1, ivB1⟩ h09 it9
  refine ⟨_, rfl, ?_⟩
  refine WJ.adv 2 rfl ?_
  obtain ⟨K1, hK1, hp⟩ : ∃ K, K = _ ∧ Option.bind _ K = some r := ⟨_, rfl, cutS hp⟩
  refine WJ.cut 2 (α := Hp) (fun y => [(0, .v (.string (bs x0)))]) (fun y => []) (fun y => []) (fun y => y) (fun y => K1 (Sum.inr ()) = some r) ?_ (fun j1 => ?_)
  · rintro B5 hp
    subst hK1
    show WJ _ _ _ B5 [] _ _ ⟨[(0, .v (.string (bs x0)))], [], true, 0⟩
    obtain ⟨⟨t22_0, t22_1⟩, e22, hp⟩ := bindS hp
    refine WJ.cl 203 (R := R_3_60 ⟨t22_0, t22_1⟩) (fun hm h k => R_3_60.mono hm h k) rfl (fun ids H' fr => f33_ok e22) ?_
    rintro v B6 ⟨abB6, ivB6⟩ ⟨y22, rfl, hy22⟩
    refine ⟨_, rfl, ?_⟩
    cases t22_1
    · replace hp := (itS hp).2 Bool.false_ne_true
      obtain ⟨ty22, z22, rfl⟩ : ∃ t z, y22 = .iface t z := hy22
      refine WJ.cv 210 (b := false) (H0 := ⟨.nil, 0, 0⟩) rfl rfl rfl rfl rfl rfl (opD_ifE rfl rfl rfl ui60) rfl ?_
      obtain rfl := endS (show some _ = some r from hp)
      exact WJ.rt 208 rfl rfl rfl (fun ids H' fr => ⟨fr.ext0, rfl⟩)
    · replace hp := (itS hp).1 rfl
      obtain rfl : y22 = .nilIface := hy22
      refine WJ.cv 210 (b := true) (H0 := ⟨.nil, 0, 0⟩) rfl rfl rfl rfl rfl rfl (opD_nnE rfl rfl rfl ui60) rfl ?_
      obtain ⟨t31, e31, hp⟩ := bindS hp
      refine WJ.cv 203 (b := t31) (H0 := ⟨.nil, 0, 0⟩) rfl rfl rfl rfl rfl rfl (by rw [← endS e31]; exact rfl) rfl ?_
      obtain rfl := endS (show some _ = some r from hp)
      exact WJ.rt 204 rfl rfl rfl (fun ids H' fr => ⟨fr.ext0, rfl⟩)
  · refine WJ.lp 200 (α := Nat × Nat × Hp) (fun y => [(0, .v (.string (bs x0))), (9, .v (.pointer (some ⟨b9, 0, none⟩)))]) (fun y => []) (fun y => []) (fun y => y.2.2) (fun y => y.1) (fun y => Option.bind (f25_l1 x0 y.1 y.2.1) K1 = some r ∧ y.2.2.get b9 = some (.iter (bs x0) y.2.1)) (k, 0, B1) rfl ⟨hp, it9⟩ (by exact ⟨rfl, rfl, trivial⟩) rfl rfl rfl ?_
    rintro ⟨n, p0, B2⟩ ⟨hp, it9⟩ ih1
    show WJ _ _ _ B2 [] _ _ ⟨[(0, .v (.string (bs x0))), (9, .v (.pointer (some ⟨b9, 0, none⟩)))], [], true, 0⟩
    replace hp : Option.bind (f25_l1 x0 n p0) K1 = some r := hp
    cases n with
    | zero => rw [f25_l1] at hp; exact (noS hp).elim
    | succ n =>
      rw [f25_l1] at hp
      refine WJ.nx 202 hp rfl rfl rfl rfl rfl rfl it9 h09 rfl rfl (fun hp B3 abB3 neB3 it_new => ?_) (fun hp => ?_)
      · replace it9 := it_new
        refine WJ.ci 214 hp rfl rfl rfl rfl rfl rfl rfl rfl rfl (fun hc14 hp => ?_) (fun hc14 hp => ?_)
        · subst hK1
          obtain rfl := endS (show some _ = some r from hp)
          exact WJ.rt 212 rfl rfl rfl (fun ids H' fr => ⟨fr.ext0, rfl⟩)
        · obtain ⟨t17, e17, hp⟩ := bindS hp
          refine WJ.cl 202 (R := R_4 t17) (fun hm h k => R_4.mono hm h k) rfl (fun ids H' fr => f32_ok e17) ?_
          rintro v B4 ⟨abB4, ivB4⟩ rfl
          refine ⟨_, rfl, ?_⟩
          replace it9 := ivB4 _ _ it9
          cases t17
          · replace hp := (itS hp).2 Bool.false_ne_true
            subst hK1
            obtain rfl := endS (show some _ = some r from hp)
            exact WJ.rt 209 rfl rfl rfl (fun ids H' fr => ⟨fr.ext0, rfl⟩)
          · replace hp := (itS hp).1 rfl
            exact WJ.ag 206 rfl (by exact ⟨rfl, rfl, trivial⟩) rfl rfl rfl (ih1 (n, (p0 + decN x0 p0), B4) ⟨hp, it9⟩ (Nat.lt_succ_self _))
      · exact WJ.goto 5 (j1 B2 hp) rfl rfl (by exact ⟨rfl, trivial⟩) rfl rfl rfl
/-! 9 tipstaff/scrub.Parse -/
def f9 (k : Nat) (x0 : List UInt8) : Option (Sight × Int) :=
  (f24 x0 ([58])).bind fun (t16_0, t16_1, t16_2) =>
  (some (decide (t16_0 = ([111, 117, 116])))).bind fun t21 =>
  (if t16_2 then
    (f25 k t16_1).bind fun (t26_0, t26_1) =>
    some ((t26_0, t26_1))
  else
    some ((0, true))).bind fun (v1_1_3, x8_3) =>
    (f25 k t16_0).bind fun (t32_0, t32_1) =>
    (if t32_1 then
      some (t32_0)
    else
      some ((-1))).bind fun v1_0_5 =>
      (f7 (Sight.mk v1_0_5 v1_1_3 t21)).bind fun (t40_0, t40_1) =>
      if x8_3 then
        if t40_1 = 0 then
          if t40_0 = x0 then
            some ((Sight.mk v1_0_5 v1_1_3 t21), 0)
          else
            some ((Sight.mk 0 0 false), 3)
        else
          some ((Sight.mk 0 0 false), 3)
      else
        some ((Sight.mk 0 0 false), 3)
set_option maxRecDepth 20000 in
theorem f9_ok {k : Nat} {H : Hp} {x0 : List UInt8} {r : Sight × Int} (hp : f9 k x0 = some r) :
    SCall Tryd.prog 9 [.string (bs x0)] H (Ret fun v H' => Ext H H' ∧ R_23_25 r H.next H' v) := by
  unfold f9 at hp
  replace hp := topS hp
  refine SCall.g Tryd.func9 rfl rfl rfl rfl rfl (l := [(0, .v (.string (bs x0)))]) (fun _ => rfl) (fun B abB => ?_)
  obtain ⟨⟨t16_0, t16_1, t16_2⟩, e16, hp⟩ := bindS hp
  refine WJ.cl 214 (R := R_9_9_4 ⟨t16_0, t16_1, t16_2⟩) (fun hm h k => R_9_9_4.mono hm h k) rfl (fun ids H' fr => f24_ok e16) ?_
  rintro v B1 ⟨abB1, ivB1⟩ rfl
  refine ⟨_, rfl, ?_⟩
  obtain ⟨t21, e21, hp⟩ := bindS hp
  refine WJ.cv 211 (b := t21) (H0 := ⟨.nil, 0, 0⟩) rfl rfl rfl rfl rfl rfl (by rw [← endS e21]; exact (opD_streq rfl rfl rfl)) rfl ?_
  refine WJ.adv 12 rfl ?_
  obtain ⟨K3, hK3, hp⟩ : ∃ K, K = _ ∧ Option.bind _ K = some r := ⟨_, rfl, cutS hp⟩
  refine WJ.cut 1 (α := Int × Bool × Hp) (fun y => [(0, .v (.string (bs x0))), (2, .p 0 0), (4, .p 1 0), (5, .v (.string (bs t16_0))), (8, .v (.bool y.2.1))]) (fun y => [[.int .i64 0, .int .i64 0, .bool false], [.int .i64 (-1), .int .i64 y.1, .bool t21]]) (fun y => []) (fun y => y.2.2) (fun y => K3 (((y.1, y.2.1))) = some r) ?_ (fun j3 => ?_)
  · rintro ⟨v1_1_3, x8_3, B3⟩ hp
    subst hK3
    show WJ _ _ _ B3 [] _ _ ⟨[(0, .v (.string (bs x0))), (2, .p 0 0), (4, .p 1 0), (5, .v (.string (bs t16_0))), (8, .v (.bool x8_3))], [[.int .i64 0, .int .i64 0, .bool false], [.int .i64 (-1), .int .i64 v1_1_3, .bool t21]], true, 0⟩
    obtain ⟨⟨t32_0, t32_1⟩, e32, hp⟩ := bindS hp
    refine WJ.cl 204 (R := R_3_4 ⟨t32_0, t32_1⟩) (fun hm h k => R_3_4.mono hm h k) rfl (fun ids H' fr => f25_ok e32) ?_
    rintro v B4 ⟨abB4, ivB4⟩ rfl
    refine ⟨_, rfl, ?_⟩
    refine WJ.adv 10 rfl ?_
    obtain ⟨K5, hK5, hp⟩ : ∃ K, K = _ ∧ Option.bind _ K = some r := ⟨_, rfl, cutS hp⟩
    refine WJ.cut 1 (α := Int) (fun y => [(0, .v (.string (bs x0))), (2, .p 0 0), (4, .p 1 0), (8, .v (.bool x8_3))]) (fun y => [[.int .i64 0, .int .i64 0, .bool false], [.int .i64 y, .int .i64 v1_1_3, .bool t21]]) (fun y => []) (fun y => B4) (fun y => K5 ((y)) = some r) ?_ (fun j5 => ?_)
    · rintro v1_0_5 hp
      subst hK5
      show WJ _ _ _ B4 [] _ _ ⟨[(0, .v (.string (bs x0))), (2, .p 0 0), (4, .p 1 0), (8, .v (.bool x8_3))], [[.int .i64 0, .int .i64 0, .bool false], [.int .i64 v1_0_5, .int .i64 v1_1_3, .bool t21]], true, 0⟩
      obtain ⟨⟨t40_0, t40_1⟩, e40, hp⟩ := bindS hp
      refine WJ.cl 203 (R := R_9_25 ⟨t40_0, t40_1⟩) (fun hm h k => R_9_25.mono hm h k) rfl (fun ids H' fr => f7_ok (x0 := (Sight.mk v1_0_5 v1_1_3 t21)) e40) ?_
      rintro v B5 ⟨abB5, ivB5⟩ rfl
      refine ⟨_, rfl, ?_⟩
      cases x8_3
      · replace hp := (itS hp).2 Bool.false_ne_true
        obtain rfl := endS (show some _ = some r from hp)
        exact WJ.rt 228 rfl rfl rfl (fun ids H' fr => ⟨fr.ext0, rfl⟩)
      · replace hp := (itS hp).1 rfl
        refine WJ.cn 213 hp rfl rfl rfl rfl rfl rfl rfl rfl rfl (fun hc47 hp => ?_) (fun hc47 hp => ?_)
        · obtain rfl := endS (show some _ = some r from hp)
          exact WJ.rt 214 rfl rfl rfl (fun ids H' fr => ⟨fr.ext0, rfl⟩)
        · refine WJ.cn 204 hp rfl rfl rfl rfl rfl rfl (opD_strne rfl rfl rfl) rfl rfl (fun hc52 hp => ?_) (fun hc52 hp => ?_)
          · obtain rfl := endS (show some _ = some r from hp)
            exact WJ.rt 209 rfl rfl rfl (fun ids H' fr => ⟨fr.ext0, rfl⟩)
          · obtain rfl := endS (show some _ = some r from hp)
            exact WJ.rt 210 rfl rfl rfl (fun ids H' fr => ⟨fr.ext0, rfl⟩)
    · cases t32_1
      · replace hp := (itS hp).2 Bool.false_ne_true
        exact WJ.goto 2 (j5 (-1) hp) rfl rfl (by exact ⟨rfl, rfl, rfl, rfl, trivial⟩) rfl rfl rfl
      · replace hp := (itS hp).1 rfl
        exact WJ.goto 6 (j5 t32_0 hp) rfl rfl (by exact ⟨rfl, rfl, rfl, rfl, trivial⟩) rfl rfl rfl
  · cases t16_2
    · replace hp := (itS hp).2 Bool.false_ne_true
      exact WJ.goto 2 (j3 (0, true, B1) hp) rfl rfl (by exact ⟨rfl, rfl, rfl, rfl, rfl, trivial⟩) rfl rfl rfl
    · replace hp := (itS hp).1 rfl
      obtain ⟨⟨t26_0, t26_1⟩, e26, hp⟩ := bindS hp
      refine WJ.cl 203 (R := R_3_4 ⟨t26_0, t26_1⟩) (fun hm h k => R_3_4.mono hm h k) rfl (fun ids H' fr => f25_ok e26) ?_
      rintro v B2 ⟨abB2, ivB2⟩ rfl
      refine ⟨_, rfl, ?_⟩
      exact WJ.goto 7 (j3 (t26_0, t26_1, B2) hp) rfl rfl (by exact ⟨rfl, rfl, rfl, rfl, rfl, trivial⟩) rfl rfl rfl
/-! 10 tipstaff/tipstaffref32.Parse -/
def f10_l3 (k : Nat) (x0 : List UInt8) (x4 : Int) (x5 : Int) : Nat → Int → Option ((Sight × Int) ⊕ (Unit))
  | 0, _ => none
  | n + 1, x6 =>
    if x6 < 2 then
      (some (x6 == 1)).bind fun t23 =>
      (f22 (Sight.mk x4 x5 t23)).bind fun t26 =>
      if t26 then
        (f23 k (Sight.mk x4 x5 t23)).bind fun t29 =>
        if t29 = x0 then
          some (Sum.inl (((Sight.mk x4 x5 t23), 0) : Sight × Int))
        else
          f10_l3 k x0 x4 x5 n (IntKind.i64.wrap (x6 + 1))
      else
        f10_l3 k x0 x4 x5 n (IntKind.i64.wrap (x6 + 1))
    else
      some (Sum.inr ())

def f10_l2 (k : Nat) (x0 : List UInt8) (x4 : Int) : Nat → Int → Option ((Sight × Int) ⊕ (Unit))
  | 0, _ => none
  | n + 1, x5 =>
    if x5 ≤ 20 then
      (f10_l3 k x0 x4 x5 k 0).bind fun s => match s with
        | .inl st => some (Sum.inl st)
        | .inr _ => 
          f10_l2 k x0 x4 n (IntKind.i64.wrap (x5 + 1))
    else
      some (Sum.inr ())

def f10_l1 (k : Nat) (x0 : List UInt8) : Nat → Int → Option ((Sight × Int) ⊕ (Unit))
  | 0, _ => none
  | n + 1, x4 =>
    if x4 < 64 then
      (f10_l2 k x0 x4 k 0).bind fun s => match s with
        | .inl st => some (Sum.inl st)
        | .inr _ => 
          f10_l1 k x0 n (IntKind.i64.wrap (x4 + 1))
    else
      some (Sum.inr ())

def f10 (k : Nat) (x0 : List UInt8) : Option (Sight × Int) :=
  (f10_l1 k x0 k (-1)).bind fun s => match s with
    | .inl st => some st
    | .inr _ => 
      some ((Sight.mk 0 0 false), 3)
set_option maxRecDepth 20000 in
theorem f10_ok {k : Nat} {H : Hp} {x0 : List UInt8} {r : Sight × Int} (hp : f10 k x0 = some r) :
    SCall Tryd.prog 10 [.string (bs x0)] H (Ret fun v H' => Ext H H' ∧ R_23_25 r H.next H' v) := by
  unfold f10 at hp
  replace hp := topS hp
  refine SCall.g Tryd.func10 rfl rfl rfl rfl rfl (l := [(0, .v (.string (bs x0)))]) (fun _ => rfl) (fun B abB => ?_)
  refine WJ.adv 11 rfl ?_
  obtain ⟨K6, hK6, hp⟩ : ∃ K, K = _ ∧ Option.bind _ K = some r := ⟨_, rfl, cutS hp⟩
  refine WJ.cut 2 (α := Hp) (fun y => [(2, .p 0 0)]) (fun y => [[.int .i64 0, .int .i64 0, .bool false]]) (fun y => []) (fun y => y) (fun y => K6 (Sum.inr ()) = some r) ?_ (fun j6 => ?_)
  · rintro B8 hp
    subst hK6
    show WJ _ _ _ B8 [] _ _ ⟨[(2, .p 0 0)], [[.int .i64 0, .int .i64 0, .bool false]], true, 0⟩
    obtain rfl := endS (show some _ = some r from hp)
    exact WJ.rt 206 rfl rfl rfl (fun ids H' fr => ⟨fr.ext0, rfl⟩)
  · refine WJ.lp 200 (α := Nat × Int × Hp) (fun y => [(0, .v (.string (bs x0))), (2, .p 0 0), (4, .v (.int .i64 y.2.1))]) (fun y => [[.int .i64 0, .int .i64 0, .bool false]]) (fun y => []) (fun y => y.2.2) (fun y => y.1) (fun y => Option.bind (f10_l1 k x0 y.1 y.2.1) K6 = some r) (k, (-1), B) rfl hp (by exact ⟨rfl, rfl, rfl, trivial⟩) rfl rfl rfl ?_
    rintro ⟨n, x4, B1⟩ hp ih6
    show WJ _ _ _ B1 [] _ _ ⟨[(0, .v (.string (bs x0))), (2, .p 0 0), (4, .v (.int .i64 x4))], [[.int .i64 0, .int .i64 0, .bool false]], true, 0⟩
    replace hp : Option.bind (f10_l1 k x0 n x4) K6 = some r := hp
    cases n with
    | zero => rw [f10_l1] at hp; exact (noS hp).elim
    | succ n =>
      rw [f10_l1] at hp
      refine WJ.ci 204 hp rfl rfl rfl rfl rfl rfl rfl rfl rfl (fun hc9 hp => ?_) (fun hc9 hp => ?_)
      · refine WJ.adv 10 rfl ?_
        obtain ⟨K7, hK7, hp⟩ : ∃ K, K = _ ∧ Option.bind _ K = some r := ⟨_, rfl, cutS hp⟩
        refine WJ.cut 3 (α := Hp) (fun y => [(0, .v (.string (bs x0))), (2, .p 0 0), (4, .v (.int .i64 x4))]) (fun y => [[.int .i64 0, .int .i64 0, .bool false]]) (fun y => []) (fun y => y) (fun y => K7 (Sum.inr ()) = some r) ?_ (fun j7 => ?_)
        · rintro B7 hp
          subst hK7
          show WJ _ _ _ B7 [] _ _ ⟨[(0, .v (.string (bs x0))), (2, .p 0 0), (4, .v (.int .i64 x4))], [[.int .i64 0, .int .i64 0, .bool false]], true, 0⟩
          exact WJ.ag 205 rfl (by exact ⟨rfl, rfl, rfl, trivial⟩) rfl rfl rfl (ih6 (n, IntKind.i64.wrap (x4 + 1), B7) hp (Nat.lt_succ_self _))
        · refine WJ.lp 200 (α := Nat × Int × Hp) (fun y => [(0, .v (.string (bs x0))), (2, .p 0 0), (4, .v (.int .i64 x4)), (5, .v (.int .i64 y.2.1))]) (fun y => [[.int .i64 0, .int .i64 0, .bool false]]) (fun y => []) (fun y => y.2.2) (fun y => y.1) (fun y => Option.bind (f10_l2 k x0 x4 y.1 y.2.1) K7 = some r) (k, 0, B1) rfl hp (by exact ⟨rfl, rfl, rfl, rfl, trivial⟩) rfl rfl rfl ?_
          rintro ⟨n, x5, B2⟩ hp ih7
          show WJ _ _ _ B2 [] _ _ ⟨[(0, .v (.string (bs x0))), (2, .p 0 0), (4, .v (.int .i64 x4)), (5, .v (.int .i64 x5))], [[.int .i64 0, .int .i64 0, .bool false]], true, 0⟩
          replace hp : Option.bind (f10_l2 k x0 x4 n x5) K7 = some r := hp
          cases n with
          | zero => rw [f10_l2] at hp; exact (noS hp).elim
          | succ n =>
            rw [f10_l2] at hp
            refine WJ.ci 204 hp rfl rfl rfl rfl rfl rfl rfl rfl rfl (fun hc13 hp => ?_) (fun hc13 hp => ?_)
            · refine WJ.adv 10 rfl ?_
              obtain ⟨K8, hK8, hp⟩ : ∃ K, K = _ ∧ Option.bind _ K = some r := ⟨_, rfl, cutS hp⟩
              refine WJ.cut 3 (α := Hp) (fun y => [(0, .v (.string (bs x0))), (2, .p 0 0), (4, .v (.int .i64 x4)), (5, .v (.int .i64 x5))]) (fun y => [[.int .i64 0, .int .i64 0, .bool false]]) (fun y => []) (fun y => y) (fun y => K8 (Sum.inr ()) = some r) ?_ (fun j8 => ?_)
              · rintro B6 hp
                subst hK8
                show WJ _ _ _ B6 [] _ _ ⟨[(0, .v (.string (bs x0))), (2, .p 0 0), (4, .v (.int .i64 x4)), (5, .v (.int .i64 x5))], [[.int .i64 0, .int .i64 0, .bool false]], true, 0⟩
                exact WJ.ag 205 rfl (by exact ⟨rfl, rfl, rfl, rfl, trivial⟩) rfl rfl rfl (ih7 (n, IntKind.i64.wrap (x5 + 1), B6) hp (Nat.lt_succ_self _))
              · refine WJ.lp 200 (α := Nat × Int × Hp) (fun y => [(0, .v (.string (bs x0))), (2, .p 0 0), (4, .v (.int .i64 x4)), (5, .v (.int .i64 x5)), (6, .v (.int .i64 y.2.1))]) (fun y => [[.int .i64 0, .int .i64 0, .bool false]]) (fun y => []) (fun y => y.2.2) (fun y => y.1) (fun y => Option.bind (f10_l3 k x0 x4 x5 y.1 y.2.1) K8 = some r) (k, 0, B2) rfl hp (by exact ⟨rfl, rfl, rfl, rfl, rfl, trivial⟩) rfl rfl rfl ?_
                rintro ⟨n, x6, B3⟩ hp ih8
                show WJ _ _ _ B3 [] _ _ ⟨[(0, .v (.string (bs x0))), (2, .p 0 0), (4, .v (.int .i64 x4)), (5, .v (.int .i64 x5)), (6, .v (.int .i64 x6))], [[.int .i64 0, .int .i64 0, .bool false]], true, 0⟩
                replace hp : Option.bind (f10_l3 k x0 x4 x5 n x6) K8 = some r := hp
                cases n with
                | zero => rw [f10_l3] at hp; exact (noS hp).elim
                | succ n =>
                  rw [f10_l3] at hp
                  refine WJ.ci 204 hp rfl rfl rfl rfl rfl rfl rfl rfl rfl (fun hc17 hp => ?_) (fun hc17 hp => ?_)
                  · obtain ⟨t23, e23, hp⟩ := bindS hp
                    refine WJ.cv 210 (b := t23) (H0 := ⟨.nil, 0, 0⟩) rfl rfl rfl rfl rfl rfl (by rw [← endS e23]; exact rfl) rfl ?_
                    obtain ⟨t26, e26, hp⟩ := bindS hp
                    refine WJ.cl 207 (R := R_4 t26) (fun hm h k => R_4.mono hm h k) rfl (fun ids H' fr => f22_ok (x0 := (Sight.mk x4 x5 t23)) e26) ?_
                    rintro v B4 ⟨abB4, ivB4⟩ rfl
                    refine ⟨_, rfl, ?_⟩
                    cases t26
                    · replace hp := (itS hp).2 Bool.false_ne_true
                      exact WJ.ag 215 rfl (by exact ⟨rfl, rfl, rfl, rfl, rfl, trivial⟩) rfl rfl rfl (ih8 (n, IntKind.i64.wrap (x6 + 1), B4) hp (Nat.lt_succ_self _))
                    · replace hp := (itS hp).1 rfl
                      obtain ⟨t29, e29, hp⟩ := bindS hp
                      refine WJ.cl 202 (R := R_9 t29) (fun hm h k => R_9.mono hm h k) rfl (fun ids H' fr => f23_ok (x0 := (Sight.mk x4 x5 t23)) e29) ?_
                      rintro v B5 ⟨abB5, ivB5⟩ rfl
                      refine ⟨_, rfl, ?_⟩
                      refine WJ.ci 201 hp rfl rfl rfl rfl rfl rfl (opD_streq rfl rfl rfl) rfl rfl (fun hc31 hp => ?_) (fun hc31 hp => ?_)
                      · subst hK8
                        subst hK7
                        subst hK6
                        obtain rfl := endS (show some _ = some r from hp)
                        exact WJ.rt 209 rfl rfl rfl (fun ids H' fr => ⟨fr.ext0, rfl⟩)
                      · exact WJ.ag 210 rfl (by exact ⟨rfl, rfl, rfl, rfl, rfl, trivial⟩) rfl rfl rfl (ih8 (n, IntKind.i64.wrap (x6 + 1), B5) hp (Nat.lt_succ_self _))
                  · exact WJ.goto 4 (j8 B3 hp) rfl rfl (by exact ⟨rfl, rfl, rfl, rfl, trivial⟩) rfl rfl rfl
            · exact WJ.goto 4 (j7 B2 hp) rfl rfl (by exact ⟨rfl, rfl, rfl, trivial⟩) rfl rfl rfl
      · exact WJ.goto 3 (j6 B1 hp) rfl rfl (by exact ⟨rfl, trivial⟩) rfl rfl rfl
/-! 3 tipstaff/tipstafflaw32.ScrubTexts -/
def f3 (k : Nat) (x0 : Sight) (x1 : List UInt8) : Option Bool :=
  if (x1.length : Int) > 40 then
    (f6).bind fun t16 =>
    some t16
  else
    (f7 (Sight.mk x0.Floor x0.Panel x0.Out)).bind fun (t19_0, t19_1) =>
    (f8 k (Sight.mk x0.Floor x0.Panel x0.Out)).bind fun (t24_0, t24_1) =>
    (f9 k x1).bind fun (t29_0, t29_1) =>
    (f10 k x1).bind fun (t34_0, t34_1) =>
    if t19_0 = t24_0 then
      if t19_1 = t24_1 then
        if (Sight.mk t29_0.Floor t29_0.Panel t29_0.Out) = (Sight.mk t34_0.Floor t34_0.Panel t34_0.Out) then
          if t29_1 = t34_1 then
            (f6).bind fun t56 =>
            some t56
          else
            some false
        else
          some false
      else
        some false
    else
      some false
set_option maxRecDepth 20000 in
theorem f3_ok {k : Nat} {H : Hp} {x0 : Sight} {x1 : List UInt8} {r : Bool} (hp : f3 k x0 x1 = some r) :
    SCall Tryd.prog 3 [.agg ⟨[.int .i64 x0.Floor, .int .i64 x0.Panel, .bool x0.Out]⟩, .string (bs x1)] H (Ret fun v H' => Ext H H' ∧ R_4 r H.next H' v) := by
  obtain ⟨x0_Floor, x0_Panel, x0_Out⟩ := x0
  unfold f3 at hp
  replace hp := topS hp
  refine SCall.g Tryd.func3 rfl rfl rfl rfl rfl (l := [(0, .v (.agg ⟨[.int .i64 x0_Floor, .int .i64 x0_Panel, .bool x0_Out]⟩)), (1, .v (.string (bs x1)))]) (fun _ => rfl) (fun B abB => ?_)
  refine WJ.ci 210 hp rfl rfl rfl rfl rfl rfl rfl rfl rfl (fun hc15 hp => ?_) (fun hc15 hp => ?_)
  · obtain ⟨t16, e16, hp⟩ := bindS hp
    refine WJ.cl 204 (R := R_4 t16) (fun hm h k => R_4.mono hm h k) rfl (fun ids H' fr => f6_ok e16) ?_
    rintro v B1 ⟨abB1, ivB1⟩ rfl
    refine ⟨_, rfl, ?_⟩
    obtain rfl := endS (show some _ = some r from hp)
    exact WJ.rt 202 rfl rfl rfl (fun ids H' fr => ⟨fr.ext0, rfl⟩)
  · obtain ⟨⟨t19_0, t19_1⟩, e19, hp⟩ := bindS hp
    refine WJ.cl 206 (R := R_9_25 ⟨t19_0, t19_1⟩) (fun hm h k => R_9_25.mono hm h k) rfl (fun ids H' fr => f7_ok (x0 := (Sight.mk x0_Floor x0_Panel x0_Out)) e19) ?_
    rintro v B2 ⟨abB2, ivB2⟩ rfl
    refine ⟨_, rfl, ?_⟩
    obtain ⟨⟨t24_0, t24_1⟩, e24, hp⟩ := bindS hp
    refine WJ.cl 209 (R := R_9_25 ⟨t24_0, t24_1⟩) (fun hm h k => R_9_25.mono hm h k) rfl (fun ids H' fr => f8_ok (x0 := (Sight.mk x0_Floor x0_Panel x0_Out)) e24) ?_
    rintro v B3 ⟨abB3, ivB3⟩ rfl
    refine ⟨_, rfl, ?_⟩
    obtain ⟨⟨⟨t29_0_Floor, t29_0_Panel, t29_0_Out⟩, t29_1⟩, e29, hp⟩ := bindS hp
    refine WJ.cl 209 (R := R_23_25 ⟨⟨t29_0_Floor, t29_0_Panel, t29_0_Out⟩, t29_1⟩) (fun hm h k => R_23_25.mono hm h k) rfl (fun ids H' fr => f9_ok e29) ?_
    rintro v B4 ⟨abB4, ivB4⟩ rfl
    refine ⟨_, rfl, ?_⟩
    obtain ⟨⟨⟨t34_0_Floor, t34_0_Panel, t34_0_Out⟩, t34_1⟩, e34, hp⟩ := bindS hp
    refine WJ.cl 210 (R := R_23_25 ⟨⟨t34_0_Floor, t34_0_Panel, t34_0_Out⟩, t34_1⟩) (fun hm h k => R_23_25.mono hm h k) rfl (fun ids H' fr => f10_ok e34) ?_
    rintro v B5 ⟨abB5, ivB5⟩ rfl
    refine ⟨_, rfl, ?_⟩
    refine WJ.ci 211 hp rfl rfl rfl rfl rfl rfl (opD_streq rfl rfl rfl) rfl rfl (fun hc39 hp => ?_) (fun hc39 hp => ?_)
    · refine WJ.ci 203 hp rfl rfl rfl rfl rfl rfl rfl rfl rfl (fun hc43 hp => ?_) (fun hc43 hp => ?_)
      · refine WJ.ci 204 hp rfl rfl rfl rfl rfl rfl (opD_eqS rfl rfl rfl rfl gd23 (eq23 t29_0_Floor t29_0_Panel t29_0_Out t34_0_Floor t34_0_Panel t34_0_Out)) rfl rfl (fun hc48 hp => ?_) (fun hc48 hp => ?_)
        · refine WJ.ci 204 hp rfl rfl rfl rfl rfl rfl rfl rfl rfl (fun hc53 hp => ?_) (fun hc53 hp => ?_)
          · obtain ⟨t56, e56, hp⟩ := bindS hp
            refine WJ.cl 202 (R := R_4 t56) (fun hm h k => R_4.mono hm h k) rfl (fun ids H' fr => f6_ok e56) ?_
            rintro v B6 ⟨abB6, ivB6⟩ rfl
            refine ⟨_, rfl, ?_⟩
            obtain rfl := endS (show some _ = some r from hp)
            exact WJ.rt 203 rfl rfl rfl (fun ids H' fr => ⟨fr.ext0, rfl⟩)
          · obtain rfl := endS (show some _ = some r from hp)
            exact WJ.rt 206 rfl rfl rfl (fun ids H' fr => ⟨fr.ext0, rfl⟩)
        · obtain rfl := endS (show some _ = some r from hp)
          exact WJ.rt 211 rfl rfl rfl (fun ids H' fr => ⟨fr.ext0, rfl⟩)
      · obtain rfl := endS (show some _ = some r from hp)
        exact WJ.rt 216 rfl rfl rfl (fun ids H' fr => ⟨fr.ext0, rfl⟩)
    · obtain rfl := endS (show some _ = some r from hp)
      exact WJ.rt 220 rfl rfl rfl (fun ids H' fr => ⟨fr.ext0, rfl⟩)
end
end Go.Proofs.YtenddpplfdgcfaaDoor

set_option linter.unusedVariables false
set_option linter.unusedSimpArgs false
namespace Go.Proofs.YtenddpplfdgcfaaDoor
open Go Go.Det Go.RowKit
noncomputable section
/-! 12 tipstaff/tipstaffkit.Mod -/
def f12 (x0 : Int) (x1 : Int) : Option Int :=
  if x1 < 1 then
    some 0
  else
    if x1 ≠ 0 then
      (if (x0.tmod x1) < 0 then
        some ((IntKind.i64.wrap ((x0.tmod x1) + x1)))
      else
        some ((x0.tmod x1))).bind fun x0_9 =>
        some x0_9
    else none
set_option maxRecDepth 20000 in
theorem f12_ok {H : Hp} {x0 : Int} {x1 : Int} {r : Int} (hp : f12 x0 x1 = some r) :
    SCall Tryd.prog 12 [.int .i64 x0, .int .i64 x1] H (Ret fun v H' => Ext H H' ∧ R_3 r H.next H' v) := by
  unfold f12 at hp
  replace hp := topS hp
  refine SCall.g Tryd.func12 rfl rfl rfl rfl rfl (l := [(0, .v (.int .i64 x0)), (1, .v (.int .i64 x1))]) (fun _ => rfl) (fun B abB => ?_)
  refine WJ.ci 208 hp rfl rfl rfl rfl rfl rfl rfl rfl rfl (fun hc6 hp => ?_) (fun hc6 hp => ?_)
  · obtain rfl := endS (show some _ = some r from hp)
    exact WJ.rt 206 rfl rfl rfl (fun ids H' fr => ⟨fr.ext0, rfl⟩)
  · obtain ⟨nz9, hp⟩ := ifS hp
    refine WJ.hd (v := .int .i64 (x0.tmod x1)) 207 rfl rfl rfl rfl (fun ids H' fr => opD_bin rfl (evV_eq _ _ _ _ _ rfl) (evV_eq _ _ _ _ _ rfl) (bin_rem nz9)) rfl ?_
    refine WJ.adv 4 rfl ?_
    obtain ⟨K9, hK9, hp⟩ : ∃ K, K = _ ∧ Option.bind _ K = some r := ⟨_, rfl, cutS hp⟩
    refine WJ.cut 2 (α := Int) (fun y => [(0, .v (.int .i64 y))]) (fun y => []) (fun y => []) (fun y => B) (fun y => K9 ((y)) = some r) ?_ (fun j9 => ?_)
    · rintro x0_9 hp
      subst hK9
      show WJ _ _ _ B [] _ _ ⟨[(0, .v (.int .i64 x0_9))], [], true, 0⟩
      obtain rfl := endS (show some _ = some r from hp)
      exact WJ.rt 205 rfl rfl rfl (fun ids H' fr => ⟨fr.ext0, rfl⟩)
    · refine WJ.ci 202 hp rfl rfl rfl rfl rfl rfl rfl rfl rfl (fun hc11 hp => ?_) (fun hc11 hp => ?_)
      · exact WJ.goto 8 (j9 (IntKind.i64.wrap ((x0.tmod x1) + x1)) hp) rfl rfl (by exact ⟨rfl, trivial⟩) rfl rfl rfl
      · exact WJ.goto 3 (j9 (x0.tmod x1) hp) rfl rfl (by exact ⟨rfl, trivial⟩) rfl rfl rfl
/-! 11 tipstaff/tipstafflaw32.made -/
def f11_l1 (x0 : List Int) : Nat → (List Int) → Int → Int → Option ((List Int) × Int)
  | 0, _, _, _ => none
  | n + 1, l0, x7, x8 =>
    if x8 < (x0.length : Int) then
      if x8 < 8 then
        (rd x0 x8).bind fun t24 =>
        (f12 t24 12).bind fun t26 =>
        (apd 8 l0 ([IntKind.i64.wrap (1 + t26)])).bind fun l29 =>
        (rd l29 (IntKind.i64.wrap (x8 + 1))).bind fun t34 =>
        f11_l1 x0 n l29 (IntKind.i64.wrap (x7 + t34)) (IntKind.i64.wrap (x8 + 1))
      else
        some ((l0, x7))
    else
      some ((l0, x7))

def f11 (k : Nat) (x0 : List Int) (x1 : Int) : Option ((List Int) × Shown) :=
  (f11_l1 x0 k ([5]) 5 0).bind fun (l0_10, x7_10) =>
    (f12 x1 16777216).bind fun t38 =>
    (some (decide (((IntKind.i64.wrap (t38.tdiv 4)).tmod 4) > 0))).bind fun t45 =>
    (some (((IntKind.i64.wrap (t38.tdiv 16)).tmod 4) == 0)).bind fun t49 =>
    (some (((IntKind.i64.wrap (t38.tdiv 64)).tmod 4) == 0)).bind fun t53 =>
    if (IntKind.i64.wrap (x7_10 + 1)) ≠ 0 then
      some (l0_10, (Shown.mk (t38.tmod 4) t45 t49 t53 ((IntKind.i64.wrap (t38.tdiv 8192)).tmod (IntKind.i64.wrap (x7_10 + 1))) ((IntKind.i64.wrap (t38.tdiv 256)).tmod 21)))
    else none
set_option maxRecDepth 20000 in
theorem f11_ok {k : Nat} {H : Hp} {a_x0 : Option Addr} {c_x0 : Nat} {x0 : List Int} {x1 : Int} {r : (List Int) × Shown} (g_x0 : SlF 0 H intC a_x0 c_x0 x0) (hp : f11 k x0 x1 = some r) :
    SCall Tryd.prog 11 [.slice a_x0 x0.length c_x0, .int .i64 x1] H (Ret fun v H' => Ext H H' ∧ R_31_33 r H.next H' v) := by
  unfold f11 at hp
  replace hp := topS hp
  refine SCall.g Tryd.func11 rfl rfl rfl rfl rfl (l := [(0, .v (.slice a_x0 x0.length c_x0)), (1, .v (.int .i64 x1))]) (fun _ => rfl) (fun B abB => ?_)
  refine WJ.bs (cs := encL iE [5]) (sz := 1) (pl := [(0, .int .i64 5)]) 207 rfl rfl rfl rfl rfl (fun _ _ => rfl) (fun _ => by rfl) rfl rfl ?_
  intro b10
  refine ⟨_, rfl, ?_⟩
  refine WJ.adv 12 rfl ?_
  obtain ⟨K10, hK10, hp⟩ : ∃ K, K = _ ∧ Option.bind _ K = some r := ⟨_, rfl, cutS hp⟩
  refine WJ.cut 2 (α := (List Int) × Int × (Option Addr) × Nat × Hp) (fun y => [(1, .v (.int .i64 x1)), (5, .p 0 0), (6, .v (.slice y.2.2.1 y.1.length y.2.2.2.1)), (7, .v (.int .i64 y.2.1))]) (fun y => [[.int .i64 0, .bool false, .bool false, .bool false, .int .i64 0, .int .i64 0]]) (fun y => [⟨y.2.2.1, y.2.2.2.1, 1, encL iE y.1⟩]) (fun y => y.2.2.2.2) (fun y => K10 ((y.1, y.2.1)) = some r) ?_ (fun j10 => ?_)
  · rintro ⟨l0_10, x7_10, a0_10, c0_10, B3⟩ hp
    subst hK10
    show WJ _ _ _ B3 [⟨a0_10, c0_10, 1, encL iE l0_10⟩] _ _ ⟨[(1, .v (.int .i64 x1)), (5, .p 0 0), (6, .v (.slice a0_10 l0_10.length c0_10)), (7, .v (.int .i64 x7_10))], [[.int .i64 0, .bool false, .bool false, .bool false, .int .i64 0, .int .i64 0]], true, 0⟩
    obtain ⟨t38, e38, hp⟩ := bindS hp
    refine WJ.cl 203 (R := R_3 t38) (fun hm h k => R_3.mono hm h k) rfl (fun ids H' fr => f12_ok e38) ?_
    rintro v B4 ⟨abB4, ivB4⟩ rfl
    refine ⟨_, rfl, ?_⟩
    refine WJ.dr 203 rfl gmix (by kernel_rfl) (by kernel_rfl) rfl ?_
    refine WD.hd (v := .int .i64 (t38.tmod 4)) rfl rfl rfl rfl (fun _ _ _ _ _ => side_no) (fun ids H' fr => opD_bin rfl (evV_eq _ _ _ _ _ rfl) (evV_eq _ _ _ _ _ rfl) (bin_rem (by decide))) rfl ?_
    refine WD.hd (v := .int .i64 (IntKind.i64.wrap (t38.tdiv 4))) rfl rfl rfl rfl (fun _ _ _ _ _ => side_no) (fun ids H' fr => opD_bin rfl (evV_eq _ _ _ _ _ rfl) (evV_eq _ _ _ _ _ rfl) (bin_quo (by decide))) rfl ?_
    refine WD.hd (v := .int .i64 ((IntKind.i64.wrap (t38.tdiv 4)).tmod 4)) rfl rfl rfl rfl (fun _ _ _ _ _ => side_no) (fun ids H' fr => opD_bin rfl (evV_eq _ _ _ _ _ rfl) (evV_eq _ _ _ _ _ rfl) (bin_rem (by decide))) rfl ?_
    obtain ⟨t45, e45, hp⟩ := bindS hp
    refine WD.cv (b := t45) (H0 := ⟨.nil, 0, 0⟩) rfl rfl rfl rfl rfl rfl (by rw [← endS e45]; exact rfl) rfl ?_
    refine WD.hd (v := .int .i64 (IntKind.i64.wrap (t38.tdiv 16))) rfl rfl rfl rfl (fun _ _ _ _ _ => side_no) (fun ids H' fr => opD_bin rfl (evV_eq _ _ _ _ _ rfl) (evV_eq _ _ _ _ _ rfl) (bin_quo (by decide))) rfl ?_
    refine WD.hd (v := .int .i64 ((IntKind.i64.wrap (t38.tdiv 16)).tmod 4)) rfl rfl rfl rfl (fun _ _ _ _ _ => side_no) (fun ids H' fr => opD_bin rfl (evV_eq _ _ _ _ _ rfl) (evV_eq _ _ _ _ _ rfl) (bin_rem (by decide))) rfl ?_
    obtain ⟨t49, e49, hp⟩ := bindS hp
    refine WD.cv (b := t49) (H0 := ⟨.nil, 0, 0⟩) rfl rfl rfl rfl rfl rfl (by rw [← endS e49]; exact rfl) rfl ?_
    refine WD.hd (v := .int .i64 (IntKind.i64.wrap (t38.tdiv 64))) rfl rfl rfl rfl (fun _ _ _ _ _ => side_no) (fun ids H' fr => opD_bin rfl (evV_eq _ _ _ _ _ rfl) (evV_eq _ _ _ _ _ rfl) (bin_quo (by decide))) rfl ?_
    refine WD.hd (v := .int .i64 ((IntKind.i64.wrap (t38.tdiv 64)).tmod 4)) rfl rfl rfl rfl (fun _ _ _ _ _ => side_no) (fun ids H' fr => opD_bin rfl (evV_eq _ _ _ _ _ rfl) (evV_eq _ _ _ _ _ rfl) (bin_rem (by decide))) rfl ?_
    obtain ⟨t53, e53, hp⟩ := bindS hp
    refine WD.cv (b := t53) (H0 := ⟨.nil, 0, 0⟩) rfl rfl rfl rfl rfl rfl (by rw [← endS e53]; exact rfl) rfl ?_
    refine WD.hd (v := .int .i64 (IntKind.i64.wrap (t38.tdiv 256))) rfl rfl rfl rfl (fun _ _ _ _ _ => side_no) (fun ids H' fr => opD_bin rfl (evV_eq _ _ _ _ _ rfl) (evV_eq _ _ _ _ _ rfl) (bin_quo (by decide))) rfl ?_
    refine WD.hd (v := .int .i64 ((IntKind.i64.wrap (t38.tdiv 256)).tmod 21)) rfl rfl rfl rfl (fun _ _ _ _ _ => side_no) (fun ids H' fr => opD_bin rfl (evV_eq _ _ _ _ _ rfl) (evV_eq _ _ _ _ _ rfl) (bin_rem (by decide))) rfl ?_
    refine WD.hd (v := .int .i64 (IntKind.i64.wrap (t38.tdiv 8192))) rfl rfl rfl rfl (fun _ _ _ _ _ => side_no) (fun ids H' fr => opD_bin rfl (evV_eq _ _ _ _ _ rfl) (evV_eq _ _ _ _ _ rfl) (bin_quo (by decide))) rfl ?_
    obtain ⟨nz61, hp⟩ := ifS hp
    refine WD.hd (v := .int .i64 ((IntKind.i64.wrap (t38.tdiv 8192)).tmod (IntKind.i64.wrap (x7_10 + 1)))) rfl rfl rfl rfl (fun _ _ _ _ _ => side_no) (fun ids H' fr => opD_bin rfl (evV_eq _ _ _ _ _ rfl) (evV_eq _ _ _ _ _ rfl) (bin_rem nz61)) rfl ?_
    refine WD.done rfl ?_
    obtain rfl := endS (show some _ = some r from hp)
    exact WJ.rt 200 rfl rfl rfl (fun ids H' fr => ⟨fr.ext0, ⟨_, _, rfl, (fr.slOwn (j := 0) rfl rfl (Nat.le_refl _))⟩⟩)
  · refine WJ.lp 200 (α := Nat × (List Int) × Int × Int × (Option Addr) × Nat × Hp) (fun y => [(0, .v (.slice a_x0 x0.length c_x0)), (1, .v (.int .i64 x1)), (5, .p 0 0), (6, .v (.slice y.2.2.2.2.1 y.2.1.length y.2.2.2.2.2.1)), (7, .v (.int .i64 y.2.2.1)), (8, .v (.int .i64 y.2.2.2.1))]) (fun y => [[.int .i64 0, .bool false, .bool false, .bool false, .int .i64 0, .int .i64 0]]) (fun y => [⟨y.2.2.2.2.1, y.2.2.2.2.2.1, 1, encL iE y.2.1⟩]) (fun y => y.2.2.2.2.2.2) (fun y => y.1) (fun y => Option.bind (f11_l1 x0 y.1 y.2.1 y.2.2.1 y.2.2.2.1) K10 = some r) (k, [5], 5, 0, (some ⟨b10, 0, none⟩), 1, B) rfl hp (by exact ⟨rfl, rfl, rfl, rfl, rfl, rfl, trivial⟩) rfl rfl rfl ?_
    rintro ⟨n, l0, x7, x8, a0, c0, B1⟩ hp ih10
    show WJ _ _ _ B1 [⟨a0, c0, 1, encL iE l0⟩] _ _ ⟨[(0, .v (.slice a_x0 x0.length c_x0)), (1, .v (.int .i64 x1)), (5, .p 0 0), (6, .v (.slice a0 l0.length c0)), (7, .v (.int .i64 x7)), (8, .v (.int .i64 x8))], [[.int .i64 0, .bool false, .bool false, .bool false, .int .i64 0, .int .i64 0]], true, 0⟩
    replace hp : Option.bind (f11_l1 x0 n l0 x7 x8) K10 = some r := hp
    cases n with
    | zero => rw [f11_l1] at hp; exact (noS hp).elim
    | succ n =>
      rw [f11_l1] at hp
      refine WJ.ci 206 hp rfl rfl rfl rfl rfl rfl rfl rfl rfl (fun hc14 hp => ?_) (fun hc14 hp => ?_)
      · refine WJ.ci 202 hp rfl rfl rfl rfl rfl rfl rfl rfl rfl (fun hc17 hp => ?_) (fun hc17 hp => ?_)
        · obtain ⟨t24, e24, hp⟩ := bindS hp
          obtain ⟨b24, o24, cs24, i24, rfl, p24⟩ := g_x0.at e24 u31 sz3
          refine WJ.hd (v := .pointer (some ⟨b24, o24, none⟩)) 211 rfl rfl rfl rfl (fun ids H' fr => opD_indexAddr rfl (evV_eq _ _ _ _ _ rfl) (evV_eq _ _ _ _ _ rfl) (i24 _)) rfl ?_
          refine WJ.hd (v := .int .i64 t24) 200 rfl rfl rfl rfl (fun ids H' fr => opD_load rfl (evV_eq _ _ _ _ _ rfl) ((p24.mono (Nat.zero_le _) fr.ext0.abv).load (d := 0) ag3 rfl)) rfl ?_
          obtain ⟨t26, e26, hp⟩ := bindS hp
          refine WJ.cl 200 (R := R_3 t26) (fun hm h k => R_3.mono hm h k) rfl (fun ids H' fr => f12_ok e26) ?_
          rintro v B2 ⟨abB2, ivB2⟩ rfl
          refine ⟨_, rfl, ?_⟩
          refine WJ.bs (cs := encL iE [IntKind.i64.wrap (1 + t26)]) (sz := 1) (pl := [(0, .int .i64 (IntKind.i64.wrap (1 + t26)))]) 201 rfl rfl rfl rfl rfl (fun _ _ => rfl) (fun _ => by rfl) rfl rfl ?_
          intro b28
          refine ⟨_, rfl, ?_⟩
          obtain ⟨l29, e29, hp⟩ := bindS hp
          obtain ⟨bd29, rfl⟩ := apd_some e29
          refine WJ.ap (L := l0) (L2 := [IntKind.i64.wrap (1 + t26)]) 200 0 rfl rfl rfl rfl rfl rfl rfl rfl (el31 rfl) rfl (fun _ => rfl) (fun _ => rfl) rfl (fun ids H' fr => fr.srcOwn (enc := iE) (sz := 1) (j := 1) (fun _ => rfl) (by decide) rfl) bd29 ?_
          intro a29 c29
          refine ⟨_, rfl, ?_⟩
          refine WJ.pop [⟨a29, c29, 1, encL iE (l0 ++ ([IntKind.i64.wrap (1 + t26)]))⟩] rfl ?_
          obtain ⟨t34, e34, hp⟩ := bindS hp
          refine WJ.ownAddr (enc := iE) (sz := 1) 0 (fun _ => rfl) rfl rfl e34 (fun b34 hb34 => ?_)
          refine WJ.hd (v := .pointer (some ⟨b34, (IntKind.i64.wrap (x8 + 1)).toNat * 1, none⟩)) 207 rfl rfl rfl rfl (fun ids H' fr => opD_indexAddr rfl (evV_eq _ _ _ _ _ rfl) (evV_eq _ _ _ _ _ rfl) (ownIdx hb34 e34 u31 sz3)) rfl ?_
          refine WJ.hd (v := .int .i64 t34) 200 rfl rfl rfl rfl (fun ids H' fr => opD_load rfl (evV_eq _ _ _ _ _ rfl) ((fr.ownEl (enc := iE) (sz := 1) (j := 0) (fun _ => rfl) rfl hb34 e34).load (d := 0) ag3 rfl)) rfl ?_
          exact WJ.ag 209 rfl (by exact ⟨rfl, rfl, rfl, rfl, rfl, rfl, trivial⟩) rfl rfl rfl (ih10 (n, (l0 ++ ([IntKind.i64.wrap (1 + t26)])), IntKind.i64.wrap (x7 + t34), IntKind.i64.wrap (x8 + 1), a29, c29, B2) hp (Nat.lt_succ_self _))
        · exact WJ.goto 4 (j10 (l0, x7, a0, c0, B1) hp) rfl rfl (by exact ⟨rfl, rfl, rfl, rfl, trivial⟩) rfl rfl rfl
      · exact WJ.goto 7 (j10 (l0, x7, a0, c0, B1) hp) rfl rfl (by exact ⟨rfl, rfl, rfl, rfl, trivial⟩) rfl rfl rfl
/-! 42 tipstaff/shaft.Check$1 -/
def f42 (x0 : Int) : Option Bool :=
  if x0 < 1 then
    some true
  else
    (some (decide (x0 > 1000))).bind fun t7 =>
    some t7
set_option maxRecDepth 20000 in
theorem f42_ok {H : Hp} {x0 : Int} {r : Bool} (hp : f42 x0 = some r) :
    SCall Tryd.prog 42 [.int .i64 x0] H (Ret fun v H' => Ext H H' ∧ R_4 r H.next H' v) := by
  unfold f42 at hp
  replace hp := topS hp
  refine SCall.g Tryd.func42 rfl rfl rfl rfl rfl (l := [(0, .v (.int .i64 x0))]) (fun _ => rfl) (fun B abB => ?_)
  refine WJ.ci 207 hp rfl rfl rfl rfl rfl rfl rfl rfl rfl (fun hc4 hp => ?_) (fun hc4 hp => ?_)
  · obtain rfl := endS (show some _ = some r from hp)
    exact WJ.rt 206 rfl rfl rfl (fun ids H' fr => ⟨fr.ext0, rfl⟩)
  · obtain ⟨t7, e7, hp⟩ := bindS hp
    refine WJ.cv 202 (b := t7) (H0 := ⟨.nil, 0, 0⟩) rfl rfl rfl rfl rfl rfl (by rw [← endS e7]; exact rfl) rfl ?_
    obtain rfl := endS (show some _ = some r from hp)
    exact WJ.rt 203 rfl rfl rfl (fun ids H' fr => ⟨fr.ext0, rfl⟩)
/-! 34 tipstaff/shaft.Check -/
def f34_l1 (x0 : List Int) : Nat → Int → Option ((Unit) ⊕ (Int))
  | 0, _ => none
  | n + 1, x8_h12 =>
    (some (decide (x8_h12 < (x0.length : Int)))).bind fun t9u2 =>
    if t9u2 then
      (rd x0 x8_h12).bind fun t14u1 =>
      (f42 t14u1).bind fun t16u1 =>
      if t16u1 then
        some (Sum.inr x8_h12)
      else
        f34_l1 x0 n (IntKind.i64.wrap (x8_h12 + 1))
    else
      some (Sum.inl ())

def f34 (k : Nat) (x0 : List Int) : Option (Int × Int) :=
  if (x0.length : Int) < 1 then
    some (4, 0)
  else
    if (x0.length : Int) ≥ 64 then
      some (4, 0)
    else
      ((f34_l1 x0 k 0).bind fun s => match s with
        | .inl _ => 
          some ((-1))
        | .inr st => some (st)).bind fun x16_11 =>
        if x16_11 ≥ 0 then
          some (2, x16_11)
        else
          some (0, 0)
set_option maxHeartbeats 3200000 in
set_option maxRecDepth 20000 in
theorem f34_ok {k : Nat} {H : Hp} {a_x0 : Option Addr} {c_x0 : Nat} {x0 : List Int} {r : Int × Int} (g_x0 : SlF 0 H intC a_x0 c_x0 x0) (hp : f34 k x0 = some r) :
    SCall Tryd.prog 34 [.slice a_x0 x0.length c_x0] H (Ret fun v H' => Ext H H' ∧ R_25_3 r H.next H' v) := by
  unfold f34 at hp
  replace hp := topS hp
  refine SCall.g Tryd.func34 rfl rfl rfl rfl rfl (l := [(0, .v (.slice a_x0 x0.length c_x0))]) (fun _ => rfl) (fun B abB => ?_)
  have gbg_x0 := g_x0.mono (Nat.le_refl _) abB
  refine WJ.ci 210 hp rfl rfl rfl rfl rfl rfl rfl rfl rfl (fun hc8 hp => ?_) (fun hc8 hp => ?_)
  · obtain rfl := endS (show some _ = some r from hp)
    exact WJ.rt 212 rfl rfl rfl (fun ids H' fr => ⟨fr.ext0, rfl⟩)
  · refine WJ.ci 203 hp rfl rfl rfl rfl rfl rfl rfl rfl rfl (fun hc12 hp => ?_) (fun hc12 hp => ?_)
    · obtain rfl := endS (show some _ = some r from hp)
      exact WJ.rt 208 rfl rfl rfl (fun ids H' fr => ⟨fr.ext0, rfl⟩)
    · obtain ⟨K11, hK11, hp⟩ : ∃ K, K = _ ∧ Option.bind _ K = some r := ⟨_, rfl, cutS hp⟩
      refine WJ.inlC 213 (α := Int × Hp) (fun y => [(16, .v (.int .i64 y.1))]) (fun y => []) (fun y => y.2) (fun y => K11 ((y.1)) = some r ∧ SlF 0 y.2 intC a_x0 c_x0 x0) rfl rfl Tryd.func43 rfl rfl rfl rfl rfl (lc := [(0, .v (.slice a_x0 x0.length c_x0)), (1, .v (.func (.func 42) ⟨[]⟩ ⟨[]⟩))]) (fun _ => rfl) ?_ (fun j11 => ?_)
      · rintro ⟨x16_11, B4⟩ ⟨hp, gbg_x0⟩
        subst hK11
        show WJ _ _ _ B4 [] _ _ ⟨[(16, .v (.int .i64 x16_11))], [], true, 0⟩
        refine WJ.ci 205 hp rfl rfl rfl rfl rfl rfl rfl rfl rfl (fun hc18u1 hp => ?_) (fun hc18u1 hp => ?_)
        · obtain rfl := endS (show some _ = some r from hp)
          exact WJ.rt 208 rfl rfl rfl (fun ids H' fr => ⟨fr.ext0, rfl⟩)
        · obtain rfl := endS (show some _ = some r from hp)
          exact WJ.rt 208 rfl rfl rfl (fun ids H' fr => ⟨fr.ext0, rfl⟩)
      · refine WJ.adv 12 rfl ?_
        obtain ⟨K12, hK12, hp⟩ : ∃ K, K = _ ∧ Option.bind _ K = some r := ⟨_, rfl, cutS hp⟩
        refine WJ.cut 2 (α := Hp) (fun y => []) (fun y => []) (fun y => []) (fun y => y) (fun y => K12 (Sum.inl ()) = some r ∧ SlF 0 y intC a_x0 c_x0 x0) ?_ (fun j12 => ?_)
        · rintro B3 ⟨hp, gbg_x0⟩
          subst hK12
          show WJ _ _ _ B3 [] _ _ ⟨[], [], true, 0⟩
          refine WJ.inlR 204 rfl rfl rfl rfl ?_
          exact WJ.gotoO (j11 ((-1), B3) ⟨hp, gbg_x0⟩) (by exact ⟨rfl, trivial⟩) rfl rfl
        · refine WJ.lp 200 (α := Nat × Int × Hp) (fun y => [(0, .v (.slice a_x0 x0.length c_x0)), (1, .v (.func (.func 42) ⟨[]⟩ ⟨[]⟩)), (7, .v (.int .i64 ((x0.length : Nat) : Int))), (8, .v (.int .i64 y.2.1))]) (fun y => []) (fun y => []) (fun y => y.2.2) (fun y => y.1) (fun y => Option.bind (f34_l1 x0 y.1 y.2.1) K12 = some r ∧ SlF 0 y.2.2 intC a_x0 c_x0 x0) (k, 0, B) rfl ⟨hp, gbg_x0⟩ (by exact ⟨rfl, rfl, rfl, rfl, trivial⟩) rfl rfl rfl ?_
          rintro ⟨n, x8_h12, B1⟩ ⟨hp, gbg_x0⟩ ih12
          show WJ _ _ _ B1 [] _ _ ⟨[(0, .v (.slice a_x0 x0.length c_x0)), (1, .v (.func (.func 42) ⟨[]⟩ ⟨[]⟩)), (7, .v (.int .i64 ((x0.length : Nat) : Int))), (8, .v (.int .i64 x8_h12))], [], true, 0⟩
          replace hp : Option.bind (f34_l1 x0 n x8_h12) K12 = some r := hp
          cases n with
          | zero => rw [f34_l1] at hp; exact (noS hp).elim
          | succ n =>
            rw [f34_l1] at hp
            obtain ⟨t9u2, e9u2, hp⟩ := bindS hp
            refine WJ.cv 202 (b := t9u2) (H0 := ⟨.nil, 0, 0⟩) rfl rfl rfl rfl rfl rfl (by rw [← endS e9u2]; exact rfl) rfl ?_
            cases t9u2
            · replace hp := (itS hp).2 Bool.false_ne_true
              exact WJ.goto 4 (j12 B1 ⟨hp, gbg_x0⟩) rfl rfl (by exact trivial) rfl rfl rfl
            · replace hp := (itS hp).1 rfl
              obtain ⟨t14u1, e14u1, hp⟩ := bindS hp
              obtain ⟨b14u1, o14u1, cs14u1, i14u1, rfl, p14u1⟩ := gbg_x0.at e14u1 u31 sz3
              refine WJ.hd (v := .pointer (some ⟨b14u1, o14u1, none⟩)) 216 rfl rfl rfl rfl (fun ids H' fr => opD_indexAddr rfl (evV_eq _ _ _ _ _ rfl) (evV_eq _ _ _ _ _ rfl) (i14u1 _)) rfl ?_
              refine WJ.hd (v := .int .i64 t14u1) 200 rfl rfl rfl rfl (fun ids H' fr => opD_load rfl (evV_eq _ _ _ _ _ rfl) ((p14u1.mono (Nat.zero_le _) (fr.abv.le (Nat.zero_le _))).load (d := 0) ag3 rfl)) rfl ?_
              obtain ⟨t16u1, e16u1, hp⟩ := bindS hp
              refine WJ.cl 200 (R := R_4 t16u1) (fun hm h k => R_4.mono hm h k) rfl (fun ids H' fr => f42_ok e16u1) ?_
              rintro v B2 ⟨abB2, ivB2⟩ rfl
              refine ⟨_, rfl, ?_⟩
              replace gbg_x0 := gbg_x0.mono (Nat.le_refl _) (abB2.le (Nat.zero_le _))
              replace p14u1 := p14u1.mono (Nat.le_refl _) (abB2.le (Nat.zero_le _))
              cases t16u1
              · replace hp := (itS hp).2 Bool.false_ne_true
                exact WJ.ag 208 rfl (by exact ⟨rfl, rfl, rfl, rfl, trivial⟩) rfl rfl rfl (ih12 (n, IntKind.i64.wrap (x8_h12 + 1), B2) ⟨hp, gbg_x0⟩ (Nat.lt_succ_self _))
              · replace hp := (itS hp).1 rfl
                refine WJ.inlR 207 rfl rfl rfl rfl ?_
                subst hK12
                exact WJ.gotoO (j11 (x8_h12, B2) ⟨hp, gbg_x0⟩) (by exact ⟨rfl, trivial⟩) rfl rfl
/-! 61 tipstaff/shaft.Positions -/
def f61_l1 : Nat → (List Int) → Int → Int → Option ((List Int) × Int)
  | 0, _, _, _ => none
  | n + 1, l2_h15, v0_0_h15, x10_h15 =>
    if x10_h15 < (l2_h15.length : Int) then
      (rd l2_h15 x10_h15).bind fun t35u2 =>
      (rd l2_h15 x10_h15).bind fun t38u2 =>
      (some (l2_h15.set (x10_h15).toNat (IntKind.i64.wrap (v0_0_h15 + t35u2)))).bind fun lstu2 =>
      f61_l1 n lstu2 (IntKind.i64.wrap (v0_0_h15 + t35u2)) (IntKind.i64.wrap (x10_h15 + 1))
    else
      some ((l2_h15, v0_0_h15))

def f61 (k : Nat) (x0 : List Int) : Option ((List Int) × Int) :=
  (f34 k x0).bind fun (t13_0, t13_1) =>
  if t13_0 = 0 then
    (apn 8 [0] x0).bind fun l23 =>
    (f61_l1 k l23 0 1).bind fun (l2_15, v0_0_15) =>
      some (l2_15, 0)
  else
    some ([], t13_0)
set_option maxHeartbeats 3200000 in
set_option maxRecDepth 20000 in
theorem f61_ok {k : Nat} {H : Hp} {a_x0 : Option Addr} {c_x0 : Nat} {x0 : List Int} {r : (List Int) × Int} (g_x0 : SlF 0 H intC a_x0 c_x0 x0) (hp : f61 k x0 = some r) :
    SCall Tryd.prog 61 [.slice a_x0 x0.length c_x0] H (Ret fun v H' => Ext H H' ∧ R_31_25 r H.next H' v) := by
  unfold f61 at hp
  replace hp := topS hp
  refine SCall.g Tryd.func61 rfl rfl rfl rfl rfl (l := [(0, .v (.slice a_x0 x0.length c_x0))]) (fun _ => rfl) (fun B abB => ?_)
  have gbg_x0 := g_x0.mono (Nat.le_refl _) abB
  obtain ⟨⟨t13_0, t13_1⟩, e13, hp⟩ := bindS hp
  refine WJ.cl 209 (R := R_25_3 ⟨t13_0, t13_1⟩) (fun hm h k => R_25_3.mono hm h k) rfl (fun ids H' fr => f34_ok (gbg_x0.mono (Nat.zero_le _) (fr.abv.le (Nat.zero_le _))) e13) ?_
  rintro v B1 ⟨abB1, ivB1⟩ rfl
  refine ⟨_, rfl, ?_⟩
  replace gbg_x0 := gbg_x0.mono (Nat.le_refl _) (abB1.le (Nat.zero_le _))
  refine WJ.cn 209 hp rfl rfl rfl rfl rfl rfl rfl rfl rfl (fun hc17 hp => ?_) (fun hc17 hp => ?_)
  · obtain rfl := endS (show some _ = some r from hp)
    exact WJ.rt 208 rfl rfl rfl (fun ids H' fr => ⟨fr.ext0, ⟨_, _, rfl, SlF.nil⟩⟩)
  · refine WJ.adv 6 rfl ?_
    refine WJ.liftS (loc := []) rfl rfl (fun bv0 => ?_)
    refine WJ.sb 200 (j := 0) rfl rfl rfl rfl rfl rfl rfl rfl rfl rfl ?_
    refine WJ.adv 4 rfl ?_
    refine WJ.nf ?_
    refine WJ.adv 6 rfl ?_
    refine WJ.liftS (loc := []) rfl rfl (fun bv1 => ?_)
    refine WJ.sb 200 (j := 1) rfl rfl rfl rfl rfl rfl rfl rfl rfl rfl ?_
    refine WJ.hd (v := .slice (some ⟨bv1, 0, none⟩) 1 1) 203 rfl rfl rfl rfl (fun ids H' fr => opD_slice (lo' := none) (hi' := (some (.int .i64 1))) (mx' := (some (.int .i64 1))) rfl (evV_eq _ _ _ _ _ rfl) rfl rfl rfl (by kernel_rfl)) rfl ?_
    obtain ⟨l23, e23, hp⟩ := bindS hp
    obtain ⟨ne23, bd23, rfl⟩ := apn_some e23
    refine WJ.an 201 (L2 := x0) ([0] : List Int) 1 rfl rfl rfl rfl rfl rfl rfl rfl rfl rfl rfl rfl rfl (el31 rfl) rfl (fun _ => rfl) rfl (fun ids H' fr => (gbg_x0.mono (Nat.zero_le _) (fr.abv.le (Nat.zero_le _))).srcF) ne23 bd23 ?_
    intro b23
    refine ⟨_, rfl, ?_⟩
    refine WJ.adv 8 rfl ?_
    obtain ⟨K15, hK15, hp⟩ : ∃ K, K = _ ∧ Option.bind _ K = some r := ⟨_, rfl, cutS hp⟩
    refine WJ.cut 2 (α := (List Int) × Int × (Option Addr) × Nat × Hp) (fun y => [(9, .v (.slice y.2.2.1 y.1.length y.2.2.2.1))]) (fun y => []) (fun y => [⟨some ⟨bv0, 0, none⟩, 1, 1, [.int .i64 y.2.1]⟩, ⟨some ⟨bv1, 0, none⟩, 1, 1, [.int .i64 0]⟩, ⟨y.2.2.1, y.2.2.2.1, 1, encL iE y.1⟩]) (fun y => y.2.2.2.2) (fun y => K15 ((y.1, y.2.1)) = some r ∧ SlF 0 y.2.2.2.2 intC a_x0 c_x0 x0) ?_ (fun j15 => ?_)
    · rintro ⟨l2_15, v0_0_15, a2_15, c2_15, B3⟩ ⟨hp, gbg_x0⟩
      subst hK15
      show WJ _ _ _ B3 [⟨some ⟨bv0, 0, none⟩, 1, 1, [.int .i64 v0_0_15]⟩, ⟨some ⟨bv1, 0, none⟩, 1, 1, [.int .i64 0]⟩, ⟨a2_15, c2_15, 1, encL iE l2_15⟩] _ _ ⟨[(9, .v (.slice a2_15 l2_15.length c2_15))], [], true, 0⟩
      obtain rfl := endS (show some _ = some r from hp)
      exact WJ.rt 206 rfl rfl rfl (fun ids H' fr => ⟨fr.ext0, ⟨_, _, rfl, (fr.slOwn (j := 2) rfl rfl (Nat.le_refl _))⟩⟩)
    · refine WJ.lp 200 (α := Nat × (List Int) × Int × Int × (Option Addr) × Nat × Hp) (fun y => [(7, .v (.func (.func 82) ⟨[]⟩ ⟨[.pointer (some ⟨bv0, 0, none⟩)]⟩)), (9, .v (.slice y.2.2.2.2.1 y.2.1.length y.2.2.2.2.2.1)), (10, .v (.int .i64 y.2.2.2.1))]) (fun y => []) (fun y => [⟨some ⟨bv0, 0, none⟩, 1, 1, [.int .i64 y.2.2.1]⟩, ⟨some ⟨bv1, 0, none⟩, 1, 1, [.int .i64 0]⟩, ⟨y.2.2.2.2.1, y.2.2.2.2.2.1, 1, encL iE y.2.1⟩]) (fun y => y.2.2.2.2.2.2) (fun y => y.1) (fun y => Option.bind (f61_l1 y.1 y.2.1 y.2.2.1 y.2.2.2.1) K15 = some r ∧ SlF 0 y.2.2.2.2.2.2 intC a_x0 c_x0 x0) (k, ([0] ++ x0), 0, 1, (some ⟨b23, 0, none⟩), LOOSE, B1) rfl ⟨hp, gbg_x0⟩ (by exact ⟨rfl, rfl, rfl, trivial⟩) rfl rfl rfl ?_
      rintro ⟨n, l2_h15, v0_0_h15, x10_h15, a2_h15, c2_h15, B2⟩ ⟨hp, gbg_x0⟩ ih15
      show WJ _ _ _ B2 [⟨some ⟨bv0, 0, none⟩, 1, 1, [.int .i64 v0_0_h15]⟩, ⟨some ⟨bv1, 0, none⟩, 1, 1, [.int .i64 0]⟩, ⟨a2_h15, c2_h15, 1, encL iE l2_h15⟩] _ _ ⟨[(7, .v (.func (.func 82) ⟨[]⟩ ⟨[.pointer (some ⟨bv0, 0, none⟩)]⟩)), (9, .v (.slice a2_h15 l2_h15.length c2_h15)), (10, .v (.int .i64 x10_h15))], [], true, 0⟩
      replace hp : Option.bind (f61_l1 n l2_h15 v0_0_h15 x10_h15) K15 = some r := hp
      cases n with
      | zero => rw [f61_l1] at hp; exact (noS hp).elim
      | succ n =>
        rw [f61_l1] at hp
        refine WJ.ci 206 hp rfl rfl rfl rfl rfl rfl rfl rfl rfl (fun hc27u2 hp => ?_) (fun hc27u2 hp => ?_)
        · obtain ⟨t35u2, e35u2, hp⟩ := bindS hp
          refine WJ.ownAddr (enc := iE) (sz := 1) 2 (fun _ => rfl) rfl rfl e35u2 (fun b35u2 hb35u2 => ?_)
          refine WJ.hd (v := .pointer (some ⟨b35u2, (x10_h15).toNat * 1, none⟩)) 211 rfl rfl rfl rfl (fun ids H' fr => opD_indexAddr rfl (evV_eq _ _ _ _ _ rfl) (evV_eq _ _ _ _ _ rfl) (ownIdx hb35u2 e35u2 u31 sz3)) rfl ?_
          refine WJ.hd (v := .int .i64 t35u2) 200 rfl rfl rfl rfl (fun ids H' fr => opD_load rfl (evV_eq _ _ _ _ _ rfl) ((fr.ownEl (enc := iE) (sz := 1) (j := 2) (fun _ => rfl) rfl hb35u2 e35u2).load (d := 0) ag3 rfl)) rfl ?_
          refine WJ.inl 200 rfl rfl Tryd.func82 rfl rfl rfl rfl rfl (lc := [(0, .v (.int .i64 t35u2)), (1, .v (.pointer (some ⟨bv0, 0, none⟩)))]) (fun _ => rfl) ?_
          refine WJ.hd (v := .int .i64 v0_0_h15) 206 rfl rfl rfl rfl (fun ids H' fr => opD_load rfl (evV_eq _ _ _ _ _ rfl) (fr.ldOwn (j := 0) rfl rfl)) rfl ?_
          refine WJ.sb 202 (j := 0) rfl rfl rfl rfl rfl rfl rfl rfl rfl rfl ?_
          refine WJ.hd (v := .int .i64 (IntKind.i64.wrap (v0_0_h15 + t35u2))) 203 rfl rfl rfl rfl (fun ids H' fr => opD_load rfl (evV_eq _ _ _ _ _ rfl) (fr.ldOwn (j := 0) rfl rfl)) rfl ?_
          refine WJ.inlR 202 rfl rfl rfl rfl ?_
          obtain ⟨t38u2, e38u2, hp⟩ := bindS hp
          refine WJ.ownAddr (enc := iE) (sz := 1) 2 (fun _ => rfl) rfl rfl e38u2 (fun b38u2 hb38u2 => ?_)
          refine WJ.hd (v := .pointer (some ⟨b38u2, (x10_h15).toNat * 1, none⟩)) 200 rfl rfl rfl rfl (fun ids H' fr => opD_indexAddr rfl (evV_eq _ _ _ _ _ rfl) (evV_eq _ _ _ _ _ rfl) (ownIdx hb38u2 e38u2 u31 sz3)) rfl ?_
          obtain ⟨lstu2, estu2, hp⟩ := bindS hp
          obtain rfl := Option.some.inj estu2
          refine WJ.st 200 (IntKind.i64.wrap (v0_0_h15 + t35u2)) 2 rfl rfl rfl rfl rfl rfl rfl rfl hb38u2 (fun _ => rfl) e38u2 sz3 rfl rfl rfl ?_
          rw [show l2_h15.length = (l2_h15.set (x10_h15).toNat (IntKind.i64.wrap (v0_0_h15 + t35u2))).length from (List.length_set).symm]
          exact WJ.ag 207 rfl (by exact ⟨rfl, rfl, rfl, trivial⟩) rfl rfl rfl (ih15 (n, (l2_h15.set (x10_h15).toNat (IntKind.i64.wrap (v0_0_h15 + t35u2))), IntKind.i64.wrap (v0_0_h15 + t35u2), IntKind.i64.wrap (x10_h15 + 1), a2_h15, c2_h15, B2) ⟨hp, gbg_x0⟩ (Nat.lt_succ_self _))
        · exact WJ.goto 3 (j15 (l2_h15, v0_0_h15, a2_h15, c2_h15, B2) ⟨hp, gbg_x0⟩) rfl rfl (by exact ⟨rfl, trivial⟩) rfl rfl rfl
/-! 44 tipstaff/shaft.Height -/
def f44 (k : Nat) (x0 : List Int) : Option (Int × Int) :=
  (f61 k x0).bind fun (t8_0, t8_1) =>
  if t8_1 = 0 then
    (rd t8_0 (IntKind.i64.wrap ((t8_0.length : Int) - 1))).bind fun t18 =>
    some (t18, 0)
  else
    some (0, t8_1)
set_option maxRecDepth 20000 in
theorem f44_ok {k : Nat} {H : Hp} {a_x0 : Option Addr} {c_x0 : Nat} {x0 : List Int} {r : Int × Int} (g_x0 : SlF 0 H intC a_x0 c_x0 x0) (hp : f44 k x0 = some r) :
    SCall Tryd.prog 44 [.slice a_x0 x0.length c_x0] H (Ret fun v H' => Ext H H' ∧ R_3_25 r H.next H' v) := by
  unfold f44 at hp
  replace hp := topS hp
  refine SCall.g Tryd.func44 rfl rfl rfl rfl rfl (l := [(0, .v (.slice a_x0 x0.length c_x0))]) (fun _ => rfl) (fun B abB => ?_)
  obtain ⟨⟨t8_0, t8_1⟩, e8, hp⟩ := bindS hp
  refine WJ.cl 208 (R := R_31_25 ⟨t8_0, t8_1⟩) (fun hm h k => R_31_25.mono hm h k) rfl (fun ids H' fr => f61_ok (g_x0.mono (Nat.zero_le _) fr.ext0.abv) e8) ?_
  rintro v B1 ⟨abB1, ivB1⟩ ⟨a_t8_0, c_t8_0, rfl, g_t8_0⟩
  refine ⟨_, rfl, ?_⟩
  refine WJ.cn 210 hp rfl rfl rfl rfl rfl rfl rfl rfl rfl (fun hc12 hp => ?_) (fun hc12 hp => ?_)
  · obtain rfl := endS (show some _ = some r from hp)
    exact WJ.rt 208 rfl rfl rfl (fun ids H' fr => ⟨fr.ext0, rfl⟩)
  · obtain ⟨t18, e18, hp⟩ := bindS hp
    obtain ⟨b18, o18, cs18, i18, rfl, p18⟩ := g_t8_0.at e18 u31 sz3
    refine WJ.hd (v := .pointer (some ⟨b18, o18, none⟩)) 209 rfl rfl rfl rfl (fun ids H' fr => opD_indexAddr rfl (evV_eq _ _ _ _ _ rfl) (evV_eq _ _ _ _ _ rfl) (i18 _)) rfl ?_
    refine WJ.hd (v := .int .i64 t18) 200 rfl rfl rfl rfl (fun ids H' fr => opD_load rfl (evV_eq _ _ _ _ _ rfl) ((p18.mono (Nat.zero_le _) (fr.abv.le (Nat.zero_le _))).load (d := 0) ag3 rfl)) rfl ?_
    obtain rfl := endS (show some _ = some r from hp)
    exact WJ.rt 203 rfl rfl rfl (fun ids H' fr => ⟨fr.ext0, rfl⟩)
/-! 35 tipstaff/scrub.Check -/
def f35 (k : Nat) (x0 : List Int) (x1 : Shown) : Option Int :=
  (f44 k x0).bind fun (t9_0, t9_1) =>
  if t9_1 = 0 then
    if x1.Domain < 0 then
      some 2
    else
      if x1.Domain > 3 then
        some 2
      else
        if x1.At < 0 then
          some 2
        else
          if x1.At > t9_0 then
            some 2
          else
            if x1.Panel < 0 then
              some 2
            else
              if x1.Panel > 20 then
                some 2
              else
                some 0
  else
    some t9_1
set_option maxRecDepth 20000 in
theorem f35_ok {k : Nat} {H : Hp} {a_x0 : Option Addr} {c_x0 : Nat} {x0 : List Int} {x1 : Shown} {r : Int} (g_x0 : SlF 0 H intC a_x0 c_x0 x0) (hp : f35 k x0 x1 = some r) :
    SCall Tryd.prog 35 [.slice a_x0 x0.length c_x0, .agg ⟨[.int .i64 x1.Domain, .bool x1.Service, .bool x1.Faulted, .bool x1.Homing, .int .i64 x1.At, .int .i64 x1.Panel]⟩] H (Ret fun v H' => Ext H H' ∧ R_25 r H.next H' v) := by
  obtain ⟨x1_Domain, x1_Service, x1_Faulted, x1_Homing, x1_At, x1_Panel⟩ := x1
  unfold f35 at hp
  replace hp := topS hp
  refine SCall.g Tryd.func35 rfl rfl rfl rfl rfl (l := [(0, .v (.slice a_x0 x0.length c_x0)), (1, .v (.agg ⟨[.int .i64 x1_Domain, .bool x1_Service, .bool x1_Faulted, .bool x1_Homing, .int .i64 x1_At, .int .i64 x1_Panel]⟩))]) (fun _ => rfl) (fun B abB => ?_)
  obtain ⟨⟨t9_0, t9_1⟩, e9, hp⟩ := bindS hp
  refine WJ.cl 208 (R := R_3_25 ⟨t9_0, t9_1⟩) (fun hm h k => R_3_25.mono hm h k) rfl (fun ids H' fr => f44_ok (g_x0.mono (Nat.zero_le _) fr.ext0.abv) e9) ?_
  rintro v B1 ⟨abB1, ivB1⟩ rfl
  refine ⟨_, rfl, ?_⟩
  refine WJ.cn 211 hp rfl rfl rfl rfl rfl rfl rfl rfl rfl (fun hc14 hp => ?_) (fun hc14 hp => ?_)
  · obtain rfl := endS (show some _ = some r from hp)
    exact WJ.rt 208 rfl rfl rfl (fun ids H' fr => ⟨fr.ext0, rfl⟩)
  · refine WJ.ci 207 hp rfl rfl rfl rfl rfl rfl rfl rfl rfl (fun hc19 hp => ?_) (fun hc19 hp => ?_)
    · obtain rfl := endS (show some _ = some r from hp)
      exact WJ.rt 233 rfl rfl rfl (fun ids H' fr => ⟨fr.ext0, rfl⟩)
    · refine WJ.ci 203 hp rfl rfl rfl rfl rfl rfl rfl rfl rfl (fun hc23 hp => ?_) (fun hc23 hp => ?_)
      · obtain rfl := endS (show some _ = some r from hp)
        exact WJ.rt 229 rfl rfl rfl (fun ids H' fr => ⟨fr.ext0, rfl⟩)
      · refine WJ.ci 204 hp rfl rfl rfl rfl rfl rfl rfl rfl rfl (fun hc28 hp => ?_) (fun hc28 hp => ?_)
        · obtain rfl := endS (show some _ = some r from hp)
          exact WJ.rt 224 rfl rfl rfl (fun ids H' fr => ⟨fr.ext0, rfl⟩)
        · refine WJ.ci 205 hp rfl rfl rfl rfl rfl rfl rfl rfl rfl (fun hc34 hp => ?_) (fun hc34 hp => ?_)
          · obtain rfl := endS (show some _ = some r from hp)
            exact WJ.rt 218 rfl rfl rfl (fun ids H' fr => ⟨fr.ext0, rfl⟩)
          · refine WJ.ci 204 hp rfl rfl rfl rfl rfl rfl rfl rfl rfl (fun hc39 hp => ?_) (fun hc39 hp => ?_)
            · obtain rfl := endS (show some _ = some r from hp)
              exact WJ.rt 213 rfl rfl rfl (fun ids H' fr => ⟨fr.ext0, rfl⟩)
            · refine WJ.ci 204 hp rfl rfl rfl rfl rfl rfl rfl rfl rfl (fun hc44 hp => ?_) (fun hc44 hp => ?_)
              · obtain rfl := endS (show some _ = some r from hp)
                exact WJ.rt 208 rfl rfl rfl (fun ids H' fr => ⟨fr.ext0, rfl⟩)
              · obtain rfl := endS (show some _ = some r from hp)
                exact WJ.rt 210 rfl rfl rfl (fun ids H' fr => ⟨fr.ext0, rfl⟩)
/-! 62 tipstaff/scrub.rows$1 -/
def f62 (x0 : Shown) : Option Sight :=
  some (Sight.mk (-1) 0 false)
set_option maxRecDepth 20000 in
theorem f62_ok {H : Hp} {x0 : Shown} {r : Sight} (hp : f62 x0 = some r) :
    SCall Tryd.prog 62 [.agg ⟨[.int .i64 x0.Domain, .bool x0.Service, .bool x0.Faulted, .bool x0.Homing, .int .i64 x0.At, .int .i64 x0.Panel]⟩] H (Ret fun v H' => Ext H H' ∧ R_23 r H.next H' v) := by
  obtain ⟨x0_Domain, x0_Service, x0_Faulted, x0_Homing, x0_At, x0_Panel⟩ := x0
  unfold f62 at hp
  replace hp := topS hp
  refine SCall.g Tryd.func62 rfl rfl rfl rfl rfl (l := [(0, .v (.agg ⟨[.int .i64 x0_Domain, .bool x0_Service, .bool x0_Faulted, .bool x0_Homing, .int .i64 x0_At, .int .i64 x0_Panel]⟩))]) (fun _ => rfl) (fun B abB => ?_)
  obtain rfl := endS (show some _ = some r from hp)
  exact WJ.rt 210 rfl rfl rfl (fun ids H' fr => ⟨fr.ext0, rfl⟩)
/-! 63 tipstaff/scrub.rows$2 -/
def f63 (x0 : Int) (x1 : Shown) : Option Bool :=
  (some (x1.Domain != x0)).bind fun t8 =>
  some t8
set_option maxRecDepth 20000 in
theorem f63_ok {H : Hp} {x0 : Int} {x1 : Shown} {r : Bool} (hp : f63 x0 x1 = some r) :
    SCall Tryd.prog 63 [.int .i64 x0, .agg ⟨[.int .i64 x1.Domain, .bool x1.Service, .bool x1.Faulted, .bool x1.Homing, .int .i64 x1.At, .int .i64 x1.Panel]⟩] H (Ret fun v H' => Ext H H' ∧ R_4 r H.next H' v) := by
  obtain ⟨x1_Domain, x1_Service, x1_Faulted, x1_Homing, x1_At, x1_Panel⟩ := x1
  unfold f63 at hp
  replace hp := topS hp
  refine SCall.g Tryd.func63 rfl rfl rfl rfl rfl (l := [(0, .v (.int .i64 x0)), (1, .v (.agg ⟨[.int .i64 x1_Domain, .bool x1_Service, .bool x1_Faulted, .bool x1_Homing, .int .i64 x1_At, .int .i64 x1_Panel]⟩))]) (fun _ => rfl) (fun B abB => ?_)
  obtain ⟨t8, e8, hp⟩ := bindS hp
  refine WJ.cv 210 (b := t8) (H0 := ⟨.nil, 0, 0⟩) rfl rfl rfl rfl rfl rfl (by rw [← endS e8]; exact rfl) rfl ?_
  obtain rfl := endS (show some _ = some r from hp)
  exact WJ.rt 202 rfl rfl rfl (fun ids H' fr => ⟨fr.ext0, rfl⟩)
/-! 64 tipstaff/scrub.rows$3 -/
def f64 (x0 : Int) (x1 : Shown) : Option Bool :=
  if x1.Service then
    some false
  else
    some true
set_option maxRecDepth 20000 in
theorem f64_ok {H : Hp} {x0 : Int} {x1 : Shown} {r : Bool} (hp : f64 x0 x1 = some r) :
    SCall Tryd.prog 64 [.int .i64 x0, .agg ⟨[.int .i64 x1.Domain, .bool x1.Service, .bool x1.Faulted, .bool x1.Homing, .int .i64 x1.At, .int .i64 x1.Panel]⟩] H (Ret fun v H' => Ext H H' ∧ R_4 r H.next H' v) := by
  obtain ⟨x1_Domain, x1_Service, x1_Faulted, x1_Homing, x1_At, x1_Panel⟩ := x1
  unfold f64 at hp
  replace hp := topS hp
  refine SCall.g Tryd.func64 rfl rfl rfl rfl rfl (l := [(0, .v (.int .i64 x0)), (1, .v (.agg ⟨[.int .i64 x1_Domain, .bool x1_Service, .bool x1_Faulted, .bool x1_Homing, .int .i64 x1_At, .int .i64 x1_Panel]⟩))]) (fun _ => rfl) (fun B abB => ?_)
  cases x1_Service
  · replace hp := (itS hp).2 Bool.false_ne_true
    obtain rfl := endS (show some _ = some r from hp)
    exact WJ.rt 212 rfl rfl rfl (fun ids H' fr => ⟨fr.ext0, rfl⟩)
  · replace hp := (itS hp).1 rfl
    obtain rfl := endS (show some _ = some r from hp)
    exact WJ.rt 212 rfl rfl rfl (fun ids H' fr => ⟨fr.ext0, rfl⟩)
/-! 65 tipstaff/scrub.rows$4 -/
def f65 (x0 : Shown) : Option Sight :=
  some (Sight.mk (-1) 0 true)
set_option maxRecDepth 20000 in
theorem f65_ok {H : Hp} {x0 : Shown} {r : Sight} (hp : f65 x0 = some r) :
    SCall Tryd.prog 65 [.agg ⟨[.int .i64 x0.Domain, .bool x0.Service, .bool x0.Faulted, .bool x0.Homing, .int .i64 x0.At, .int .i64 x0.Panel]⟩] H (Ret fun v H' => Ext H H' ∧ R_23 r H.next H' v) := by
  obtain ⟨x0_Domain, x0_Service, x0_Faulted, x0_Homing, x0_At, x0_Panel⟩ := x0
  unfold f65 at hp
  replace hp := topS hp
  refine SCall.g Tryd.func65 rfl rfl rfl rfl rfl (l := [(0, .v (.agg ⟨[.int .i64 x0_Domain, .bool x0_Service, .bool x0_Faulted, .bool x0_Homing, .int .i64 x0_At, .int .i64 x0_Panel]⟩))]) (fun _ => rfl) (fun B abB => ?_)
  obtain rfl := endS (show some _ = some r from hp)
  exact WJ.rt 210 rfl rfl rfl (fun ids H' fr => ⟨fr.ext0, rfl⟩)
/-! 66 tipstaff/scrub.rows$5 -/
def f66 (x0 : Int) (x1 : Shown) : Option Bool :=
  some x1.Faulted
set_option maxRecDepth 20000 in
theorem f66_ok {H : Hp} {x0 : Int} {x1 : Shown} {r : Bool} (hp : f66 x0 x1 = some r) :
    SCall Tryd.prog 66 [.int .i64 x0, .agg ⟨[.int .i64 x1.Domain, .bool x1.Service, .bool x1.Faulted, .bool x1.Homing, .int .i64 x1.At, .int .i64 x1.Panel]⟩] H (Ret fun v H' => Ext H H' ∧ R_4 r H.next H' v) := by
  obtain ⟨x1_Domain, x1_Service, x1_Faulted, x1_Homing, x1_At, x1_Panel⟩ := x1
  unfold f66 at hp
  replace hp := topS hp
  refine SCall.g Tryd.func66 rfl rfl rfl rfl rfl (l := [(0, .v (.int .i64 x0)), (1, .v (.agg ⟨[.int .i64 x1_Domain, .bool x1_Service, .bool x1_Faulted, .bool x1_Homing, .int .i64 x1_At, .int .i64 x1_Panel]⟩))]) (fun _ => rfl) (fun B abB => ?_)
  obtain rfl := endS (show some _ = some r from hp)
  exact WJ.rt 211 rfl rfl rfl (fun ids H' fr => ⟨fr.ext0, rfl⟩)
/-! 67 tipstaff/scrub.rows$6 -/
def f67 (x0 : Shown) : Option Sight :=
  some (Sight.mk (-1) x0.Panel true)
set_option maxRecDepth 20000 in
theorem f67_ok {H : Hp} {x0 : Shown} {r : Sight} (hp : f67 x0 = some r) :
    SCall Tryd.prog 67 [.agg ⟨[.int .i64 x0.Domain, .bool x0.Service, .bool x0.Faulted, .bool x0.Homing, .int .i64 x0.At, .int .i64 x0.Panel]⟩] H (Ret fun v H' => Ext H H' ∧ R_23 r H.next H' v) := by
  obtain ⟨x0_Domain, x0_Service, x0_Faulted, x0_Homing, x0_At, x0_Panel⟩ := x0
  unfold f67 at hp
  replace hp := topS hp
  refine SCall.g Tryd.func67 rfl rfl rfl rfl rfl (l := [(0, .v (.agg ⟨[.int .i64 x0_Domain, .bool x0_Service, .bool x0_Faulted, .bool x0_Homing, .int .i64 x0_At, .int .i64 x0_Panel]⟩))]) (fun _ => rfl) (fun B abB => ?_)
  obtain rfl := endS (show some _ = some r from hp)
  exact WJ.rt 212 rfl rfl rfl (fun ids H' fr => ⟨fr.ext0, rfl⟩)
/-! 68 tipstaff/scrub.rows$7 -/
def f68 (x0 : Int) (x1 : Shown) : Option Bool :=
  some x1.Homing
set_option maxRecDepth 20000 in
theorem f68_ok {H : Hp} {x0 : Int} {x1 : Shown} {r : Bool} (hp : f68 x0 x1 = some r) :
    SCall Tryd.prog 68 [.int .i64 x0, .agg ⟨[.int .i64 x1.Domain, .bool x1.Service, .bool x1.Faulted, .bool x1.Homing, .int .i64 x1.At, .int .i64 x1.Panel]⟩] H (Ret fun v H' => Ext H H' ∧ R_4 r H.next H' v) := by
  obtain ⟨x1_Domain, x1_Service, x1_Faulted, x1_Homing, x1_At, x1_Panel⟩ := x1
  unfold f68 at hp
  replace hp := topS hp
  refine SCall.g Tryd.func68 rfl rfl rfl rfl rfl (l := [(0, .v (.int .i64 x0)), (1, .v (.agg ⟨[.int .i64 x1_Domain, .bool x1_Service, .bool x1_Faulted, .bool x1_Homing, .int .i64 x1_At, .int .i64 x1_Panel]⟩))]) (fun _ => rfl) (fun B abB => ?_)
  obtain rfl := endS (show some _ = some r from hp)
  exact WJ.rt 211 rfl rfl rfl (fun ids H' fr => ⟨fr.ext0, rfl⟩)
/-! 83 tipstaff/shaft.placed -/
def f83 (k : Nat) (x0 : List Int) (x1 : Int) : Option ((List Int) × Int) :=
  (f61 k x0).bind fun (t10_0, t10_1) =>
  if t10_1 = 0 then
    if x1 < 0 then
      some ([], 2)
    else
      (rd t10_0 (IntKind.i64.wrap ((t10_0.length : Int) - 1))).bind fun t24 =>
      if x1 > t24 then
        some ([], 2)
      else
        some (t10_0, 0)
  else
    some ([], t10_1)
set_option maxRecDepth 20000 in
theorem f83_ok {k : Nat} {H : Hp} {a_x0 : Option Addr} {c_x0 : Nat} {x0 : List Int} {x1 : Int} {r : (List Int) × Int} (g_x0 : SlF 0 H intC a_x0 c_x0 x0) (hp : f83 k x0 x1 = some r) :
    SCall Tryd.prog 83 [.slice a_x0 x0.length c_x0, .int .i64 x1] H (Ret fun v H' => Ext H H' ∧ R_31_25 r H.next H' v) := by
  unfold f83 at hp
  replace hp := topS hp
  refine SCall.g Tryd.func83 rfl rfl rfl rfl rfl (l := [(0, .v (.slice a_x0 x0.length c_x0)), (1, .v (.int .i64 x1))]) (fun _ => rfl) (fun B abB => ?_)
  obtain ⟨⟨t10_0, t10_1⟩, e10, hp⟩ := bindS hp
  refine WJ.cl 208 (R := R_31_25 ⟨t10_0, t10_1⟩) (fun hm h k => R_31_25.mono hm h k) rfl (fun ids H' fr => f61_ok (g_x0.mono (Nat.zero_le _) fr.ext0.abv) e10) ?_
  rintro v B1 ⟨abB1, ivB1⟩ ⟨a_t10_0, c_t10_0, rfl, g_t10_0⟩
  refine ⟨_, rfl, ?_⟩
  refine WJ.cn 210 hp rfl rfl rfl rfl rfl rfl rfl rfl rfl (fun hc14 hp => ?_) (fun hc14 hp => ?_)
  · obtain rfl := endS (show some _ = some r from hp)
    exact WJ.rt 208 rfl rfl rfl (fun ids H' fr => ⟨fr.ext0, ⟨_, _, rfl, SlF.nil⟩⟩)
  · refine WJ.ci 207 hp rfl rfl rfl rfl rfl rfl rfl rfl rfl (fun hc17 hp => ?_) (fun hc17 hp => ?_)
    · obtain rfl := endS (show some _ = some r from hp)
      exact WJ.rt 217 rfl rfl rfl (fun ids H' fr => ⟨fr.ext0, ⟨_, _, rfl, SlF.nil⟩⟩)
    · obtain ⟨t24, e24, hp⟩ := bindS hp
      obtain ⟨b24, o24, cs24, i24, rfl, p24⟩ := g_t10_0.at e24 u31 sz3
      refine WJ.hd (v := .pointer (some ⟨b24, o24, none⟩)) 206 rfl rfl rfl rfl (fun ids H' fr => opD_indexAddr rfl (evV_eq _ _ _ _ _ rfl) (evV_eq _ _ _ _ _ rfl) (i24 _)) rfl ?_
      refine WJ.hd (v := .int .i64 t24) 200 rfl rfl rfl rfl (fun ids H' fr => opD_load rfl (evV_eq _ _ _ _ _ rfl) ((p24.mono (Nat.zero_le _) (fr.abv.le (Nat.zero_le _))).load (d := 0) ag3 rfl)) rfl ?_
      refine WJ.ci 200 hp rfl rfl rfl rfl rfl rfl rfl rfl rfl (fun hc26 hp => ?_) (fun hc26 hp => ?_)
      · obtain rfl := endS (show some _ = some r from hp)
        exact WJ.rt 208 rfl rfl rfl (fun ids H' fr => ⟨fr.ext0, ⟨_, _, rfl, SlF.nil⟩⟩)
      · obtain rfl := endS (show some _ = some r from hp)
        exact WJ.rt 210 rfl rfl rfl (fun ids H' fr => ⟨fr.ext0, ⟨_, _, rfl, (g_t10_0.mono (Nat.le_refl _) (fr.abv.le (Nat.zero_le _)))⟩⟩)
/-! 92 cmp.isNaN[int] -/
def f92 (x0 : Int) : Option Bool :=
  (some (x0 != x0)).bind fun t5 =>
  some t5
set_option maxRecDepth 20000 in
theorem f92_ok {H : Hp} {x0 : Int} {r : Bool} (hp : f92 x0 = some r) :
    SCall Tryd.prog 92 [.int .i64 x0] H (Ret fun v H' => Ext H H' ∧ R_4 r H.next H' v) := by
  unfold f92 at hp
  replace hp := topS hp
  refine SCall.g Tryd.func92 rfl rfl rfl rfl rfl (l := [(0, .v (.int .i64 x0))]) (fun _ => rfl) (fun B abB => ?_)
  obtain ⟨t5, e5, hp⟩ := bindS hp
  refine WJ.cv 208 (b := t5) (H0 := ⟨.nil, 0, 0⟩) rfl rfl rfl rfl rfl rfl (by rw [← endS e5]; exact rfl) rfl ?_
  obtain rfl := endS (show some _ = some r from hp)
  exact WJ.rt 202 rfl rfl rfl (fun ids H' fr => ⟨fr.ext0, rfl⟩)
/-! 90 cmp.Less[int] -/
def f90 (x0 : Int) (x1 : Int) : Option Bool :=
  (f92 x0).bind fun t6 =>
  if t6 then
    (f92 x1).bind fun t9 =>
    if t9 then
      (some (decide (x0 < x1))).bind fun t15 =>
      some t15
    else
      some true
  else
    (some (decide (x0 < x1))).bind fun t15 =>
    some t15
set_option maxRecDepth 20000 in
theorem f90_ok {H : Hp} {x0 : Int} {x1 : Int} {r : Bool} (hp : f90 x0 x1 = some r) :
    SCall Tryd.prog 90 [.int .i64 x0, .int .i64 x1] H (Ret fun v H' => Ext H H' ∧ R_4 r H.next H' v) := by
  unfold f90 at hp
  replace hp := topS hp
  refine SCall.g Tryd.func90 rfl rfl rfl rfl rfl (l := [(0, .v (.int .i64 x0)), (1, .v (.int .i64 x1))]) (fun _ => rfl) (fun B abB => ?_)
  obtain ⟨t6, e6, hp⟩ := bindS hp
  refine WJ.cl 207 (R := R_4 t6) (fun hm h k => R_4.mono hm h k) rfl (fun ids H' fr => f92_ok e6) ?_
  rintro v B1 ⟨abB1, ivB1⟩ rfl
  refine ⟨_, rfl, ?_⟩
  cases t6
  · replace hp := (itS hp).2 Bool.false_ne_true
    obtain ⟨t15, e15, hp⟩ := bindS hp
    refine WJ.cv 208 (b := t15) (H0 := ⟨.nil, 0, 0⟩) rfl rfl rfl rfl rfl rfl (by rw [← endS e15]; exact rfl) rfl ?_
    obtain rfl := endS (show some _ = some r from hp)
    exact WJ.rt 203 rfl rfl rfl (fun ids H' fr => ⟨fr.ext0, rfl⟩)
  · replace hp := (itS hp).1 rfl
    obtain ⟨t9, e9, hp⟩ := bindS hp
    refine WJ.cl 202 (R := R_4 t9) (fun hm h k => R_4.mono hm h k) rfl (fun ids H' fr => f92_ok e9) ?_
    rintro v B2 ⟨abB2, ivB2⟩ rfl
    refine ⟨_, rfl, ?_⟩
    cases t9
    · replace hp := (itS hp).2 Bool.false_ne_true
      obtain rfl := endS (show some _ = some r from hp)
      exact WJ.rt 209 rfl rfl rfl (fun ids H' fr => ⟨fr.ext0, rfl⟩)
    · replace hp := (itS hp).1 rfl
      obtain ⟨t15, e15, hp⟩ := bindS hp
      refine WJ.cv 205 (b := t15) (H0 := ⟨.nil, 0, 0⟩) rfl rfl rfl rfl rfl rfl (by rw [← endS e15]; exact rfl) rfl ?_
      obtain rfl := endS (show some _ = some r from hp)
      exact WJ.rt 203 rfl rfl rfl (fun ids H' fr => ⟨fr.ext0, rfl⟩)
/-! 91 slices.isNaN[int] -/
def f91 (x0 : Int) : Option Bool :=
  (some (x0 != x0)).bind fun t5 =>
  some t5
set_option maxRecDepth 20000 in
theorem f91_ok {H : Hp} {x0 : Int} {r : Bool} (hp : f91 x0 = some r) :
    SCall Tryd.prog 91 [.int .i64 x0] H (Ret fun v H' => Ext H H' ∧ R_4 r H.next H' v) := by
  unfold f91 at hp
  replace hp := topS hp
  refine SCall.g Tryd.func91 rfl rfl rfl rfl rfl (l := [(0, .v (.int .i64 x0))]) (fun _ => rfl) (fun B abB => ?_)
  obtain ⟨t5, e5, hp⟩ := bindS hp
  refine WJ.cv 208 (b := t5) (H0 := ⟨.nil, 0, 0⟩) rfl rfl rfl rfl rfl rfl (by rw [← endS e5]; exact rfl) rfl ?_
  obtain rfl := endS (show some _ = some r from hp)
  exact WJ.rt 202 rfl rfl rfl (fun ids H' fr => ⟨fr.ext0, rfl⟩)
/-! 89 slices.BinarySearch[[]int,int] -/
def f89_l1 (x0 : List Int) (x1 : Int) : Nat → Int → Int → Option (Int)
  | 0, _, _ => none
  | n + 1, x7, x8 =>
    if x7 < x8 then
      (rd x0 (IntKind.i64.wrap (gshr .u64 (IntKind.u64.wrap (IntKind.i64.wrap (x7 + x8))) 1))).bind fun t24 =>
      (f90 t24 x1).bind fun t27 =>
      if t27 then
        f89_l1 x0 x1 n (IntKind.i64.wrap ((IntKind.i64.wrap (gshr .u64 (IntKind.u64.wrap (IntKind.i64.wrap (x7 + x8))) 1)) + 1)) x8
      else
        f89_l1 x0 x1 n x7 (IntKind.i64.wrap (gshr .u64 (IntKind.u64.wrap (IntKind.i64.wrap (x7 + x8))) 1))
    else
      some (x7)

def f89 (k : Nat) (x0 : List Int) (x1 : Int) : Option (Int × Bool) :=
  (f89_l1 x0 x1 k 0 (x0.length : Int)).bind fun x7_16 =>
    if x7_16 < (x0.length : Int) then
      (rd x0 x7_16).bind fun t38 =>
      if t38 = x1 then
        some (x7_16, true)
      else
        (rd x0 x7_16).bind fun t45 =>
        (f91 t45).bind fun t47 =>
        if t47 then
          (f91 x1).bind fun t50 =>
          some (x7_16, t50)
        else
          some (x7_16, false)
    else
      some (x7_16, false)
set_option maxRecDepth 20000 in
theorem f89_ok {k : Nat} {H : Hp} {a_x0 : Option Addr} {c_x0 : Nat} {x0 : List Int} {x1 : Int} {r : Int × Bool} (g_x0 : SlF 0 H intC a_x0 c_x0 x0) (hp : f89 k x0 x1 = some r) :
    SCall Tryd.prog 89 [.slice a_x0 x0.length c_x0, .int .i64 x1] H (Ret fun v H' => Ext H H' ∧ R_3_4 r H.next H' v) := by
  unfold f89 at hp
  replace hp := topS hp
  refine SCall.g Tryd.func89 rfl rfl rfl rfl rfl (l := [(0, .v (.slice a_x0 x0.length c_x0)), (1, .v (.int .i64 x1))]) (fun _ => rfl) (fun B abB => ?_)
  refine WJ.adv 19 rfl ?_
  obtain ⟨K16, hK16, hp⟩ : ∃ K, K = _ ∧ Option.bind _ K = some r := ⟨_, rfl, cutS hp⟩
  refine WJ.cut 2 (α := Int × Hp) (fun y => [(0, .v (.slice a_x0 x0.length c_x0)), (1, .v (.int .i64 x1)), (6, .v (.int .i64 ((x0.length : Nat) : Int))), (7, .v (.int .i64 y.1))]) (fun y => []) (fun y => []) (fun y => y.2) (fun y => K16 (y.1) = some r) ?_ (fun j16 => ?_)
  · rintro ⟨x7_16, B3⟩ hp
    subst hK16
    show WJ _ _ _ B3 [] _ _ ⟨[(0, .v (.slice a_x0 x0.length c_x0)), (1, .v (.int .i64 x1)), (6, .v (.int .i64 ((x0.length : Nat) : Int))), (7, .v (.int .i64 x7_16))], [], true, 0⟩
    refine WJ.ci 205 hp rfl rfl rfl rfl rfl rfl rfl rfl rfl (fun hc34 hp => ?_) (fun hc34 hp => ?_)
    · obtain ⟨t38, e38, hp⟩ := bindS hp
      obtain ⟨b38, o38, cs38, i38, rfl, p38⟩ := g_x0.at e38 u31 sz3
      refine WJ.hd (v := .pointer (some ⟨b38, o38, none⟩)) 203 rfl rfl rfl rfl (fun ids H' fr => opD_indexAddr rfl (evV_eq _ _ _ _ _ rfl) (evV_eq _ _ _ _ _ rfl) (i38 _)) rfl ?_
      refine WJ.hd (v := .int .i64 t38) 200 rfl rfl rfl rfl (fun ids H' fr => opD_load rfl (evV_eq _ _ _ _ _ rfl) ((p38.mono (Nat.zero_le _) fr.ext0.abv).load (d := 0) ag3 rfl)) rfl ?_
      refine WJ.ci 201 hp rfl rfl rfl rfl rfl rfl rfl rfl rfl (fun hc41 hp => ?_) (fun hc41 hp => ?_)
      · obtain rfl := endS (show some _ = some r from hp)
        exact WJ.rt 215 rfl rfl rfl (fun ids H' fr => ⟨fr.ext0, rfl⟩)
      · obtain ⟨t45, e45, hp⟩ := bindS hp
        obtain ⟨b45, o45, cs45, i45, rfl, p45⟩ := g_x0.at e45 u31 sz3
        refine WJ.hd (v := .pointer (some ⟨b45, o45, none⟩)) 203 rfl rfl rfl rfl (fun ids H' fr => opD_indexAddr rfl (evV_eq _ _ _ _ _ rfl) (evV_eq _ _ _ _ _ rfl) (i45 _)) rfl ?_
        refine WJ.hd (v := .int .i64 t45) 200 rfl rfl rfl rfl (fun ids H' fr => opD_load rfl (evV_eq _ _ _ _ _ rfl) ((p45.mono (Nat.zero_le _) fr.ext0.abv).load (d := 0) ag3 rfl)) rfl ?_
        obtain ⟨t47, e47, hp⟩ := bindS hp
        refine WJ.cl 200 (R := R_4 t47) (fun hm h k => R_4.mono hm h k) rfl (fun ids H' fr => f91_ok e47) ?_
        rintro v B4 ⟨abB4, ivB4⟩ rfl
        refine ⟨_, rfl, ?_⟩
        cases t47
        · replace hp := (itS hp).2 Bool.false_ne_true
          obtain rfl := endS (show some _ = some r from hp)
          exact WJ.rt 209 rfl rfl rfl (fun ids H' fr => ⟨fr.ext0, rfl⟩)
        · replace hp := (itS hp).1 rfl
          obtain ⟨t50, e50, hp⟩ := bindS hp
          refine WJ.cl 202 (R := R_4 t50) (fun hm h k => R_4.mono hm h k) rfl (fun ids H' fr => f91_ok e50) ?_
          rintro v B5 ⟨abB5, ivB5⟩ rfl
          refine ⟨_, rfl, ?_⟩
          obtain rfl := endS (show some _ = some r from hp)
          exact WJ.rt 206 rfl rfl rfl (fun ids H' fr => ⟨fr.ext0, rfl⟩)
    · obtain rfl := endS (show some _ = some r from hp)
      exact WJ.rt 222 rfl rfl rfl (fun ids H' fr => ⟨fr.ext0, rfl⟩)
  · refine WJ.lp 200 (α := Nat × Int × Int × Hp) (fun y => [(0, .v (.slice a_x0 x0.length c_x0)), (1, .v (.int .i64 x1)), (6, .v (.int .i64 ((x0.length : Nat) : Int))), (7, .v (.int .i64 y.2.1)), (8, .v (.int .i64 y.2.2.1))]) (fun y => []) (fun y => []) (fun y => y.2.2.2) (fun y => y.1) (fun y => Option.bind (f89_l1 x0 x1 y.1 y.2.1 y.2.2.1) K16 = some r) (k, 0, ((x0.length : Nat) : Int), B) rfl hp (by exact ⟨rfl, rfl, rfl, rfl, rfl, trivial⟩) rfl rfl rfl ?_
    rintro ⟨n, x7, x8, B1⟩ hp ih16
    show WJ _ _ _ B1 [] _ _ ⟨[(0, .v (.slice a_x0 x0.length c_x0)), (1, .v (.int .i64 x1)), (6, .v (.int .i64 ((x0.length : Nat) : Int))), (7, .v (.int .i64 x7)), (8, .v (.int .i64 x8))], [], true, 0⟩
    replace hp : Option.bind (f89_l1 x0 x1 n x7 x8) K16 = some r := hp
    cases n with
    | zero => rw [f89_l1] at hp; exact (noS hp).elim
    | succ n =>
      rw [f89_l1] at hp
      refine WJ.ci 205 hp rfl rfl rfl rfl rfl rfl rfl rfl rfl (fun hc15 hp => ?_) (fun hc15 hp => ?_)
      · refine WJ.hd (v := .int .u64 (gshr .u64 (IntKind.u64.wrap (IntKind.i64.wrap (x7 + x8))) 1)) 210 rfl rfl rfl rfl (fun ids H' fr => opD_bin rfl (evV_eq _ _ _ _ _ rfl) (evV_eq _ _ _ _ _ rfl) (bin_shr (by decide))) rfl ?_
        obtain ⟨t24, e24, hp⟩ := bindS hp
        obtain ⟨b24, o24, cs24, i24, rfl, p24⟩ := g_x0.at e24 u31 sz3
        refine WJ.hd (v := .pointer (some ⟨b24, o24, none⟩)) 207 rfl rfl rfl rfl (fun ids H' fr => opD_indexAddr rfl (evV_eq _ _ _ _ _ rfl) (evV_eq _ _ _ _ _ rfl) (i24 _)) rfl ?_
        refine WJ.hd (v := .int .i64 t24) 200 rfl rfl rfl rfl (fun ids H' fr => opD_load rfl (evV_eq _ _ _ _ _ rfl) ((p24.mono (Nat.zero_le _) fr.ext0.abv).load (d := 0) ag3 rfl)) rfl ?_
        obtain ⟨t27, e27, hp⟩ := bindS hp
        refine WJ.cl 201 (R := R_4 t27) (fun hm h k => R_4.mono hm h k) rfl (fun ids H' fr => f90_ok e27) ?_
        rintro v B2 ⟨abB2, ivB2⟩ rfl
        refine ⟨_, rfl, ?_⟩
        cases t27
        · replace hp := (itS hp).2 Bool.false_ne_true
          exact WJ.ag 207 rfl (by exact ⟨rfl, rfl, rfl, rfl, rfl, trivial⟩) rfl rfl rfl (ih16 (n, x7, IntKind.i64.wrap (gshr .u64 (IntKind.u64.wrap (IntKind.i64.wrap (x7 + x8))) 1), B2) hp (Nat.lt_succ_self _))
        · replace hp := (itS hp).1 rfl
          exact WJ.ag 208 rfl (by exact ⟨rfl, rfl, rfl, rfl, rfl, trivial⟩) rfl rfl rfl (ih16 (n, IntKind.i64.wrap ((IntKind.i64.wrap (gshr .u64 (IntKind.u64.wrap (IntKind.i64.wrap (x7 + x8))) 1)) + 1), x8, B2) hp (Nat.lt_succ_self _))
      · exact WJ.goto 3 (j16 (x7, B1) hp) rfl rfl (by exact ⟨rfl, rfl, rfl, rfl, trivial⟩) rfl rfl rfl
/-! 84 tipstaff/shaft.nearest -/
def f84 (k : Nat) (x0 : List Int) (x1 : Int) : Option Int :=
  (f89 k x0 x1).bind fun (t10_0, t10_1) =>
  if t10_1 then
    some t10_0
  else
    if t10_0 = 0 then
      some t10_0
    else
      (rd x0 (IntKind.i64.wrap (t10_0 - 1))).bind fun t23 =>
      (rd x0 t10_0).bind fun t28 =>
      if (IntKind.i64.wrap (x1 - t23)) ≤ (IntKind.i64.wrap (t28 - x1)) then
        some (IntKind.i64.wrap (t10_0 - 1))
      else
        some t10_0
set_option maxRecDepth 20000 in
theorem f84_ok {k : Nat} {H : Hp} {a_x0 : Option Addr} {c_x0 : Nat} {x0 : List Int} {x1 : Int} {r : Int} (g_x0 : SlF 0 H intC a_x0 c_x0 x0) (hp : f84 k x0 x1 = some r) :
    SCall Tryd.prog 84 [.slice a_x0 x0.length c_x0, .int .i64 x1] H (Ret fun v H' => Ext H H' ∧ R_3 r H.next H' v) := by
  unfold f84 at hp
  replace hp := topS hp
  refine SCall.g Tryd.func84 rfl rfl rfl rfl rfl (l := [(0, .v (.slice a_x0 x0.length c_x0)), (1, .v (.int .i64 x1))]) (fun _ => rfl) (fun B abB => ?_)
  obtain ⟨⟨t10_0, t10_1⟩, e10, hp⟩ := bindS hp
  refine WJ.cl 208 (R := R_3_4 ⟨t10_0, t10_1⟩) (fun hm h k => R_3_4.mono hm h k) rfl (fun ids H' fr => f89_ok (g_x0.mono (Nat.zero_le _) fr.ext0.abv) e10) ?_
  rintro v B1 ⟨abB1, ivB1⟩ rfl
  refine ⟨_, rfl, ?_⟩
  cases t10_1
  · replace hp := (itS hp).2 Bool.false_ne_true
    refine WJ.ci 212 hp rfl rfl rfl rfl rfl rfl rfl rfl rfl (fun hc16 hp => ?_) (fun hc16 hp => ?_)
    · obtain rfl := endS (show some _ = some r from hp)
      exact WJ.rt 208 rfl rfl rfl (fun ids H' fr => ⟨fr.ext0, rfl⟩)
    · refine WJ.dr 206 rfl gmix (by kernel_rfl) (by kernel_rfl) rfl ?_
      obtain ⟨t23, e23, hp⟩ := bindS hp
      obtain ⟨b23, o23, cs23, i23, rfl, p23⟩ := g_x0.at e23 u31 sz3
      refine WD.hd (v := .pointer (some ⟨b23, o23, none⟩)) rfl rfl rfl rfl (fun _ _ _ _ _ => side_no) (fun ids H' fr => opD_indexAddr rfl (evV_eq _ _ _ _ _ rfl) (evV_eq _ _ _ _ _ rfl) (i23 _)) rfl ?_
      refine WD.hd (v := .int .i64 t23) rfl rfl rfl rfl (fun _ _ _ _ _ => side_no) (fun ids H' fr => opD_load rfl (evV_eq _ _ _ _ _ rfl) ((p23.mono (Nat.zero_le _) fr.ext0.abv).load (d := 0) ag3 rfl)) rfl ?_
      obtain ⟨t28, e28, hp⟩ := bindS hp
      obtain ⟨b28, o28, cs28, i28, rfl, p28⟩ := g_x0.at e28 u31 sz3
      refine WD.hd (v := .pointer (some ⟨b28, o28, none⟩)) rfl rfl rfl rfl (fun _ _ _ _ _ => side_no) (fun ids H' fr => opD_indexAddr rfl (evV_eq _ _ _ _ _ rfl) (evV_eq _ _ _ _ _ rfl) (i28 _)) rfl ?_
      refine WD.hd (v := .int .i64 t28) rfl rfl rfl rfl (fun _ _ _ _ _ => side_no) (fun ids H' fr => opD_load rfl (evV_eq _ _ _ _ _ rfl) ((p28.mono (Nat.zero_le _) fr.ext0.abv).load (d := 0) ag3 rfl)) rfl ?_
      refine WD.ci hp rfl rfl rfl rfl rfl rfl rfl rfl rfl (fun hc32 hp => ?_) (fun hc32 hp => ?_)
      · refine WD.done rfl ?_
        obtain rfl := endS (show some _ = some r from hp)
        exact WJ.rt 207 rfl rfl rfl (fun ids H' fr => ⟨fr.ext0, rfl⟩)
      · refine WD.done rfl ?_
        obtain rfl := endS (show some _ = some r from hp)
        exact WJ.rt 207 rfl rfl rfl (fun ids H' fr => ⟨fr.ext0, rfl⟩)
  · replace hp := (itS hp).1 rfl
    obtain rfl := endS (show some _ = some r from hp)
    exact WJ.rt 221 rfl rfl rfl (fun ids H' fr => ⟨fr.ext0, rfl⟩)
/-! 71 tipstaff/shaft.Nearest -/
def f71 (k : Nat) (x0 : List Int) (x1 : Int) : Option (Int × Int) :=
  (f83 k x0 x1).bind fun (t11_0, t11_1) =>
  if t11_1 = 0 then
    (f84 k t11_0 x1).bind fun t19 =>
    some (t19, 0)
  else
    some (0, t11_1)
set_option maxRecDepth 20000 in
theorem f71_ok {k : Nat} {H : Hp} {a_x0 : Option Addr} {c_x0 : Nat} {x0 : List Int} {x1 : Int} {r : Int × Int} (g_x0 : SlF 0 H intC a_x0 c_x0 x0) (hp : f71 k x0 x1 = some r) :
    SCall Tryd.prog 71 [.slice a_x0 x0.length c_x0, .int .i64 x1] H (Ret fun v H' => Ext H H' ∧ R_3_25 r H.next H' v) := by
  unfold f71 at hp
  replace hp := topS hp
  refine SCall.g Tryd.func71 rfl rfl rfl rfl rfl (l := [(0, .v (.slice a_x0 x0.length c_x0)), (1, .v (.int .i64 x1))]) (fun _ => rfl) (fun B abB => ?_)
  obtain ⟨⟨t11_0, t11_1⟩, e11, hp⟩ := bindS hp
  refine WJ.cl 209 (R := R_31_25 ⟨t11_0, t11_1⟩) (fun hm h k => R_31_25.mono hm h k) rfl (fun ids H' fr => f83_ok (g_x0.mono (Nat.zero_le _) fr.ext0.abv) e11) ?_
  rintro v B1 ⟨abB1, ivB1⟩ ⟨a_t11_0, c_t11_0, rfl, g_t11_0⟩
  refine ⟨_, rfl, ?_⟩
  refine WJ.cn 210 hp rfl rfl rfl rfl rfl rfl rfl rfl rfl (fun hc15 hp => ?_) (fun hc15 hp => ?_)
  · obtain rfl := endS (show some _ = some r from hp)
    exact WJ.rt 208 rfl rfl rfl (fun ids H' fr => ⟨fr.ext0, rfl⟩)
  · obtain ⟨t19, e19, hp⟩ := bindS hp
    refine WJ.cl 207 (R := R_3 t19) (fun hm h k => R_3.mono hm h k) rfl (fun ids H' fr => f84_ok (g_t11_0.mono (Nat.zero_le _) (fr.abv.le (Nat.zero_le _))) e19) ?_
    rintro v B2 ⟨abB2, ivB2⟩ rfl
    refine ⟨_, rfl, ?_⟩
    replace g_t11_0 := g_t11_0.mono (Nat.le_refl _) (abB2.le (Nat.zero_le _))
    obtain rfl := endS (show some _ = some r from hp)
    exact WJ.rt 203 rfl rfl rfl (fun ids H' fr => ⟨fr.ext0, rfl⟩)
/-! 69 tipstaff/scrub.rows$8 -/
def f69 (x0 : Int) (x1 : Shown) : Option Bool :=
  some true
set_option maxRecDepth 20000 in
theorem f69_ok {H : Hp} {x0 : Int} {x1 : Shown} {r : Bool} (hp : f69 x0 x1 = some r) :
    SCall Tryd.prog 69 [.int .i64 x0, .agg ⟨[.int .i64 x1.Domain, .bool x1.Service, .bool x1.Faulted, .bool x1.Homing, .int .i64 x1.At, .int .i64 x1.Panel]⟩] H (Ret fun v H' => Ext H H' ∧ R_4 r H.next H' v) := by
  obtain ⟨x1_Domain, x1_Service, x1_Faulted, x1_Homing, x1_At, x1_Panel⟩ := x1
  unfold f69 at hp
  replace hp := topS hp
  refine SCall.g Tryd.func69 rfl rfl rfl rfl rfl (l := [(0, .v (.int .i64 x0)), (1, .v (.agg ⟨[.int .i64 x1_Domain, .bool x1_Service, .bool x1_Faulted, .bool x1_Homing, .int .i64 x1_At, .int .i64 x1_Panel]⟩))]) (fun _ => rfl) (fun B abB => ?_)
  obtain rfl := endS (show some _ = some r from hp)
  exact WJ.rt 209 rfl rfl rfl (fun ids H' fr => ⟨fr.ext0, rfl⟩)
/-! 36 tipstaff/scrub.show -/
def f36 (k : Nat) (x0 : List Int) (x1 : Int) (x2 : Shown) : Option Sight :=
  (f63 x1 (Shown.mk x2.Domain x2.Service x2.Faulted x2.Homing x2.At x2.Panel)).bind fun t20 =>
  if t20 then
    (f62 (Shown.mk x2.Domain x2.Service x2.Faulted x2.Homing x2.At x2.Panel)).bind fun t24u4 =>
    some (Sight.mk t24u4.Floor t24u4.Panel t24u4.Out)
  else
    (f64 x1 (Shown.mk x2.Domain x2.Service x2.Faulted x2.Homing x2.At x2.Panel)).bind fun t20u1 =>
    if t20u1 then
      (f65 (Shown.mk x2.Domain x2.Service x2.Faulted x2.Homing x2.At x2.Panel)).bind fun t24u3 =>
      some (Sight.mk t24u3.Floor t24u3.Panel t24u3.Out)
    else
      (f66 x1 (Shown.mk x2.Domain x2.Service x2.Faulted x2.Homing x2.At x2.Panel)).bind fun t20u2 =>
      if t20u2 then
        (f67 (Shown.mk x2.Domain x2.Service x2.Faulted x2.Homing x2.At x2.Panel)).bind fun t24u2 =>
        some (Sight.mk t24u2.Floor t24u2.Panel t24u2.Out)
      else
        (f68 x1 (Shown.mk x2.Domain x2.Service x2.Faulted x2.Homing x2.At x2.Panel)).bind fun t20u3 =>
        if t20u3 then
          (f62 (Shown.mk x2.Domain x2.Service x2.Faulted x2.Homing x2.At x2.Panel)).bind fun t24u1 =>
          some (Sight.mk t24u1.Floor t24u1.Panel t24u1.Out)
        else
          (f69 x1 (Shown.mk x2.Domain x2.Service x2.Faulted x2.Homing x2.At x2.Panel)).bind fun t20u4 =>
          if t20u4 then
            (f71 k x0 x2.At).bind fun (t10u2_0, t10u2_1) =>
            some (Sight.mk t10u2_0 x2.Panel false)
          else
            some (Sight.mk 0 0 false)
set_option maxHeartbeats 3200000 in
set_option maxRecDepth 20000 in
theorem f36_ok {k : Nat} {H : Hp} {a_x0 : Option Addr} {c_x0 : Nat} {x0 : List Int} {x1 : Int} {x2 : Shown} {r : Sight} (g_x0 : SlF 0 H intC a_x0 c_x0 x0) (hp : f36 k x0 x1 x2 = some r) :
    SCall Tryd.prog 36 [.slice a_x0 x0.length c_x0, .int .i64 x1, .agg ⟨[.int .i64 x2.Domain, .bool x2.Service, .bool x2.Faulted, .bool x2.Homing, .int .i64 x2.At, .int .i64 x2.Panel]⟩] H (Ret fun v H' => Ext H H' ∧ R_23 r H.next H' v) := by
  obtain ⟨x2_Domain, x2_Service, x2_Faulted, x2_Homing, x2_At, x2_Panel⟩ := x2
  unfold f36 at hp
  replace hp := topS hp
  refine SCall.g Tryd.func36 rfl rfl rfl rfl rfl (l := [(0, .v (.slice a_x0 x0.length c_x0)), (1, .v (.int .i64 x1)), (2, .v (.agg ⟨[.int .i64 x2_Domain, .bool x2_Service, .bool x2_Faulted, .bool x2_Homing, .int .i64 x2_At, .int .i64 x2_Panel]⟩))]) (fun _ => rfl) (fun B abB => ?_)
  have gbg_x0 := g_x0.mono (Nat.le_refl _) abB
  refine WJ.adv 3 rfl ?_
  refine WJ.liftS (loc := []) rfl rfl (fun bv0 => ?_)
  refine WJ.adv 1 rfl ?_
  refine WJ.liftS (loc := []) rfl rfl (fun bv1 => ?_)
  refine WJ.inl 205 rfl rfl Tryd.func45 rfl rfl rfl rfl rfl (lc := [(0, .v (.slice a_x0 x0.length c_x0))]) (fun _ => rfl) ?_
  refine WJ.adv 3 rfl ?_
  refine WJ.liftS (loc := []) rfl rfl (fun bv2 => ?_)
  refine WJ.adv 15 rfl ?_
  refine WJ.nf ?_
  refine WJ.bs (cs := [.func (.func 63) ⟨[]⟩ ⟨[]⟩, .func (.func 62) ⟨[]⟩ ⟨[]⟩, .func (.func 64) ⟨[]⟩ ⟨[]⟩, .func (.func 65) ⟨[]⟩ ⟨[]⟩, .func (.func 66) ⟨[]⟩ ⟨[]⟩, .func (.func 67) ⟨[]⟩ ⟨[]⟩, .func (.func 68) ⟨[]⟩ ⟨[]⟩, .func (.func 62) ⟨[]⟩ ⟨[]⟩, .func (.func 69) ⟨[]⟩ ⟨[]⟩, .func (.func 70) ⟨[]⟩ ⟨[.pointer (some ⟨bv2, 0, none⟩)]⟩]) (sz := 2) (pl := [(0, .agg ⟨[.func (.func 63) ⟨[]⟩ ⟨[]⟩, .func (.func 62) ⟨[]⟩ ⟨[]⟩]⟩), (1, .agg ⟨[.func (.func 64) ⟨[]⟩ ⟨[]⟩, .func (.func 65) ⟨[]⟩ ⟨[]⟩]⟩), (2, .agg ⟨[.func (.func 66) ⟨[]⟩ ⟨[]⟩, .func (.func 67) ⟨[]⟩ ⟨[]⟩]⟩), (3, .agg ⟨[.func (.func 68) ⟨[]⟩ ⟨[]⟩, .func (.func 62) ⟨[]⟩ ⟨[]⟩]⟩), (4, .agg ⟨[.func (.func 69) ⟨[]⟩ ⟨[]⟩, .func (.func 70) ⟨[]⟩ ⟨[.pointer (some ⟨bv2, 0, none⟩)]⟩]⟩)]) 201 rfl rfl rfl rfl rfl (fun _ _ => rfl) (fun _ => by rfl) rfl rfl ?_
  intro b12
  refine ⟨_, rfl, ?_⟩
  refine WJ.inlR 202 rfl rfl rfl rfl ?_
  refine WJ.un 204 rfl ?_
  refine WJ.re (I := [(1, .v (.int .i64 x1)), (5, .v (.pointer (some ⟨bv0, 0, none⟩))), (6, .v (.pointer (some ⟨bv1, 0, none⟩))), (10, .v (.slice (some ⟨b12, 0, none⟩) 5 5)), (11, .v (.int .i64 5)), (12, .v (.int .i64 0))]) (O := [⟨some ⟨bv0, 0, none⟩, 6, 1, [.int .i64 x2_Domain, .bool x2_Service, .bool x2_Faulted, .bool x2_Homing, .int .i64 x2_At, .int .i64 x2_Panel]⟩, ⟨some ⟨bv1, 0, none⟩, 3, 1, [.int .i64 0, .int .i64 0, .bool false]⟩, ⟨some ⟨bv2, 0, none⟩, 1, 1, [.slice a_x0 x0.length c_x0]⟩, ⟨some ⟨b12, 0, none⟩, 5, 2, [.func (.func 63) ⟨[]⟩ ⟨[]⟩, .func (.func 62) ⟨[]⟩ ⟨[]⟩, .func (.func 64) ⟨[]⟩ ⟨[]⟩, .func (.func 65) ⟨[]⟩ ⟨[]⟩, .func (.func 66) ⟨[]⟩ ⟨[]⟩, .func (.func 67) ⟨[]⟩ ⟨[]⟩, .func (.func 68) ⟨[]⟩ ⟨[]⟩, .func (.func 62) ⟨[]⟩ ⟨[]⟩, .func (.func 69) ⟨[]⟩ ⟨[]⟩, .func (.func 70) ⟨[]⟩ ⟨[.pointer (some ⟨bv2, 0, none⟩)]⟩]⟩]) ?_ (by exact ⟨rfl, rfl, rfl, rfl, rfl, rfl, trivial⟩) rfl
  refine WJ.cv 202 (b := true) (H0 := ⟨.nil, 0, 0⟩) rfl rfl rfl rfl rfl rfl rfl rfl ?_
  refine WJ.hd (v := .pointer (some ⟨b12, 0, none⟩)) 208 rfl rfl rfl rfl (fun ids H' fr => opD_indexAddr rfl (evV_eq _ _ _ _ _ rfl) (evV_eq _ _ _ _ _ rfl) (idxLit (i := 0) u76 sz81 rfl rfl)) rfl ?_
  refine WJ.hd (v := .agg ⟨[.func (.func 63) ⟨[]⟩ ⟨[]⟩, .func (.func 62) ⟨[]⟩ ⟨[]⟩]⟩) 200 rfl rfl rfl rfl (fun ids H' fr => opD_load rfl (evV_eq _ _ _ _ _ rfl) (fr.ldOwn (j := 3) rfl rfl)) rfl ?_
  refine WJ.adv 1 rfl ?_
  refine WJ.liftS (loc := []) rfl rfl (fun bv4 => ?_)
  refine WJ.sb 200 (j := 4) rfl rfl rfl rfl rfl rfl rfl rfl rfl rfl ?_
  refine WJ.hd (v := .func (.func 63) ⟨[]⟩ ⟨[]⟩) 204 rfl rfl rfl rfl (fun ids H' fr => opD_load rfl (evV_eq _ _ _ _ _ rfl) (fr.ldOwn (j := 4) rfl rfl)) rfl ?_
  refine WJ.hd (v := .agg ⟨[.int .i64 x2_Domain, .bool x2_Service, .bool x2_Faulted, .bool x2_Homing, .int .i64 x2_At, .int .i64 x2_Panel]⟩) 201 rfl rfl rfl rfl (fun ids H' fr => opD_load rfl (evV_eq _ _ _ _ _ rfl) (fr.ldOwn (j := 0) rfl rfl)) rfl ?_
  obtain ⟨t20, e20, hp⟩ := bindS hp
  refine WJ.cl 200 (R := R_4 t20) (fun hm h k => R_4.mono hm h k) rfl (fun ids H' fr => f63_ok (x1 := (Shown.mk x2_Domain x2_Service x2_Faulted x2_Homing x2_At x2_Panel)) e20) ?_
  rintro v B1 ⟨abB1, ivB1⟩ rfl
  refine ⟨_, rfl, ?_⟩
  replace gbg_x0 := gbg_x0.mono (Nat.le_refl _) (abB1.le (Nat.zero_le _))
  cases t20
  · replace hp := (itS hp).2 Bool.false_ne_true
    refine WJ.ro 208 rfl ?_
    refine WJ.re (I := [(1, .v (.int .i64 x1)), (5, .v (.pointer (some ⟨bv0, 0, none⟩))), (6, .v (.pointer (some ⟨bv1, 0, none⟩))), (10, .v (.slice (some ⟨b12, 0, none⟩) 5 5)), (11, .v (.int .i64 5)), (12, .v (.int .i64 1))]) (O := [⟨some ⟨bv0, 0, none⟩, 6, 1, [.int .i64 x2_Domain, .bool x2_Service, .bool x2_Faulted, .bool x2_Homing, .int .i64 x2_At, .int .i64 x2_Panel]⟩, ⟨some ⟨bv1, 0, none⟩, 3, 1, [.int .i64 0, .int .i64 0, .bool false]⟩, ⟨some ⟨bv2, 0, none⟩, 1, 1, [.slice a_x0 x0.length c_x0]⟩, ⟨some ⟨b12, 0, none⟩, 5, 2, [.func (.func 63) ⟨[]⟩ ⟨[]⟩, .func (.func 62) ⟨[]⟩ ⟨[]⟩, .func (.func 64) ⟨[]⟩ ⟨[]⟩, .func (.func 65) ⟨[]⟩ ⟨[]⟩, .func (.func 66) ⟨[]⟩ ⟨[]⟩, .func (.func 67) ⟨[]⟩ ⟨[]⟩, .func (.func 68) ⟨[]⟩ ⟨[]⟩, .func (.func 62) ⟨[]⟩ ⟨[]⟩, .func (.func 69) ⟨[]⟩ ⟨[]⟩, .func (.func 70) ⟨[]⟩ ⟨[.pointer (some ⟨bv2, 0, none⟩)]⟩]⟩, ⟨some ⟨bv4, 0, none⟩, 2, 1, [.func (.func 63) ⟨[]⟩ ⟨[]⟩, .func (.func 62) ⟨[]⟩ ⟨[]⟩]⟩]) ?_ (by exact ⟨rfl, rfl, rfl, rfl, rfl, rfl, trivial⟩) rfl
    refine WJ.cv 202 (b := true) (H0 := ⟨.nil, 0, 0⟩) rfl rfl rfl rfl rfl rfl rfl rfl ?_
    refine WJ.hd (v := .pointer (some ⟨b12, 2, none⟩)) 208 rfl rfl rfl rfl (fun ids H' fr => opD_indexAddr rfl (evV_eq _ _ _ _ _ rfl) (evV_eq _ _ _ _ _ rfl) (idxLit (i := 1) u76 sz81 rfl rfl)) rfl ?_
    refine WJ.hd (v := .agg ⟨[.func (.func 64) ⟨[]⟩ ⟨[]⟩, .func (.func 65) ⟨[]⟩ ⟨[]⟩]⟩) 200 rfl rfl rfl rfl (fun ids H' fr => opD_load rfl (evV_eq _ _ _ _ _ rfl) (fr.ldOwn (j := 3) rfl rfl)) rfl ?_
    refine WJ.adv 1 rfl ?_
    refine WJ.liftS (loc := []) rfl rfl (fun bv5 => ?_)
    refine WJ.sb 200 (j := 5) rfl rfl rfl rfl rfl rfl rfl rfl rfl rfl ?_
    refine WJ.hd (v := .func (.func 64) ⟨[]⟩ ⟨[]⟩) 204 rfl rfl rfl rfl (fun ids H' fr => opD_load rfl (evV_eq _ _ _ _ _ rfl) (fr.ldOwn (j := 5) rfl rfl)) rfl ?_
    refine WJ.hd (v := .agg ⟨[.int .i64 x2_Domain, .bool x2_Service, .bool x2_Faulted, .bool x2_Homing, .int .i64 x2_At, .int .i64 x2_Panel]⟩) 201 rfl rfl rfl rfl (fun ids H' fr => opD_load rfl (evV_eq _ _ _ _ _ rfl) (fr.ldOwn (j := 0) rfl rfl)) rfl ?_
    obtain ⟨t20u1, e20u1, hp⟩ := bindS hp
    refine WJ.cl 200 (R := R_4 t20u1) (fun hm h k => R_4.mono hm h k) rfl (fun ids H' fr => f64_ok (x1 := (Shown.mk x2_Domain x2_Service x2_Faulted x2_Homing x2_At x2_Panel)) e20u1) ?_
    rintro v B2 ⟨abB2, ivB2⟩ rfl
    refine ⟨_, rfl, ?_⟩
    replace gbg_x0 := gbg_x0.mono (Nat.le_refl _) (abB2.le (Nat.zero_le _))
    cases t20u1
    · replace hp := (itS hp).2 Bool.false_ne_true
      refine WJ.ro 208 rfl ?_
      refine WJ.re (I := [(1, .v (.int .i64 x1)), (5, .v (.pointer (some ⟨bv0, 0, none⟩))), (6, .v (.pointer (some ⟨bv1, 0, none⟩))), (10, .v (.slice (some ⟨b12, 0, none⟩) 5 5)), (11, .v (.int .i64 5)), (12, .v (.int .i64 2))]) (O := [⟨some ⟨bv0, 0, none⟩, 6, 1, [.int .i64 x2_Domain, .bool x2_Service, .bool x2_Faulted, .bool x2_Homing, .int .i64 x2_At, .int .i64 x2_Panel]⟩, ⟨some ⟨bv1, 0, none⟩, 3, 1, [.int .i64 0, .int .i64 0, .bool false]⟩, ⟨some ⟨bv2, 0, none⟩, 1, 1, [.slice a_x0 x0.length c_x0]⟩, ⟨some ⟨b12, 0, none⟩, 5, 2, [.func (.func 63) ⟨[]⟩ ⟨[]⟩, .func (.func 62) ⟨[]⟩ ⟨[]⟩, .func (.func 64) ⟨[]⟩ ⟨[]⟩, .func (.func 65) ⟨[]⟩ ⟨[]⟩, .func (.func 66) ⟨[]⟩ ⟨[]⟩, .func (.func 67) ⟨[]⟩ ⟨[]⟩, .func (.func 68) ⟨[]⟩ ⟨[]⟩, .func (.func 62) ⟨[]⟩ ⟨[]⟩, .func (.func 69) ⟨[]⟩ ⟨[]⟩, .func (.func 70) ⟨[]⟩ ⟨[.pointer (some ⟨bv2, 0, none⟩)]⟩]⟩, ⟨some ⟨bv4, 0, none⟩, 2, 1, [.func (.func 63) ⟨[]⟩ ⟨[]⟩, .func (.func 62) ⟨[]⟩ ⟨[]⟩]⟩, ⟨some ⟨bv5, 0, none⟩, 2, 1, [.func (.func 64) ⟨[]⟩ ⟨[]⟩, .func (.func 65) ⟨[]⟩ ⟨[]⟩]⟩]) ?_ (by exact ⟨rfl, rfl, rfl, rfl, rfl, rfl, trivial⟩) rfl
      refine WJ.cv 202 (b := true) (H0 := ⟨.nil, 0, 0⟩) rfl rfl rfl rfl rfl rfl rfl rfl ?_
      refine WJ.hd (v := .pointer (some ⟨b12, 4, none⟩)) 208 rfl rfl rfl rfl (fun ids H' fr => opD_indexAddr rfl (evV_eq _ _ _ _ _ rfl) (evV_eq _ _ _ _ _ rfl) (idxLit (i := 2) u76 sz81 rfl rfl)) rfl ?_
      refine WJ.hd (v := .agg ⟨[.func (.func 66) ⟨[]⟩ ⟨[]⟩, .func (.func 67) ⟨[]⟩ ⟨[]⟩]⟩) 200 rfl rfl rfl rfl (fun ids H' fr => opD_load rfl (evV_eq _ _ _ _ _ rfl) (fr.ldOwn (j := 3) rfl rfl)) rfl ?_
      refine WJ.adv 1 rfl ?_
      refine WJ.liftS (loc := []) rfl rfl (fun bv6 => ?_)
      refine WJ.sb 200 (j := 6) rfl rfl rfl rfl rfl rfl rfl rfl rfl rfl ?_
      refine WJ.hd (v := .func (.func 66) ⟨[]⟩ ⟨[]⟩) 204 rfl rfl rfl rfl (fun ids H' fr => opD_load rfl (evV_eq _ _ _ _ _ rfl) (fr.ldOwn (j := 6) rfl rfl)) rfl ?_
      refine WJ.hd (v := .agg ⟨[.int .i64 x2_Domain, .bool x2_Service, .bool x2_Faulted, .bool x2_Homing, .int .i64 x2_At, .int .i64 x2_Panel]⟩) 201 rfl rfl rfl rfl (fun ids H' fr => opD_load rfl (evV_eq _ _ _ _ _ rfl) (fr.ldOwn (j := 0) rfl rfl)) rfl ?_
      obtain ⟨t20u2, e20u2, hp⟩ := bindS hp
      refine WJ.cl 200 (R := R_4 t20u2) (fun hm h k => R_4.mono hm h k) rfl (fun ids H' fr => f66_ok (x1 := (Shown.mk x2_Domain x2_Service x2_Faulted x2_Homing x2_At x2_Panel)) e20u2) ?_
      rintro v B3 ⟨abB3, ivB3⟩ rfl
      refine ⟨_, rfl, ?_⟩
      replace gbg_x0 := gbg_x0.mono (Nat.le_refl _) (abB3.le (Nat.zero_le _))
      cases t20u2
      · replace hp := (itS hp).2 Bool.false_ne_true
        refine WJ.ro 208 rfl ?_
        refine WJ.re (I := [(1, .v (.int .i64 x1)), (5, .v (.pointer (some ⟨bv0, 0, none⟩))), (6, .v (.pointer (some ⟨bv1, 0, none⟩))), (10, .v (.slice (some ⟨b12, 0, none⟩) 5 5)), (11, .v (.int .i64 5)), (12, .v (.int .i64 3))]) (O := [⟨some ⟨bv0, 0, none⟩, 6, 1, [.int .i64 x2_Domain, .bool x2_Service, .bool x2_Faulted, .bool x2_Homing, .int .i64 x2_At, .int .i64 x2_Panel]⟩, ⟨some ⟨bv1, 0, none⟩, 3, 1, [.int .i64 0, .int .i64 0, .bool false]⟩, ⟨some ⟨bv2, 0, none⟩, 1, 1, [.slice a_x0 x0.length c_x0]⟩, ⟨some ⟨b12, 0, none⟩, 5, 2, [.func (.func 63) ⟨[]⟩ ⟨[]⟩, .func (.func 62) ⟨[]⟩ ⟨[]⟩, .func (.func 64) ⟨[]⟩ ⟨[]⟩, .func (.func 65) ⟨[]⟩ ⟨[]⟩, .func (.func 66) ⟨[]⟩ ⟨[]⟩, .func (.func 67) ⟨[]⟩ ⟨[]⟩, .func (.func 68) ⟨[]⟩ ⟨[]⟩, .func (.func 62) ⟨[]⟩ ⟨[]⟩, .func (.func 69) ⟨[]⟩ ⟨[]⟩, .func (.func 70) ⟨[]⟩ ⟨[.pointer (some ⟨bv2, 0, none⟩)]⟩]⟩, ⟨some ⟨bv4, 0, none⟩, 2, 1, [.func (.func 63) ⟨[]⟩ ⟨[]⟩, .func (.func 62) ⟨[]⟩ ⟨[]⟩]⟩, ⟨some ⟨bv5, 0, none⟩, 2, 1, [.func (.func 64) ⟨[]⟩ ⟨[]⟩, .func (.func 65) ⟨[]⟩ ⟨[]⟩]⟩, ⟨some ⟨bv6, 0, none⟩, 2, 1, [.func (.func 66) ⟨[]⟩ ⟨[]⟩, .func (.func 67) ⟨[]⟩ ⟨[]⟩]⟩]) ?_ (by exact ⟨rfl, rfl, rfl, rfl, rfl, rfl, trivial⟩) rfl
        refine WJ.cv 202 (b := true) (H0 := ⟨.nil, 0, 0⟩) rfl rfl rfl rfl rfl rfl rfl rfl ?_
        refine WJ.hd (v := .pointer (some ⟨b12, 6, none⟩)) 208 rfl rfl rfl rfl (fun ids H' fr => opD_indexAddr rfl (evV_eq _ _ _ _ _ rfl) (evV_eq _ _ _ _ _ rfl) (idxLit (i := 3) u76 sz81 rfl rfl)) rfl ?_
        refine WJ.hd (v := .agg ⟨[.func (.func 68) ⟨[]⟩ ⟨[]⟩, .func (.func 62) ⟨[]⟩ ⟨[]⟩]⟩) 200 rfl rfl rfl rfl (fun ids H' fr => opD_load rfl (evV_eq _ _ _ _ _ rfl) (fr.ldOwn (j := 3) rfl rfl)) rfl ?_
        refine WJ.adv 1 rfl ?_
        refine WJ.liftS (loc := []) rfl rfl (fun bv7 => ?_)
        refine WJ.sb 200 (j := 7) rfl rfl rfl rfl rfl rfl rfl rfl rfl rfl ?_
        refine WJ.hd (v := .func (.func 68) ⟨[]⟩ ⟨[]⟩) 204 rfl rfl rfl rfl (fun ids H' fr => opD_load rfl (evV_eq _ _ _ _ _ rfl) (fr.ldOwn (j := 7) rfl rfl)) rfl ?_
        refine WJ.hd (v := .agg ⟨[.int .i64 x2_Domain, .bool x2_Service, .bool x2_Faulted, .bool x2_Homing, .int .i64 x2_At, .int .i64 x2_Panel]⟩) 201 rfl rfl rfl rfl (fun ids H' fr => opD_load rfl (evV_eq _ _ _ _ _ rfl) (fr.ldOwn (j := 0) rfl rfl)) rfl ?_
        obtain ⟨t20u3, e20u3, hp⟩ := bindS hp
        refine WJ.cl 200 (R := R_4 t20u3) (fun hm h k => R_4.mono hm h k) rfl (fun ids H' fr => f68_ok (x1 := (Shown.mk x2_Domain x2_Service x2_Faulted x2_Homing x2_At x2_Panel)) e20u3) ?_
        rintro v B4 ⟨abB4, ivB4⟩ rfl
        refine ⟨_, rfl, ?_⟩
        replace gbg_x0 := gbg_x0.mono (Nat.le_refl _) (abB4.le (Nat.zero_le _))
        cases t20u3
        · replace hp := (itS hp).2 Bool.false_ne_true
          refine WJ.ro 208 rfl ?_
          refine WJ.re (I := [(1, .v (.int .i64 x1)), (5, .v (.pointer (some ⟨bv0, 0, none⟩))), (6, .v (.pointer (some ⟨bv1, 0, none⟩))), (10, .v (.slice (some ⟨b12, 0, none⟩) 5 5)), (11, .v (.int .i64 5)), (12, .v (.int .i64 4))]) (O := [⟨some ⟨bv0, 0, none⟩, 6, 1, [.int .i64 x2_Domain, .bool x2_Service, .bool x2_Faulted, .bool x2_Homing, .int .i64 x2_At, .int .i64 x2_Panel]⟩, ⟨some ⟨bv1, 0, none⟩, 3, 1, [.int .i64 0, .int .i64 0, .bool false]⟩, ⟨some ⟨bv2, 0, none⟩, 1, 1, [.slice a_x0 x0.length c_x0]⟩, ⟨some ⟨b12, 0, none⟩, 5, 2, [.func (.func 63) ⟨[]⟩ ⟨[]⟩, .func (.func 62) ⟨[]⟩ ⟨[]⟩, .func (.func 64) ⟨[]⟩ ⟨[]⟩, .func (.func 65) ⟨[]⟩ ⟨[]⟩, .func (.func 66) ⟨[]⟩ ⟨[]⟩, .func (.func 67) ⟨[]⟩ ⟨[]⟩, .func (.func 68) ⟨[]⟩ ⟨[]⟩, .func (.func 62) ⟨[]⟩ ⟨[]⟩, .func (.func 69) ⟨[]⟩ ⟨[]⟩, .func (.func 70) ⟨[]⟩ ⟨[.pointer (some ⟨bv2, 0, none⟩)]⟩]⟩, ⟨some ⟨bv4, 0, none⟩, 2, 1, [.func (.func 63) ⟨[]⟩ ⟨[]⟩, .func (.func 62) ⟨[]⟩ ⟨[]⟩]⟩, ⟨some ⟨bv5, 0, none⟩, 2, 1, [.func (.func 64) ⟨[]⟩ ⟨[]⟩, .func (.func 65) ⟨[]⟩ ⟨[]⟩]⟩, ⟨some ⟨bv6, 0, none⟩, 2, 1, [.func (.func 66) ⟨[]⟩ ⟨[]⟩, .func (.func 67) ⟨[]⟩ ⟨[]⟩]⟩, ⟨some ⟨bv7, 0, none⟩, 2, 1, [.func (.func 68) ⟨[]⟩ ⟨[]⟩, .func (.func 62) ⟨[]⟩ ⟨[]⟩]⟩]) ?_ (by exact ⟨rfl, rfl, rfl, rfl, rfl, rfl, trivial⟩) rfl
          refine WJ.cv 202 (b := true) (H0 := ⟨.nil, 0, 0⟩) rfl rfl rfl rfl rfl rfl rfl rfl ?_
          refine WJ.hd (v := .pointer (some ⟨b12, 8, none⟩)) 208 rfl rfl rfl rfl (fun ids H' fr => opD_indexAddr rfl (evV_eq _ _ _ _ _ rfl) (evV_eq _ _ _ _ _ rfl) (idxLit (i := 4) u76 sz81 rfl rfl)) rfl ?_
          refine WJ.hd (v := .agg ⟨[.func (.func 69) ⟨[]⟩ ⟨[]⟩, .func (.func 70) ⟨[]⟩ ⟨[.pointer (some ⟨bv2, 0, none⟩)]⟩]⟩) 200 rfl rfl rfl rfl (fun ids H' fr => opD_load rfl (evV_eq _ _ _ _ _ rfl) (fr.ldOwn (j := 3) rfl rfl)) rfl ?_
          refine WJ.adv 1 rfl ?_
          refine WJ.liftS (loc := []) rfl rfl (fun bv8 => ?_)
          refine WJ.sb 200 (j := 8) rfl rfl rfl rfl rfl rfl rfl rfl rfl rfl ?_
          refine WJ.hd (v := .func (.func 69) ⟨[]⟩ ⟨[]⟩) 204 rfl rfl rfl rfl (fun ids H' fr => opD_load rfl (evV_eq _ _ _ _ _ rfl) (fr.ldOwn (j := 8) rfl rfl)) rfl ?_
          refine WJ.hd (v := .agg ⟨[.int .i64 x2_Domain, .bool x2_Service, .bool x2_Faulted, .bool x2_Homing, .int .i64 x2_At, .int .i64 x2_Panel]⟩) 201 rfl rfl rfl rfl (fun ids H' fr => opD_load rfl (evV_eq _ _ _ _ _ rfl) (fr.ldOwn (j := 0) rfl rfl)) rfl ?_
          obtain ⟨t20u4, e20u4, hp⟩ := bindS hp
          refine WJ.cl 200 (R := R_4 t20u4) (fun hm h k => R_4.mono hm h k) rfl (fun ids H' fr => f69_ok (x1 := (Shown.mk x2_Domain x2_Service x2_Faulted x2_Homing x2_At x2_Panel)) e20u4) ?_
          rintro v B5 ⟨abB5, ivB5⟩ rfl
          refine ⟨_, rfl, ?_⟩
          replace gbg_x0 := gbg_x0.mono (Nat.le_refl _) (abB5.le (Nat.zero_le _))
          cases t20u4
          · replace hp := (itS hp).2 Bool.false_ne_true
            refine WJ.ro 208 rfl ?_
            refine WJ.re (I := [(1, .v (.int .i64 x1)), (5, .v (.pointer (some ⟨bv0, 0, none⟩))), (6, .v (.pointer (some ⟨bv1, 0, none⟩))), (10, .v (.slice (some ⟨b12, 0, none⟩) 5 5)), (11, .v (.int .i64 5)), (12, .v (.int .i64 5))]) (O := [⟨some ⟨bv0, 0, none⟩, 6, 1, [.int .i64 x2_Domain, .bool x2_Service, .bool x2_Faulted, .bool x2_Homing, .int .i64 x2_At, .int .i64 x2_Panel]⟩, ⟨some ⟨bv1, 0, none⟩, 3, 1, [.int .i64 0, .int .i64 0, .bool false]⟩, ⟨some ⟨bv2, 0, none⟩, 1, 1, [.slice a_x0 x0.length c_x0]⟩, ⟨some ⟨b12, 0, none⟩, 5, 2, [.func (.func 63) ⟨[]⟩ ⟨[]⟩, .func (.func 62) ⟨[]⟩ ⟨[]⟩, .func (.func 64) ⟨[]⟩ ⟨[]⟩, .func (.func 65) ⟨[]⟩ ⟨[]⟩, .func (.func 66) ⟨[]⟩ ⟨[]⟩, .func (.func 67) ⟨[]⟩ ⟨[]⟩, .func (.func 68) ⟨[]⟩ ⟨[]⟩, .func (.func 62) ⟨[]⟩ ⟨[]⟩, .func (.func 69) ⟨[]⟩ ⟨[]⟩, .func (.func 70) ⟨[]⟩ ⟨[.pointer (some ⟨bv2, 0, none⟩)]⟩]⟩, ⟨some ⟨bv4, 0, none⟩, 2, 1, [.func (.func 63) ⟨[]⟩ ⟨[]⟩, .func (.func 62) ⟨[]⟩ ⟨[]⟩]⟩, ⟨some ⟨bv5, 0, none⟩, 2, 1, [.func (.func 64) ⟨[]⟩ ⟨[]⟩, .func (.func 65) ⟨[]⟩ ⟨[]⟩]⟩, ⟨some ⟨bv6, 0, none⟩, 2, 1, [.func (.func 66) ⟨[]⟩ ⟨[]⟩, .func (.func 67) ⟨[]⟩ ⟨[]⟩]⟩, ⟨some ⟨bv7, 0, none⟩, 2, 1, [.func (.func 68) ⟨[]⟩ ⟨[]⟩, .func (.func 62) ⟨[]⟩ ⟨[]⟩]⟩, ⟨some ⟨bv8, 0, none⟩, 2, 1, [.func (.func 69) ⟨[]⟩ ⟨[]⟩, .func (.func 70) ⟨[]⟩ ⟨[.pointer (some ⟨bv2, 0, none⟩)]⟩]⟩]) ?_ (by exact ⟨rfl, rfl, rfl, rfl, rfl, rfl, trivial⟩) rfl
            refine WJ.cv 202 (b := false) (H0 := ⟨.nil, 0, 0⟩) rfl rfl rfl rfl rfl rfl rfl rfl ?_
            refine WJ.sb 207 (j := 1) rfl rfl rfl rfl rfl rfl rfl rfl rfl rfl ?_
            obtain rfl := endS (show some _ = some r from hp)
            exact WJ.rto 201 rfl (.cell 1 rfl rfl rfl .nil) rfl (fun ids H' fr => ⟨fr.ext0, rfl⟩)
          · replace hp := (itS hp).1 rfl
            refine WJ.hd (v := .func (.func 70) ⟨[]⟩ ⟨[.pointer (some ⟨bv2, 0, none⟩)]⟩) 205 rfl rfl rfl rfl (fun ids H' fr => opD_load rfl (evV_eq _ _ _ _ _ rfl) (fr.ldOwn (j := 8) rfl rfl)) rfl ?_
            refine WJ.hd (v := .agg ⟨[.int .i64 x2_Domain, .bool x2_Service, .bool x2_Faulted, .bool x2_Homing, .int .i64 x2_At, .int .i64 x2_Panel]⟩) 200 rfl rfl rfl rfl (fun ids H' fr => opD_load rfl (evV_eq _ _ _ _ _ rfl) (fr.ldOwn (j := 0) rfl rfl)) rfl ?_
            refine WJ.inl 200 rfl rfl Tryd.func70 rfl rfl rfl rfl rfl (lc := [(0, .v (.agg ⟨[.int .i64 x2_Domain, .bool x2_Service, .bool x2_Faulted, .bool x2_Homing, .int .i64 x2_At, .int .i64 x2_Panel]⟩)), (1, .v (.pointer (some ⟨bv2, 0, none⟩)))]) (fun _ => rfl) ?_
            refine WJ.adv 3 rfl ?_
            refine WJ.liftS (loc := []) rfl rfl (fun bv9 => ?_)
            refine WJ.adv 1 rfl ?_
            refine WJ.liftS (loc := []) rfl rfl (fun bv10 => ?_)
            refine WJ.hd (v := .slice a_x0 x0.length c_x0) 203 rfl rfl rfl rfl (fun ids H' fr => opD_load rfl (evV_eq _ _ _ _ _ rfl) (fr.ldOwn (j := 2) rfl rfl)) rfl ?_
            refine WJ.hd (v := .int .i64 x2_At) 201 rfl rfl rfl rfl (fun ids H' fr => opD_load rfl (evV_eq _ _ _ _ _ rfl) (fr.ldOwn (j := 9) rfl rfl)) rfl ?_
            obtain ⟨⟨t10u2_0, t10u2_1⟩, e10u2, hp⟩ := bindS hp
            refine WJ.cl 200 (R := R_3_25 ⟨t10u2_0, t10u2_1⟩) (fun hm h k => R_3_25.mono hm h k) rfl (fun ids H' fr => f71_ok (gbg_x0.mono (Nat.zero_le _) (fr.abv.le (Nat.zero_le _))) e10u2) ?_
            rintro v B6 ⟨abB6, ivB6⟩ rfl
            refine ⟨_, rfl, ?_⟩
            replace gbg_x0 := gbg_x0.mono (Nat.le_refl _) (abB6.le (Nat.zero_le _))
            refine WJ.hd (v := .int .i64 x2_Panel) 210 rfl rfl rfl rfl (fun ids H' fr => opD_load rfl (evV_eq _ _ _ _ _ rfl) (fr.ldOwn (j := 9) rfl rfl)) rfl ?_
            refine WJ.sb 201 (j := 10) rfl rfl rfl rfl rfl rfl rfl rfl rfl rfl ?_
            refine WJ.inlRo 201 rfl (.cell 10 rfl rfl rfl .nil) rfl rfl ?_
            refine WJ.sb 200 (j := 1) rfl rfl rfl rfl rfl rfl rfl rfl rfl rfl ?_
            obtain rfl := endS (show some _ = some r from hp)
            exact WJ.rto 201 rfl (.cell 1 rfl rfl rfl .nil) rfl (fun ids H' fr => ⟨fr.ext0, rfl⟩)
        · replace hp := (itS hp).1 rfl
          refine WJ.hd (v := .func (.func 62) ⟨[]⟩ ⟨[]⟩) 205 rfl rfl rfl rfl (fun ids H' fr => opD_load rfl (evV_eq _ _ _ _ _ rfl) (fr.ldOwn (j := 7) rfl rfl)) rfl ?_
          refine WJ.hd (v := .agg ⟨[.int .i64 x2_Domain, .bool x2_Service, .bool x2_Faulted, .bool x2_Homing, .int .i64 x2_At, .int .i64 x2_Panel]⟩) 200 rfl rfl rfl rfl (fun ids H' fr => opD_load rfl (evV_eq _ _ _ _ _ rfl) (fr.ldOwn (j := 0) rfl rfl)) rfl ?_
          obtain ⟨⟨t24u1_Floor, t24u1_Panel, t24u1_Out⟩, e24u1, hp⟩ := bindS hp
          refine WJ.cl 200 (R := R_23 ⟨t24u1_Floor, t24u1_Panel, t24u1_Out⟩) (fun hm h k => R_23.mono hm h k) rfl (fun ids H' fr => f62_ok (x0 := (Shown.mk x2_Domain x2_Service x2_Faulted x2_Homing x2_At x2_Panel)) e24u1) ?_
          rintro v B7 ⟨abB7, ivB7⟩ rfl
          refine ⟨_, rfl, ?_⟩
          replace gbg_x0 := gbg_x0.mono (Nat.le_refl _) (abB7.le (Nat.zero_le _))
          refine WJ.sb 200 (j := 1) rfl rfl rfl rfl rfl rfl rfl rfl rfl rfl ?_
          obtain rfl := endS (show some _ = some r from hp)
          exact WJ.rto 201 rfl (.cell 1 rfl rfl rfl .nil) rfl (fun ids H' fr => ⟨fr.ext0, rfl⟩)
      · replace hp := (itS hp).1 rfl
        refine WJ.hd (v := .func (.func 67) ⟨[]⟩ ⟨[]⟩) 205 rfl rfl rfl rfl (fun ids H' fr => opD_load rfl (evV_eq _ _ _ _ _ rfl) (fr.ldOwn (j := 6) rfl rfl)) rfl ?_
        refine WJ.hd (v := .agg ⟨[.int .i64 x2_Domain, .bool x2_Service, .bool x2_Faulted, .bool x2_Homing, .int .i64 x2_At, .int .i64 x2_Panel]⟩) 200 rfl rfl rfl rfl (fun ids H' fr => opD_load rfl (evV_eq _ _ _ _ _ rfl) (fr.ldOwn (j := 0) rfl rfl)) rfl ?_
        obtain ⟨⟨t24u2_Floor, t24u2_Panel, t24u2_Out⟩, e24u2, hp⟩ := bindS hp
        refine WJ.cl 200 (R := R_23 ⟨t24u2_Floor, t24u2_Panel, t24u2_Out⟩) (fun hm h k => R_23.mono hm h k) rfl (fun ids H' fr => f67_ok (x0 := (Shown.mk x2_Domain x2_Service x2_Faulted x2_Homing x2_At x2_Panel)) e24u2) ?_
        rintro v B8 ⟨abB8, ivB8⟩ rfl
        refine ⟨_, rfl, ?_⟩
        replace gbg_x0 := gbg_x0.mono (Nat.le_refl _) (abB8.le (Nat.zero_le _))
        refine WJ.sb 200 (j := 1) rfl rfl rfl rfl rfl rfl rfl rfl rfl rfl ?_
        obtain rfl := endS (show some _ = some r from hp)
        exact WJ.rto 201 rfl (.cell 1 rfl rfl rfl .nil) rfl (fun ids H' fr => ⟨fr.ext0, rfl⟩)
    · replace hp := (itS hp).1 rfl
      refine WJ.hd (v := .func (.func 65) ⟨[]⟩ ⟨[]⟩) 205 rfl rfl rfl rfl (fun ids H' fr => opD_load rfl (evV_eq _ _ _ _ _ rfl) (fr.ldOwn (j := 5) rfl rfl)) rfl ?_
      refine WJ.hd (v := .agg ⟨[.int .i64 x2_Domain, .bool x2_Service, .bool x2_Faulted, .bool x2_Homing, .int .i64 x2_At, .int .i64 x2_Panel]⟩) 200 rfl rfl rfl rfl (fun ids H' fr => opD_load rfl (evV_eq _ _ _ _ _ rfl) (fr.ldOwn (j := 0) rfl rfl)) rfl ?_
      obtain ⟨⟨t24u3_Floor, t24u3_Panel, t24u3_Out⟩, e24u3, hp⟩ := bindS hp
      refine WJ.cl 200 (R := R_23 ⟨t24u3_Floor, t24u3_Panel, t24u3_Out⟩) (fun hm h k => R_23.mono hm h k) rfl (fun ids H' fr => f65_ok (x0 := (Shown.mk x2_Domain x2_Service x2_Faulted x2_Homing x2_At x2_Panel)) e24u3) ?_
      rintro v B9 ⟨abB9, ivB9⟩ rfl
      refine ⟨_, rfl, ?_⟩
      replace gbg_x0 := gbg_x0.mono (Nat.le_refl _) (abB9.le (Nat.zero_le _))
      refine WJ.sb 200 (j := 1) rfl rfl rfl rfl rfl rfl rfl rfl rfl rfl ?_
      obtain rfl := endS (show some _ = some r from hp)
      exact WJ.rto 201 rfl (.cell 1 rfl rfl rfl .nil) rfl (fun ids H' fr => ⟨fr.ext0, rfl⟩)
  · replace hp := (itS hp).1 rfl
    refine WJ.hd (v := .func (.func 62) ⟨[]⟩ ⟨[]⟩) 205 rfl rfl rfl rfl (fun ids H' fr => opD_load rfl (evV_eq _ _ _ _ _ rfl) (fr.ldOwn (j := 4) rfl rfl)) rfl ?_
    refine WJ.hd (v := .agg ⟨[.int .i64 x2_Domain, .bool x2_Service, .bool x2_Faulted, .bool x2_Homing, .int .i64 x2_At, .int .i64 x2_Panel]⟩) 200 rfl rfl rfl rfl (fun ids H' fr => opD_load rfl (evV_eq _ _ _ _ _ rfl) (fr.ldOwn (j := 0) rfl rfl)) rfl ?_
    obtain ⟨⟨t24u4_Floor, t24u4_Panel, t24u4_Out⟩, e24u4, hp⟩ := bindS hp
    refine WJ.cl 200 (R := R_23 ⟨t24u4_Floor, t24u4_Panel, t24u4_Out⟩) (fun hm h k => R_23.mono hm h k) rfl (fun ids H' fr => f62_ok (x0 := (Shown.mk x2_Domain x2_Service x2_Faulted x2_Homing x2_At x2_Panel)) e24u4) ?_
    rintro v B10 ⟨abB10, ivB10⟩ rfl
    refine ⟨_, rfl, ?_⟩
    replace gbg_x0 := gbg_x0.mono (Nat.le_refl _) (abB10.le (Nat.zero_le _))
    refine WJ.sb 200 (j := 1) rfl rfl rfl rfl rfl rfl rfl rfl rfl rfl ?_
    obtain rfl := endS (show some _ = some r from hp)
    exact WJ.rto 201 rfl (.cell 1 rfl rfl rfl .nil) rfl (fun ids H' fr => ⟨fr.ext0, rfl⟩)
/-! 26 tipstaff/scrub.All -/
def f26_l2 (k : Nat) (x0 : List Int) (x1 : Int) (x2 : List Shown) : Nat → (List Sight) → Int → Option ((List Sight))
  | 0, _, _ => none
  | n + 1, l0, x45 =>
    (some (decide (x45 < (x2.length : Int)))).bind fun t46 =>
    if t46 then
      (rd x2 x45).bind fun t47 =>
      (f36 k x0 x1 (Shown.mk t47.Domain t47.Service t47.Faulted t47.Homing t47.At t47.Panel)).bind fun t53 =>
      (apd 24 l0 ([t53])).bind fun l55 =>
      f26_l2 k x0 x1 x2 n l55 (IntKind.i64.wrap (x45 + 1))
    else
      some (l0)

def f26_l1 (k : Nat) (x0 : List Int) (x2 : List Shown) : Nat → Int → Option ((Unit) ⊕ ((List Sight) × Int))
  | 0, _ => none
  | n + 1, x26 =>
    (some (decide (x26 < (x2.length : Int)))).bind fun t27 =>
    if t27 then
      (rd x2 x26).bind fun t28 =>
      (f35 k x0 (Shown.mk t28.Domain t28.Service t28.Faulted t28.Homing t28.At t28.Panel)).bind fun t32 =>
      if t32 = 0 then
        f26_l1 k x0 x2 n (IntKind.i64.wrap (x26 + 1))
      else
        some (Sum.inr (([], t32) : (List Sight) × Int))
    else
      some (Sum.inl ())

def f26 (k : Nat) (x0 : List Int) (x1 : Int) (x2 : List Shown) : Option ((List Sight) × Int) :=
  (f34 k x0).bind fun (t18_0, t18_1) =>
  if t18_0 = 0 then
    (f26_l1 k x0 x2 k 0).bind fun s => match s with
      | .inl _ => 
        if x1 < 1 then
          some ([], 2)
        else
          if x1 > 3 then
            some ([], 2)
          else
            (f26_l2 k x0 x1 x2 k ([]) 0).bind fun l0_18 =>
              some (l0_18, 0)
      | .inr st => some st
  else
    some ([], t18_0)
set_option maxRecDepth 20000 in
theorem f26_ok {k : Nat} {H : Hp} {a_x0 : Option Addr} {c_x0 : Nat} {a_x2 : Option Addr} {c_x2 : Nat} {x0 : List Int} {x1 : Int} {x2 : List Shown} {r : (List Sight) × Int} (g_x0 : SlF 0 H intC a_x0 c_x0 x0) (g_x2 : SlF 0 H ShownC a_x2 c_x2 x2) (hp : f26 k x0 x1 x2 = some r) :
    SCall Tryd.prog 26 [.slice a_x0 x0.length c_x0, .int .i64 x1, .slice a_x2 x2.length c_x2] H (Ret fun v H' => Ext H H' ∧ R_52_25 r H.next H' v) := by
  unfold f26 at hp
  replace hp := topS hp
  refine SCall.g Tryd.func26 rfl rfl rfl rfl rfl (l := [(0, .v (.slice a_x0 x0.length c_x0)), (1, .v (.int .i64 x1)), (2, .v (.slice a_x2 x2.length c_x2))]) (fun _ => rfl) (fun B abB => ?_)
  obtain ⟨⟨t18_0, t18_1⟩, e18, hp⟩ := bindS hp
  refine WJ.cl 209 (R := R_25_3 ⟨t18_0, t18_1⟩) (fun hm h k => R_25_3.mono hm h k) rfl (fun ids H' fr => f34_ok (g_x0.mono (Nat.zero_le _) fr.ext0.abv) e18) ?_
  rintro v B1 ⟨abB1, ivB1⟩ rfl
  refine ⟨_, rfl, ?_⟩
  refine WJ.cn 209 hp rfl rfl rfl rfl rfl rfl rfl rfl rfl (fun hc22 hp => ?_) (fun hc22 hp => ?_)
  · obtain rfl := endS (show some _ = some r from hp)
    exact WJ.rt 208 rfl rfl rfl (fun ids H' fr => ⟨fr.ext0, ⟨_, _, rfl, SlF.nil⟩⟩)
  · refine WJ.adv 11 rfl ?_
    obtain ⟨K17, hK17, hp⟩ : ∃ K, K = _ ∧ Option.bind _ K = some r := ⟨_, rfl, cutS hp⟩
    refine WJ.cut 2 (α := Hp) (fun y => [(0, .v (.slice a_x0 x0.length c_x0)), (1, .v (.int .i64 x1)), (2, .v (.slice a_x2 x2.length c_x2))]) (fun y => []) (fun y => []) (fun y => y) (fun y => K17 (Sum.inl ()) = some r) ?_ (fun j17 => ?_)
    · rintro B4 hp
      subst hK17
      show WJ _ _ _ B4 [] _ _ ⟨[(0, .v (.slice a_x0 x0.length c_x0)), (1, .v (.int .i64 x1)), (2, .v (.slice a_x2 x2.length c_x2))], [], true, 0⟩
      refine WJ.ci 204 hp rfl rfl rfl rfl rfl rfl rfl rfl rfl (fun hc38 hp => ?_) (fun hc38 hp => ?_)
      · obtain rfl := endS (show some _ = some r from hp)
        exact WJ.rt 211 rfl rfl rfl (fun ids H' fr => ⟨fr.ext0, ⟨_, _, rfl, SlF.nil⟩⟩)
      · refine WJ.ci 202 hp rfl rfl rfl rfl rfl rfl rfl rfl rfl (fun hc41 hp => ?_) (fun hc41 hp => ?_)
        · obtain rfl := endS (show some _ = some r from hp)
          exact WJ.rt 208 rfl rfl rfl (fun ids H' fr => ⟨fr.ext0, ⟨_, _, rfl, SlF.nil⟩⟩)
        · refine WJ.adv 16 rfl ?_
          refine WJ.nw 3 ?_
          obtain ⟨K18, hK18, hp⟩ : ∃ K, K = _ ∧ Option.bind _ K = some r := ⟨_, rfl, cutS hp⟩
          refine WJ.cut 2 (α := (List Sight) × (Option Addr) × Nat × Hp) (fun y => [(13, .v (.slice y.2.1 y.1.length y.2.2.1))]) (fun y => []) (fun y => [⟨y.2.1, y.2.2.1, 3, encL Sight.cs y.1⟩]) (fun y => y.2.2.2) (fun y => K18 (y.1) = some r) ?_ (fun j18 => ?_)
          · rintro ⟨l0_18, a0_18, c0_18, B7⟩ hp
            subst hK18
            show WJ _ _ _ B7 [⟨a0_18, c0_18, 3, encL Sight.cs l0_18⟩] _ _ ⟨[(13, .v (.slice a0_18 l0_18.length c0_18))], [], true, 0⟩
            obtain rfl := endS (show some _ = some r from hp)
            exact WJ.rt 206 rfl rfl rfl (fun ids H' fr => ⟨fr.ext0, ⟨_, _, rfl, (fr.slOwn (j := 0) rfl rfl (Nat.le_refl _))⟩⟩)
          · refine WJ.lp 200 (α := Nat × (List Sight) × Int × (Option Addr) × Nat × Hp) (fun y => [(0, .v (.slice a_x0 x0.length c_x0)), (1, .v (.int .i64 x1)), (13, .v (.slice y.2.2.2.1 y.2.1.length y.2.2.2.2.1)), (43, .v (.slice a_x2 x2.length c_x2)), (44, .v (.int .i64 ((x2.length : Nat) : Int))), (45, .v (.int .i64 y.2.2.1))]) (fun y => []) (fun y => [⟨y.2.2.2.1, y.2.2.2.2.1, 3, encL Sight.cs y.2.1⟩]) (fun y => y.2.2.2.2.2) (fun y => y.1) (fun y => Option.bind (f26_l2 k x0 x1 x2 y.1 y.2.1 y.2.2.1) K18 = some r) (k, ([] : List Sight), 0, none, 0, B4) rfl hp (by exact ⟨rfl, rfl, rfl, rfl, rfl, rfl, trivial⟩) rfl rfl rfl ?_
            rintro ⟨n, l0, x45, a0, c0, B5⟩ hp ih18
            show WJ _ _ _ B5 [⟨a0, c0, 3, encL Sight.cs l0⟩] _ _ ⟨[(0, .v (.slice a_x0 x0.length c_x0)), (1, .v (.int .i64 x1)), (13, .v (.slice a0 l0.length c0)), (43, .v (.slice a_x2 x2.length c_x2)), (44, .v (.int .i64 ((x2.length : Nat) : Int))), (45, .v (.int .i64 x45))], [], true, 0⟩
            replace hp : Option.bind (f26_l2 k x0 x1 x2 n l0 x45) K18 = some r := hp
            cases n with
            | zero => rw [f26_l2] at hp; exact (noS hp).elim
            | succ n =>
              rw [f26_l2] at hp
              obtain ⟨t46, e46, hp⟩ := bindS hp
              refine WJ.cv 202 (b := t46) (H0 := ⟨.nil, 0, 0⟩) rfl rfl rfl rfl rfl rfl (by rw [← endS e46]; exact rfl) rfl ?_
              cases t46
              · replace hp := (itS hp).2 Bool.false_ne_true
                exact WJ.goto 4 (j18 (l0, a0, c0, B5) hp) rfl rfl (by exact ⟨rfl, trivial⟩) rfl rfl rfl
              · replace hp := (itS hp).1 rfl
                obtain ⟨⟨t47_Domain, t47_Service, t47_Faulted, t47_Homing, t47_At, t47_Panel⟩, e47, hp⟩ := bindS hp
                obtain ⟨b47, o47, cs47, i47, rfl, p47⟩ := g_x2.at e47 u55 sz33
                refine WJ.hd (v := .pointer (some ⟨b47, o47, none⟩)) 208 rfl rfl rfl rfl (fun ids H' fr => opD_indexAddr rfl (evV_eq _ _ _ _ _ rfl) (evV_eq _ _ _ _ _ rfl) (i47 _)) rfl ?_
                refine WJ.hd (v := .agg ⟨[.int .i64 t47_Domain, .bool t47_Service, .bool t47_Faulted, .bool t47_Homing, .int .i64 t47_At, .int .i64 t47_Panel]⟩) 200 rfl rfl rfl rfl (fun ids H' fr => opD_load rfl (evV_eq _ _ _ _ _ rfl) ((p47.mono (Nat.zero_le _) fr.ext0.abv).loadN (d := 0) ag33 sz33 rfl rfl)) rfl ?_
                obtain ⟨⟨t53_Floor, t53_Panel, t53_Out⟩, e53, hp⟩ := bindS hp
                refine WJ.cl 208 (R := R_23 ⟨t53_Floor, t53_Panel, t53_Out⟩) (fun hm h k => R_23.mono hm h k) rfl (fun ids H' fr => f36_ok (x2 := (Shown.mk t47_Domain t47_Service t47_Faulted t47_Homing t47_At t47_Panel)) (g_x0.mono (Nat.zero_le _) fr.ext0.abv) e53) ?_
                rintro v B6 ⟨abB6, ivB6⟩ rfl
                refine ⟨_, rfl, ?_⟩
                refine WJ.bs (cs := encL Sight.cs [(Sight.mk t53_Floor t53_Panel t53_Out)]) (sz := 3) (pl := [(0, .agg ⟨[.int .i64 t53_Floor, .int .i64 t53_Panel, .bool t53_Out]⟩)]) 200 rfl rfl rfl rfl rfl (fun _ _ => rfl) (fun _ => by rfl) rfl rfl ?_
                intro b54
                refine ⟨_, rfl, ?_⟩
                obtain ⟨l55, e55, hp⟩ := bindS hp
                obtain ⟨bd55, rfl⟩ := apd_some e55
                refine WJ.ap (L := l0) (L2 := [(Sight.mk t53_Floor t53_Panel t53_Out)]) 200 0 rfl rfl rfl rfl rfl rfl rfl rfl (el52 rfl) rfl (fun _ => rfl) (fun _ => rfl) rfl (fun ids H' fr => fr.srcOwn (enc := Sight.cs) (sz := 3) (j := 1) (fun _ => rfl) (by decide) rfl) bd55 ?_
                intro a55 c55
                refine ⟨_, rfl, ?_⟩
                refine WJ.pop [⟨a55, c55, 3, encL Sight.cs (l0 ++ ([(Sight.mk t53_Floor t53_Panel t53_Out)]))⟩] rfl ?_
                exact WJ.ag 207 rfl (by exact ⟨rfl, rfl, rfl, rfl, rfl, rfl, trivial⟩) rfl rfl rfl (ih18 (n, (l0 ++ ([(Sight.mk t53_Floor t53_Panel t53_Out)])), IntKind.i64.wrap (x45 + 1), a55, c55, B6) hp (Nat.lt_succ_self _))
    · refine WJ.lp 200 (α := Nat × Int × Hp) (fun y => [(0, .v (.slice a_x0 x0.length c_x0)), (1, .v (.int .i64 x1)), (2, .v (.slice a_x2 x2.length c_x2)), (24, .v (.slice a_x2 x2.length c_x2)), (25, .v (.int .i64 ((x2.length : Nat) : Int))), (26, .v (.int .i64 y.2.1))]) (fun y => []) (fun y => []) (fun y => y.2.2) (fun y => y.1) (fun y => Option.bind (f26_l1 k x0 x2 y.1 y.2.1) K17 = some r) (k, 0, B1) rfl hp (by exact ⟨rfl, rfl, rfl, rfl, rfl, rfl, trivial⟩) rfl rfl rfl ?_
      rintro ⟨n, x26, B2⟩ hp ih17
      show WJ _ _ _ B2 [] _ _ ⟨[(0, .v (.slice a_x0 x0.length c_x0)), (1, .v (.int .i64 x1)), (2, .v (.slice a_x2 x2.length c_x2)), (24, .v (.slice a_x2 x2.length c_x2)), (25, .v (.int .i64 ((x2.length : Nat) : Int))), (26, .v (.int .i64 x26))], [], true, 0⟩
      replace hp : Option.bind (f26_l1 k x0 x2 n x26) K17 = some r := hp
      cases n with
      | zero => rw [f26_l1] at hp; exact (noS hp).elim
      | succ n =>
        rw [f26_l1] at hp
        obtain ⟨t27, e27, hp⟩ := bindS hp
        refine WJ.cv 202 (b := t27) (H0 := ⟨.nil, 0, 0⟩) rfl rfl rfl rfl rfl rfl (by rw [← endS e27]; exact rfl) rfl ?_
        cases t27
        · replace hp := (itS hp).2 Bool.false_ne_true
          exact WJ.goto 4 (j17 B2 hp) rfl rfl (by exact ⟨rfl, rfl, rfl, trivial⟩) rfl rfl rfl
        · replace hp := (itS hp).1 rfl
          obtain ⟨⟨t28_Domain, t28_Service, t28_Faulted, t28_Homing, t28_At, t28_Panel⟩, e28, hp⟩ := bindS hp
          obtain ⟨b28, o28, cs28, i28, rfl, p28⟩ := g_x2.at e28 u55 sz33
          refine WJ.hd (v := .pointer (some ⟨b28, o28, none⟩)) 208 rfl rfl rfl rfl (fun ids H' fr => opD_indexAddr rfl (evV_eq _ _ _ _ _ rfl) (evV_eq _ _ _ _ _ rfl) (i28 _)) rfl ?_
          refine WJ.hd (v := .agg ⟨[.int .i64 t28_Domain, .bool t28_Service, .bool t28_Faulted, .bool t28_Homing, .int .i64 t28_At, .int .i64 t28_Panel]⟩) 200 rfl rfl rfl rfl (fun ids H' fr => opD_load rfl (evV_eq _ _ _ _ _ rfl) ((p28.mono (Nat.zero_le _) fr.ext0.abv).loadN (d := 0) ag33 sz33 rfl rfl)) rfl ?_
          obtain ⟨t32, e32, hp⟩ := bindS hp
          refine WJ.cl 207 (R := R_25 t32) (fun hm h k => R_25.mono hm h k) rfl (fun ids H' fr => f35_ok (x1 := (Shown.mk t28_Domain t28_Service t28_Faulted t28_Homing t28_At t28_Panel)) (g_x0.mono (Nat.zero_le _) fr.ext0.abv) e32) ?_
          rintro v B3 ⟨abB3, ivB3⟩ rfl
          refine ⟨_, rfl, ?_⟩
          refine WJ.cn 205 hp rfl rfl rfl rfl rfl rfl rfl rfl rfl (fun hc34 hp => ?_) (fun hc34 hp => ?_)
          · subst hK17
            obtain rfl := endS (show some _ = some r from hp)
            exact WJ.rt 208 rfl rfl rfl (fun ids H' fr => ⟨fr.ext0, ⟨_, _, rfl, SlF.nil⟩⟩)
          · exact WJ.ag 208 rfl (by exact ⟨rfl, rfl, rfl, rfl, rfl, rfl, trivial⟩) rfl rfl rfl (ih17 (n, IntKind.i64.wrap (x26 + 1), B3) hp (Nat.lt_succ_self _))
/-! 13 tipstaff/scrub.Show -/
def f13 (k : Nat) (x0 : List Int) (x1 : Int) (x2 : Shown) : Option (Sight × Int) :=
  (f26 k x0 x1 ([(Shown.mk x2.Domain x2.Service x2.Faulted x2.Homing x2.At x2.Panel)])).bind fun (t15_0, t15_1) =>
  if t15_1 = 0 then
    (rd t15_0 0).bind fun t23 =>
    some ((Sight.mk t23.Floor t23.Panel t23.Out), 0)
  else
    some ((Sight.mk 0 0 false), t15_1)
set_option maxRecDepth 20000 in
theorem f13_ok {k : Nat} {H : Hp} {a_x0 : Option Addr} {c_x0 : Nat} {x0 : List Int} {x1 : Int} {x2 : Shown} {r : Sight × Int} (g_x0 : SlF 0 H intC a_x0 c_x0 x0) (hp : f13 k x0 x1 x2 = some r) :
    SCall Tryd.prog 13 [.slice a_x0 x0.length c_x0, .int .i64 x1, .agg ⟨[.int .i64 x2.Domain, .bool x2.Service, .bool x2.Faulted, .bool x2.Homing, .int .i64 x2.At, .int .i64 x2.Panel]⟩] H (Ret fun v H' => Ext H H' ∧ R_23_25 r H.next H' v) := by
  obtain ⟨x2_Domain, x2_Service, x2_Faulted, x2_Homing, x2_At, x2_Panel⟩ := x2
  unfold f13 at hp
  replace hp := topS hp
  refine SCall.g Tryd.func13 rfl rfl rfl rfl rfl (l := [(0, .v (.slice a_x0 x0.length c_x0)), (1, .v (.int .i64 x1)), (2, .v (.agg ⟨[.int .i64 x2_Domain, .bool x2_Service, .bool x2_Faulted, .bool x2_Homing, .int .i64 x2_At, .int .i64 x2_Panel]⟩))]) (fun _ => rfl) (fun B abB => ?_)
  refine WJ.bs (cs := encL Shown.cs [(Shown.mk x2_Domain x2_Service x2_Faulted x2_Homing x2_At x2_Panel)]) (sz := 6) (pl := [(0, .agg ⟨[.int .i64 x2_Domain, .bool x2_Service, .bool x2_Faulted, .bool x2_Homing, .int .i64 x2_At, .int .i64 x2_Panel]⟩)]) 211 rfl rfl rfl rfl rfl (fun _ _ => rfl) (fun _ => by rfl) rfl rfl ?_
  intro b14
  refine ⟨_, rfl, ?_⟩
  obtain ⟨⟨t15_0, t15_1⟩, e15, hp⟩ := bindS hp
  refine WJ.cl 200 (R := R_52_25 ⟨t15_0, t15_1⟩) (fun hm h k => R_52_25.mono hm h k) rfl (fun ids H' fr => f26_ok (g_x0.mono (Nat.zero_le _) fr.ext0.abv) (fr.slOwn (j := 0) rfl rfl (Nat.zero_le _)) e15) ?_
  rintro v B1 ⟨abB1, ivB1⟩ ⟨a_t15_0, c_t15_0, rfl, g_t15_0⟩
  refine ⟨_, rfl, ?_⟩
  refine WJ.cn 210 hp rfl rfl rfl rfl rfl rfl rfl rfl rfl (fun hc19 hp => ?_) (fun hc19 hp => ?_)
  · obtain rfl := endS (show some _ = some r from hp)
    exact WJ.rt 209 rfl rfl rfl (fun ids H' fr => ⟨fr.ext0, rfl⟩)
  · obtain ⟨⟨t23_Floor, t23_Panel, t23_Out⟩, e23, hp⟩ := bindS hp
    obtain ⟨b23, o23, cs23, i23, rfl, p23⟩ := g_t15_0.at e23 u52 sz23
    refine WJ.hd (v := .pointer (some ⟨b23, o23, none⟩)) 206 rfl rfl rfl rfl (fun ids H' fr => opD_indexAddr rfl (evV_eq _ _ _ _ _ rfl) (evV_eq _ _ _ _ _ rfl) (i23 _)) rfl ?_
    refine WJ.hd (v := .agg ⟨[.int .i64 t23_Floor, .int .i64 t23_Panel, .bool t23_Out]⟩) 200 rfl rfl rfl rfl (fun ids H' fr => opD_load rfl (evV_eq _ _ _ _ _ rfl) ((p23.mono (Nat.zero_le _) (fr.abv.le (Nat.zero_le _))).loadN (d := 0) ag23 sz23 rfl rfl)) rfl ?_
    obtain rfl := endS (show some _ = some r from hp)
    exact WJ.rt 203 rfl rfl rfl (fun ids H' fr => ⟨fr.ext0, rfl⟩)
/-! 4 tipstaff/tipstafflaw32.ScrubCan -/
def f4_l2 (t25_0 : List Int) (x18_23 : Int) (t25_1_At : Int) (t35_0_Floor : Int) : Nat → Int → Int → Option ((Bool) ⊕ (Unit))
  | 0, _, _ => none
  | n + 1, x17, x20 =>
    if x20 ≤ (t25_0.length : Int) then
      (if (gmax (IntKind.i64.wrap (x17 - t25_1_At)) (IntKind.i64.wrap (t25_1_At - x17))) < x18_23 then
        some (Sum.inl (false : Bool))
      else
        if (gmax (IntKind.i64.wrap (x17 - t25_1_At)) (IntKind.i64.wrap (t25_1_At - x17))) = x18_23 then
          if x20 < t35_0_Floor then
            some (Sum.inl (false : Bool))
          else
            some (Sum.inr ())
        else
          some (Sum.inr ())).bind fun s => match s with
        | .inl st => some (Sum.inl st)
        | .inr _ => 
          (if x20 < (t25_0.length : Int) then
            (rd t25_0 x20).bind fun t186 =>
            some ((IntKind.i64.wrap (x17 + t186)))
          else
            some (x17)).bind fun x17_28 =>
            f4_l2 t25_0 x18_23 t25_1_At t35_0_Floor n x17_28 (IntKind.i64.wrap (x20 + 1))
    else
      some (Sum.inr ())

def f4_l1 (t25_0 : List Int) (t35_0_Floor : Int) (t25_1_At : Int) : Nat → Int → Int → Int → Option (Int)
  | 0, _, _, _ => none
  | n + 1, x17, x18, x19 =>
    if x19 ≤ (t25_0.length : Int) then
      (if x19 = t35_0_Floor then
        some ((gmax (IntKind.i64.wrap (x17 - t25_1_At)) (IntKind.i64.wrap (t25_1_At - x17))))
      else
        some (x18)).bind fun x18_24 =>
        (if x19 < (t25_0.length : Int) then
          (rd t25_0 x19).bind fun t147 =>
          some ((IntKind.i64.wrap (x17 + t147)))
        else
          some (x17)).bind fun x17_25 =>
          f4_l1 t25_0 t35_0_Floor t25_1_At n x17_25 x18_24 (IntKind.i64.wrap (x19 + 1))
    else
      some (x18)

def f4 (k : Nat) (x0 : List Int) (x1 : Int) (x2 : Int) : Option Bool :=
  (f11 k x0 x1).bind fun (t25_0, t25_1) =>
  (f12 x2 3).bind fun t29 =>
  (f13 k t25_0 (IntKind.i64.wrap (1 + t29)) (Shown.mk t25_1.Domain t25_1.Service t25_1.Faulted t25_1.Homing t25_1.At t25_1.Panel)).bind fun (t35_0, t35_1) =>
  (f7 (Sight.mk t35_0.Floor t35_0.Panel t35_0.Out)).bind fun (t40_0, t40_1) =>
  (f9 k t40_0).bind fun (t45_0, t45_1) =>
  if t35_1 = 0 then
    if t40_1 = 0 then
      if t45_1 = 0 then
        if (Sight.mk t45_0.Floor t45_0.Panel t45_0.Out) = (Sight.mk t35_0.Floor t35_0.Panel t35_0.Out) then
          (if t25_1.Domain = (IntKind.i64.wrap (1 + t29)) then
            if t25_1.Service then
              if t25_1.Faulted then
                some ((true, true, t25_1.Homing, false))
              else
                if t25_1.Homing then
                  some ((true, false, true, false))
                else
                  some ((true, false, false, true))
            else
              some ((false, t25_1.Faulted, t25_1.Homing, false))
          else
            some ((t25_1.Service, t25_1.Faulted, t25_1.Homing, false))).bind fun (v0_1_22, v0_2_22, v0_3_22, x16_22) =>
            (some (decide (t35_0.Floor ≥ 0))).bind fun t83 =>
            (some (!(t83 == x16_22))).bind fun t85 =>
            if t85 then
              some false
            else
              if x16_22 then
                if t35_0.Panel = t25_1.Panel then
                  if t35_0.Out then
                    some false
                  else
                    if t35_0.Floor > (t25_0.length : Int) then
                      some false
                    else
                      (f4_l1 t25_0 t35_0.Floor t25_1.At k 0 0 0).bind fun x18_23 =>
                        (f4_l2 t25_0 x18_23 t25_1.At t35_0.Floor k 0 0).bind fun s => match s with
                          | .inl st => some st
                          | .inr _ => 
                            (f6).bind fun t189 =>
                            some t189
                else
                  some false
              else
                if t35_0.Panel = 0 then
                  (f6).bind fun t103 =>
                  some t103
                else
                  if t35_0.Out then
                    if t35_0.Panel = t25_1.Panel then
                      (f6).bind fun t103 =>
                      some t103
                    else
                      some false
                  else
                    some false
        else
          some false
      else
        some false
    else
      some false
  else
    some false
set_option maxRecDepth 20000 in
theorem f4_ok {k : Nat} {H : Hp} {a_x0 : Option Addr} {c_x0 : Nat} {x0 : List Int} {x1 : Int} {x2 : Int} {r : Bool} (g_x0 : SlF 0 H intC a_x0 c_x0 x0) (hp : f4 k x0 x1 x2 = some r) :
    SCall Tryd.prog 4 [.slice a_x0 x0.length c_x0, .int .i64 x1, .int .i64 x2] H (Ret fun v H' => Ext H H' ∧ R_4 r H.next H' v) := by
  unfold f4 at hp
  replace hp := topS hp
  refine SCall.g Tryd.func4 rfl rfl rfl rfl rfl (l := [(0, .v (.slice a_x0 x0.length c_x0)), (1, .v (.int .i64 x1)), (2, .v (.int .i64 x2))]) (fun _ => rfl) (fun B abB => ?_)
  obtain ⟨⟨t25_0, ⟨t25_1_Domain, t25_1_Service, t25_1_Faulted, t25_1_Homing, t25_1_At, t25_1_Panel⟩⟩, e25, hp⟩ := bindS hp
  refine WJ.cl 208 (R := R_31_33 ⟨t25_0, ⟨t25_1_Domain, t25_1_Service, t25_1_Faulted, t25_1_Homing, t25_1_At, t25_1_Panel⟩⟩) (fun hm h k => R_31_33.mono hm h k) rfl (fun ids H' fr => f11_ok (g_x0.mono (Nat.zero_le _) fr.ext0.abv) e25) ?_
  rintro v B1 ⟨abB1, ivB1⟩ ⟨a_t25_0, c_t25_0, rfl, g_t25_0⟩
  refine ⟨_, rfl, ?_⟩
  obtain ⟨t29, e29, hp⟩ := bindS hp
  refine WJ.cl 210 (R := R_3 t29) (fun hm h k => R_3.mono hm h k) rfl (fun ids H' fr => f12_ok e29) ?_
  rintro v B2 ⟨abB2, ivB2⟩ rfl
  refine ⟨_, rfl, ?_⟩
  replace g_t25_0 := g_t25_0.mono (Nat.le_refl _) (abB2.le (Nat.zero_le _))
  obtain ⟨⟨⟨t35_0_Floor, t35_0_Panel, t35_0_Out⟩, t35_1⟩, e35, hp⟩ := bindS hp
  refine WJ.cl 208 (R := R_23_25 ⟨⟨t35_0_Floor, t35_0_Panel, t35_0_Out⟩, t35_1⟩) (fun hm h k => R_23_25.mono hm h k) rfl (fun ids H' fr => f13_ok (x2 := (Shown.mk t25_1_Domain t25_1_Service t25_1_Faulted t25_1_Homing t25_1_At t25_1_Panel)) (g_t25_0.mono (Nat.zero_le _) (fr.abv.le (Nat.zero_le _))) e35) ?_
  rintro v B3 ⟨abB3, ivB3⟩ rfl
  refine ⟨_, rfl, ?_⟩
  replace g_t25_0 := g_t25_0.mono (Nat.le_refl _) (abB3.le (Nat.zero_le _))
  obtain ⟨⟨t40_0, t40_1⟩, e40, hp⟩ := bindS hp
  refine WJ.cl 210 (R := R_9_25 ⟨t40_0, t40_1⟩) (fun hm h k => R_9_25.mono hm h k) rfl (fun ids H' fr => f7_ok (x0 := (Sight.mk t35_0_Floor t35_0_Panel t35_0_Out)) e40) ?_
  rintro v B4 ⟨abB4, ivB4⟩ rfl
  refine ⟨_, rfl, ?_⟩
  replace g_t25_0 := g_t25_0.mono (Nat.le_refl _) (abB4.le (Nat.zero_le _))
  obtain ⟨⟨⟨t45_0_Floor, t45_0_Panel, t45_0_Out⟩, t45_1⟩, e45, hp⟩ := bindS hp
  refine WJ.cl 209 (R := R_23_25 ⟨⟨t45_0_Floor, t45_0_Panel, t45_0_Out⟩, t45_1⟩) (fun hm h k => R_23_25.mono hm h k) rfl (fun ids H' fr => f9_ok e45) ?_
  rintro v B5 ⟨abB5, ivB5⟩ rfl
  refine ⟨_, rfl, ?_⟩
  replace g_t25_0 := g_t25_0.mono (Nat.le_refl _) (abB5.le (Nat.zero_le _))
  refine WJ.cn 211 hp rfl rfl rfl rfl rfl rfl rfl rfl rfl (fun hc49 hp => ?_) (fun hc49 hp => ?_)
  · obtain rfl := endS (show some _ = some r from hp)
    exact WJ.rt 219 rfl rfl rfl (fun ids H' fr => ⟨fr.ext0, rfl⟩)
  · refine WJ.cn 202 hp rfl rfl rfl rfl rfl rfl rfl rfl rfl (fun hc52 hp => ?_) (fun hc52 hp => ?_)
    · obtain rfl := endS (show some _ = some r from hp)
      exact WJ.rt 216 rfl rfl rfl (fun ids H' fr => ⟨fr.ext0, rfl⟩)
    · refine WJ.cn 203 hp rfl rfl rfl rfl rfl rfl rfl rfl rfl (fun hc56 hp => ?_) (fun hc56 hp => ?_)
      · obtain rfl := endS (show some _ = some r from hp)
        exact WJ.rt 212 rfl rfl rfl (fun ids H' fr => ⟨fr.ext0, rfl⟩)
      · refine WJ.cn 204 hp rfl rfl rfl rfl rfl rfl (opD_neS rfl rfl rfl rfl gd23 (eq23 t45_0_Floor t45_0_Panel t45_0_Out t35_0_Floor t35_0_Panel t35_0_Out)) rfl rfl (fun hc61 hp => ?_) (fun hc61 hp => ?_)
        · obtain rfl := endS (show some _ = some r from hp)
          exact WJ.rt 207 rfl rfl rfl (fun ids H' fr => ⟨fr.ext0, rfl⟩)
        · refine WJ.adv 5 rfl ?_
          obtain ⟨K22, hK22, hp⟩ : ∃ K, K = _ ∧ Option.bind _ K = some r := ⟨_, rfl, cutS hp⟩
          refine WJ.cut 1 (α := Bool × Bool × Bool × Bool) (fun y => [(7, .v (.slice a_t25_0 t25_0.length c_t25_0)), (8, .p 0 0), (10, .p 1 0), (16, .v (.bool y.2.2.2))]) (fun y => [[.int .i64 t25_1_Domain, .bool y.1, .bool y.2.1, .bool y.2.2.1, .int .i64 t25_1_At, .int .i64 t25_1_Panel], [.int .i64 t35_0_Floor, .int .i64 t35_0_Panel, .bool t35_0_Out], [.int .i64 t45_0_Floor, .int .i64 t45_0_Panel, .bool t45_0_Out]]) (fun y => []) (fun y => B5) (fun y => K22 (((y.1, y.2.1, y.2.2.1, y.2.2.2))) = some r) ?_ (fun j22 => ?_)
          · rintro ⟨v0_1_22, v0_2_22, v0_3_22, x16_22⟩ hp
            subst hK22
            show WJ _ _ _ B5 [] _ _ ⟨[(7, .v (.slice a_t25_0 t25_0.length c_t25_0)), (8, .p 0 0), (10, .p 1 0), (16, .v (.bool x16_22))], [[.int .i64 t25_1_Domain, .bool v0_1_22, .bool v0_2_22, .bool v0_3_22, .int .i64 t25_1_At, .int .i64 t25_1_Panel], [.int .i64 t35_0_Floor, .int .i64 t35_0_Panel, .bool t35_0_Out], [.int .i64 t45_0_Floor, .int .i64 t45_0_Panel, .bool t45_0_Out]], true, 0⟩
            obtain ⟨t83, e83, hp⟩ := bindS hp
            refine WJ.cv 205 (b := t83) (H0 := ⟨.nil, 0, 0⟩) rfl rfl rfl rfl rfl rfl (by rw [← endS e83]; exact rfl) rfl ?_
            obtain ⟨t85, e85, hp⟩ := bindS hp
            refine WJ.cv 201 (b := t85) (H0 := ⟨.nil, 0, 0⟩) rfl rfl rfl rfl rfl rfl (by rw [← endS e85]; exact rfl) rfl ?_
            cases t85
            · replace hp := (itS hp).2 Bool.false_ne_true
              cases x16_22
              · replace hp := (itS hp).2 Bool.false_ne_true
                refine WJ.ci 214 hp rfl rfl rfl rfl rfl rfl rfl rfl rfl (fun hc90 hp => ?_) (fun hc90 hp => ?_)
                · obtain ⟨t103, e103, hp⟩ := bindS hp
                  refine WJ.cl 212 (R := R_4 t103) (fun hm h k => R_4.mono hm h k) rfl (fun ids H' fr => f6_ok e103) ?_
                  rintro v B6 ⟨abB6, ivB6⟩ rfl
                  refine ⟨_, rfl, ?_⟩
                  replace g_t25_0 := g_t25_0.mono (Nat.le_refl _) (abB6.le (Nat.zero_le _))
                  obtain rfl := endS (show some _ = some r from hp)
                  exact WJ.rt 203 rfl rfl rfl (fun ids H' fr => ⟨fr.ext0, rfl⟩)
                · cases t35_0_Out
                  · replace hp := (itS hp).2 Bool.false_ne_true
                    obtain rfl := endS (show some _ = some r from hp)
                    exact WJ.rt 216 rfl rfl rfl (fun ids H' fr => ⟨fr.ext0, rfl⟩)
                  · replace hp := (itS hp).1 rfl
                    refine WJ.ci 208 hp rfl rfl rfl rfl rfl rfl rfl rfl rfl (fun hc99 hp => ?_) (fun hc99 hp => ?_)
                    · obtain ⟨t103, e103, hp⟩ := bindS hp
                      refine WJ.cl 203 (R := R_4 t103) (fun hm h k => R_4.mono hm h k) rfl (fun ids H' fr => f6_ok e103) ?_
                      rintro v B7 ⟨abB7, ivB7⟩ rfl
                      refine ⟨_, rfl, ?_⟩
                      replace g_t25_0 := g_t25_0.mono (Nat.le_refl _) (abB7.le (Nat.zero_le _))
                      obtain rfl := endS (show some _ = some r from hp)
                      exact WJ.rt 203 rfl rfl rfl (fun ids H' fr => ⟨fr.ext0, rfl⟩)
                    · obtain rfl := endS (show some _ = some r from hp)
                      exact WJ.rt 207 rfl rfl rfl (fun ids H' fr => ⟨fr.ext0, rfl⟩)
              · replace hp := (itS hp).1 rfl
                refine WJ.cn 218 hp rfl rfl rfl rfl rfl rfl rfl rfl rfl (fun hc109 hp => ?_) (fun hc109 hp => ?_)
                · obtain rfl := endS (show some _ = some r from hp)
                  exact WJ.rt 217 rfl rfl rfl (fun ids H' fr => ⟨fr.ext0, rfl⟩)
                · cases t35_0_Out
                  · replace hp := (itS hp).2 Bool.false_ne_true
                    refine WJ.ci 209 hp rfl rfl rfl rfl rfl rfl rfl rfl rfl (fun hc119 hp => ?_) (fun hc119 hp => ?_)
                    · obtain rfl := endS (show some _ = some r from hp)
                      exact WJ.rt 207 rfl rfl rfl (fun ids H' fr => ⟨fr.ext0, rfl⟩)
                    · refine WJ.adv 15 rfl ?_
                      obtain ⟨K23, hK23, hp⟩ : ∃ K, K = _ ∧ Option.bind _ K = some r := ⟨_, rfl, cutS hp⟩
                      refine WJ.cut 2 (α := Int) (fun y => [(7, .v (.slice a_t25_0 t25_0.length c_t25_0)), (8, .p 0 0), (10, .p 1 0), (18, .v (.int .i64 y))]) (fun y => [[.int .i64 t25_1_Domain, .bool v0_1_22, .bool v0_2_22, .bool v0_3_22, .int .i64 t25_1_At, .int .i64 t25_1_Panel], [.int .i64 t35_0_Floor, .int .i64 t35_0_Panel, .bool false], [.int .i64 t45_0_Floor, .int .i64 t45_0_Panel, .bool t45_0_Out]]) (fun y => []) (fun y => B5) (fun y => K23 (y) = some r) ?_ (fun j23 => ?_)
                      · rintro x18_23 hp
                        subst hK23
                        show WJ _ _ _ B5 [] _ _ ⟨[(7, .v (.slice a_t25_0 t25_0.length c_t25_0)), (8, .p 0 0), (10, .p 1 0), (18, .v (.int .i64 x18_23))], [[.int .i64 t25_1_Domain, .bool v0_1_22, .bool v0_2_22, .bool v0_3_22, .int .i64 t25_1_At, .int .i64 t25_1_Panel], [.int .i64 t35_0_Floor, .int .i64 t35_0_Panel, .bool false], [.int .i64 t45_0_Floor, .int .i64 t45_0_Panel, .bool t45_0_Out]], true, 0⟩
                        refine WJ.adv 10 rfl ?_
                        obtain ⟨K26, hK26, hp⟩ : ∃ K, K = _ ∧ Option.bind _ K = some r := ⟨_, rfl, cutS hp⟩
                        refine WJ.cut 2 (α := Unit) (fun y => []) (fun y => [[.int .i64 t25_1_Domain, .bool v0_1_22, .bool v0_2_22, .bool v0_3_22, .int .i64 t25_1_At, .int .i64 t25_1_Panel], [.int .i64 t35_0_Floor, .int .i64 t35_0_Panel, .bool false], [.int .i64 t45_0_Floor, .int .i64 t45_0_Panel, .bool t45_0_Out]]) (fun y => []) (fun y => B5) (fun y => K26 (Sum.inr ()) = some r) ?_ (fun j26 => ?_)
                        · rintro u hp
                          subst hK26
                          show WJ _ _ _ B5 [] _ _ ⟨[], [[.int .i64 t25_1_Domain, .bool v0_1_22, .bool v0_2_22, .bool v0_3_22, .int .i64 t25_1_At, .int .i64 t25_1_Panel], [.int .i64 t35_0_Floor, .int .i64 t35_0_Panel, .bool false], [.int .i64 t45_0_Floor, .int .i64 t45_0_Panel, .bool t45_0_Out]], true, 0⟩
                          obtain ⟨t189, e189, hp⟩ := bindS hp
                          refine WJ.cl 202 (R := R_4 t189) (fun hm h k => R_4.mono hm h k) rfl (fun ids H' fr => f6_ok e189) ?_
                          rintro v B8 ⟨abB8, ivB8⟩ rfl
                          refine ⟨_, rfl, ?_⟩
                          replace g_t25_0 := g_t25_0.mono (Nat.le_refl _) (abB8.le (Nat.zero_le _))
                          obtain rfl := endS (show some _ = some r from hp)
                          exact WJ.rt 202 rfl rfl rfl (fun ids H' fr => ⟨fr.ext0, rfl⟩)
                        · refine WJ.lp 200 (α := Nat × Int × Int) (fun y => [(7, .v (.slice a_t25_0 t25_0.length c_t25_0)), (8, .p 0 0), (10, .p 1 0), (17, .v (.int .i64 y.2.1)), (18, .v (.int .i64 x18_23)), (20, .v (.int .i64 y.2.2))]) (fun y => [[.int .i64 t25_1_Domain, .bool v0_1_22, .bool v0_2_22, .bool v0_3_22, .int .i64 t25_1_At, .int .i64 t25_1_Panel], [.int .i64 t35_0_Floor, .int .i64 t35_0_Panel, .bool false], [.int .i64 t45_0_Floor, .int .i64 t45_0_Panel, .bool t45_0_Out]]) (fun y => []) (fun y => B5) (fun y => y.1) (fun y => Option.bind (f4_l2 t25_0 x18_23 t25_1_At t35_0_Floor y.1 y.2.1 y.2.2) K26 = some r) (k, 0, 0) rfl hp (by exact ⟨rfl, rfl, rfl, rfl, rfl, rfl, trivial⟩) rfl rfl rfl ?_
                          rintro ⟨n, x17, x20⟩ hp ih26
                          show WJ _ _ _ B5 [] _ _ ⟨[(7, .v (.slice a_t25_0 t25_0.length c_t25_0)), (8, .p 0 0), (10, .p 1 0), (17, .v (.int .i64 x17)), (18, .v (.int .i64 x18_23)), (20, .v (.int .i64 x20))], [[.int .i64 t25_1_Domain, .bool v0_1_22, .bool v0_2_22, .bool v0_3_22, .int .i64 t25_1_At, .int .i64 t25_1_Panel], [.int .i64 t35_0_Floor, .int .i64 t35_0_Panel, .bool false], [.int .i64 t45_0_Floor, .int .i64 t45_0_Panel, .bool t45_0_Out]], true, 0⟩
                          replace hp : Option.bind (f4_l2 t25_0 x18_23 t25_1_At t35_0_Floor n x17 x20) K26 = some r := hp
                          cases n with
                          | zero => rw [f4_l2] at hp; exact (noS hp).elim
                          | succ n =>
                            rw [f4_l2] at hp
                            refine WJ.ci 206 hp rfl rfl rfl rfl rfl rfl rfl rfl rfl (fun hc153 hp => ?_) (fun hc153 hp => ?_)
                            · refine WJ.hd (v := .int .i64 (gmax (IntKind.i64.wrap (x17 - t25_1_At)) (IntKind.i64.wrap (t25_1_At - x17)))) 215 rfl rfl rfl rfl (fun ids H' fr => opD_max rfl rfl rfl (evV_eq (v := .v (.int .i64 (IntKind.i64.wrap (x17 - t25_1_At)))) _ _ _ _ _ rfl) (evV_eq (v := .v (.int .i64 (IntKind.i64.wrap (t25_1_At - x17)))) _ _ _ _ _ rfl)) rfl ?_
                              refine WJ.adv 4 rfl ?_
                              obtain ⟨K27, hK27, hp⟩ : ∃ K, K = _ ∧ Option.bind _ K = some r := ⟨_, rfl, cutS hp⟩
                              refine WJ.cut 2 (α := Unit) (fun y => [(7, .v (.slice a_t25_0 t25_0.length c_t25_0)), (8, .p 0 0), (10, .p 1 0), (17, .v (.int .i64 x17)), (18, .v (.int .i64 x18_23)), (20, .v (.int .i64 x20))]) (fun y => [[.int .i64 t25_1_Domain, .bool v0_1_22, .bool v0_2_22, .bool v0_3_22, .int .i64 t25_1_At, .int .i64 t25_1_Panel], [.int .i64 t35_0_Floor, .int .i64 t35_0_Panel, .bool false], [.int .i64 t45_0_Floor, .int .i64 t45_0_Panel, .bool t45_0_Out]]) (fun y => []) (fun y => B5) (fun y => K27 ((Sum.inr ())) = some r) ?_ (fun j27 => ?_)
                              · rintro u hp
                                subst hK27
                                show WJ _ _ _ B5 [] _ _ ⟨[(7, .v (.slice a_t25_0 t25_0.length c_t25_0)), (8, .p 0 0), (10, .p 1 0), (17, .v (.int .i64 x17)), (18, .v (.int .i64 x18_23)), (20, .v (.int .i64 x20))], [[.int .i64 t25_1_Domain, .bool v0_1_22, .bool v0_2_22, .bool v0_3_22, .int .i64 t25_1_At, .int .i64 t25_1_Panel], [.int .i64 t35_0_Floor, .int .i64 t35_0_Panel, .bool false], [.int .i64 t45_0_Floor, .int .i64 t45_0_Panel, .bool t45_0_Out]], true, 0⟩
                                refine WJ.adv 1 rfl ?_
                                obtain ⟨K28, hK28, hp⟩ : ∃ K, K = _ ∧ Option.bind _ K = some r := ⟨_, rfl, cutS hp⟩
                                refine WJ.cut 3 (α := Int) (fun y => [(7, .v (.slice a_t25_0 t25_0.length c_t25_0)), (8, .p 0 0), (10, .p 1 0), (17, .v (.int .i64 y)), (18, .v (.int .i64 x18_23)), (20, .v (.int .i64 x20))]) (fun y => [[.int .i64 t25_1_Domain, .bool v0_1_22, .bool v0_2_22, .bool v0_3_22, .int .i64 t25_1_At, .int .i64 t25_1_Panel], [.int .i64 t35_0_Floor, .int .i64 t35_0_Panel, .bool false], [.int .i64 t45_0_Floor, .int .i64 t45_0_Panel, .bool t45_0_Out]]) (fun y => []) (fun y => B5) (fun y => K28 ((y)) = some r) ?_ (fun j28 => ?_)
                                · rintro x17_28 hp
                                  subst hK28
                                  show WJ _ _ _ B5 [] _ _ ⟨[(7, .v (.slice a_t25_0 t25_0.length c_t25_0)), (8, .p 0 0), (10, .p 1 0), (17, .v (.int .i64 x17_28)), (18, .v (.int .i64 x18_23)), (20, .v (.int .i64 x20))], [[.int .i64 t25_1_Domain, .bool v0_1_22, .bool v0_2_22, .bool v0_3_22, .int .i64 t25_1_At, .int .i64 t25_1_Panel], [.int .i64 t35_0_Floor, .int .i64 t35_0_Panel, .bool false], [.int .i64 t45_0_Floor, .int .i64 t45_0_Panel, .bool t45_0_Out]], true, 0⟩
                                  exact WJ.ag 205 rfl (by exact ⟨rfl, rfl, rfl, rfl, rfl, rfl, trivial⟩) rfl rfl rfl (ih26 (n, x17_28, IntKind.i64.wrap (x20 + 1)) hp (Nat.lt_succ_self _))
                                · refine WJ.ci 204 hp rfl rfl rfl rfl rfl rfl rfl rfl rfl (fun hc182 hp => ?_) (fun hc182 hp => ?_)
                                  · obtain ⟨t186, e186, hp⟩ := bindS hp
                                    obtain ⟨b186, o186, cs186, i186, rfl, p186⟩ := g_t25_0.at e186 u31 sz3
                                    refine WJ.hd (v := .pointer (some ⟨b186, o186, none⟩)) 206 rfl rfl rfl rfl (fun ids H' fr => opD_indexAddr rfl (evV_eq _ _ _ _ _ rfl) (evV_eq _ _ _ _ _ rfl) (i186 _)) rfl ?_
                                    refine WJ.hd (v := .int .i64 t186) 200 rfl rfl rfl rfl (fun ids H' fr => opD_load rfl (evV_eq _ _ _ _ _ rfl) ((p186.mono (Nat.zero_le _) (fr.abv.le (Nat.zero_le _))).load (d := 0) ag3 rfl)) rfl ?_
                                    exact WJ.goto 4 (j28 (IntKind.i64.wrap (x17 + t186)) hp) rfl rfl (by exact ⟨rfl, rfl, rfl, rfl, rfl, rfl, trivial⟩) rfl rfl rfl
                                  · exact WJ.goto 4 (j28 x17 hp) rfl rfl (by exact ⟨rfl, rfl, rfl, rfl, rfl, rfl, trivial⟩) rfl rfl rfl
                              · refine WJ.ci 203 hp rfl rfl rfl rfl rfl rfl rfl rfl rfl (fun hc167 hp => ?_) (fun hc167 hp => ?_)
                                · subst hK27
                                  subst hK26
                                  obtain rfl := endS (show some _ = some r from hp)
                                  exact WJ.rt 217 rfl rfl rfl (fun ids H' fr => ⟨fr.ext0, rfl⟩)
                                · refine WJ.ci 203 hp rfl rfl rfl rfl rfl rfl rfl rfl rfl (fun hc171 hp => ?_) (fun hc171 hp => ?_)
                                  · refine WJ.ci 204 hp rfl rfl rfl rfl rfl rfl rfl rfl rfl (fun hc176 hp => ?_) (fun hc176 hp => ?_)
                                    · subst hK27
                                      subst hK26
                                      obtain rfl := endS (show some _ = some r from hp)
                                      exact WJ.rt 208 rfl rfl rfl (fun ids H' fr => ⟨fr.ext0, rfl⟩)
                                    · exact WJ.goto 5 (j27 () hp) rfl rfl (by exact ⟨rfl, rfl, rfl, rfl, rfl, rfl, trivial⟩) rfl rfl rfl
                                  · exact WJ.goto 10 (j27 () hp) rfl rfl (by exact ⟨rfl, rfl, rfl, rfl, rfl, rfl, trivial⟩) rfl rfl rfl
                            · exact WJ.goto 3 (j26 () hp) rfl rfl (by exact trivial) rfl rfl rfl
                      · refine WJ.lp 200 (α := Nat × Int × Int × Int) (fun y => [(7, .v (.slice a_t25_0 t25_0.length c_t25_0)), (8, .p 0 0), (10, .p 1 0), (17, .v (.int .i64 y.2.1)), (18, .v (.int .i64 y.2.2.1)), (19, .v (.int .i64 y.2.2.2))]) (fun y => [[.int .i64 t25_1_Domain, .bool v0_1_22, .bool v0_2_22, .bool v0_3_22, .int .i64 t25_1_At, .int .i64 t25_1_Panel], [.int .i64 t35_0_Floor, .int .i64 t35_0_Panel, .bool false], [.int .i64 t45_0_Floor, .int .i64 t45_0_Panel, .bool t45_0_Out]]) (fun y => []) (fun y => B5) (fun y => y.1) (fun y => Option.bind (f4_l1 t25_0 t35_0_Floor t25_1_At y.1 y.2.1 y.2.2.1 y.2.2.2) K23 = some r) (k, 0, 0, 0) rfl hp (by exact ⟨rfl, rfl, rfl, rfl, rfl, rfl, trivial⟩) rfl rfl rfl ?_
                        rintro ⟨n, x17, x18, x19⟩ hp ih23
                        show WJ _ _ _ B5 [] _ _ ⟨[(7, .v (.slice a_t25_0 t25_0.length c_t25_0)), (8, .p 0 0), (10, .p 1 0), (17, .v (.int .i64 x17)), (18, .v (.int .i64 x18)), (19, .v (.int .i64 x19))], [[.int .i64 t25_1_Domain, .bool v0_1_22, .bool v0_2_22, .bool v0_3_22, .int .i64 t25_1_At, .int .i64 t25_1_Panel], [.int .i64 t35_0_Floor, .int .i64 t35_0_Panel, .bool false], [.int .i64 t45_0_Floor, .int .i64 t45_0_Panel, .bool t45_0_Out]], true, 0⟩
                        replace hp : Option.bind (f4_l1 t25_0 t35_0_Floor t25_1_At n x17 x18 x19) K23 = some r := hp
                        cases n with
                        | zero => rw [f4_l1] at hp; exact (noS hp).elim
                        | succ n =>
                          rw [f4_l1] at hp
                          refine WJ.ci 206 hp rfl rfl rfl rfl rfl rfl rfl rfl rfl (fun hc124 hp => ?_) (fun hc124 hp => ?_)
                          · refine WJ.adv 7 rfl ?_
                            obtain ⟨K24, hK24, hp⟩ : ∃ K, K = _ ∧ Option.bind _ K = some r := ⟨_, rfl, cutS hp⟩
                            refine WJ.cut 2 (α := Int) (fun y => [(7, .v (.slice a_t25_0 t25_0.length c_t25_0)), (8, .p 0 0), (10, .p 1 0), (17, .v (.int .i64 x17)), (18, .v (.int .i64 y)), (19, .v (.int .i64 x19))]) (fun y => [[.int .i64 t25_1_Domain, .bool v0_1_22, .bool v0_2_22, .bool v0_3_22, .int .i64 t25_1_At, .int .i64 t25_1_Panel], [.int .i64 t35_0_Floor, .int .i64 t35_0_Panel, .bool false], [.int .i64 t45_0_Floor, .int .i64 t45_0_Panel, .bool t45_0_Out]]) (fun y => []) (fun y => B5) (fun y => K24 ((y)) = some r) ?_ (fun j24 => ?_)
                            · rintro x18_24 hp
                              subst hK24
                              show WJ _ _ _ B5 [] _ _ ⟨[(7, .v (.slice a_t25_0 t25_0.length c_t25_0)), (8, .p 0 0), (10, .p 1 0), (17, .v (.int .i64 x17)), (18, .v (.int .i64 x18_24)), (19, .v (.int .i64 x19))], [[.int .i64 t25_1_Domain, .bool v0_1_22, .bool v0_2_22, .bool v0_3_22, .int .i64 t25_1_At, .int .i64 t25_1_Panel], [.int .i64 t35_0_Floor, .int .i64 t35_0_Panel, .bool false], [.int .i64 t45_0_Floor, .int .i64 t45_0_Panel, .bool t45_0_Out]], true, 0⟩
                              refine WJ.adv 1 rfl ?_
                              obtain ⟨K25, hK25, hp⟩ : ∃ K, K = _ ∧ Option.bind _ K = some r := ⟨_, rfl, cutS hp⟩
                              refine WJ.cut 3 (α := Int) (fun y => [(7, .v (.slice a_t25_0 t25_0.length c_t25_0)), (8, .p 0 0), (10, .p 1 0), (17, .v (.int .i64 y)), (18, .v (.int .i64 x18_24)), (19, .v (.int .i64 x19))]) (fun y => [[.int .i64 t25_1_Domain, .bool v0_1_22, .bool v0_2_22, .bool v0_3_22, .int .i64 t25_1_At, .int .i64 t25_1_Panel], [.int .i64 t35_0_Floor, .int .i64 t35_0_Panel, .bool false], [.int .i64 t45_0_Floor, .int .i64 t45_0_Panel, .bool t45_0_Out]]) (fun y => []) (fun y => B5) (fun y => K25 ((y)) = some r) ?_ (fun j25 => ?_)
                              · rintro x17_25 hp
                                subst hK25
                                show WJ _ _ _ B5 [] _ _ ⟨[(7, .v (.slice a_t25_0 t25_0.length c_t25_0)), (8, .p 0 0), (10, .p 1 0), (17, .v (.int .i64 x17_25)), (18, .v (.int .i64 x18_24)), (19, .v (.int .i64 x19))], [[.int .i64 t25_1_Domain, .bool v0_1_22, .bool v0_2_22, .bool v0_3_22, .int .i64 t25_1_At, .int .i64 t25_1_Panel], [.int .i64 t35_0_Floor, .int .i64 t35_0_Panel, .bool false], [.int .i64 t45_0_Floor, .int .i64 t45_0_Panel, .bool t45_0_Out]], true, 0⟩
                                exact WJ.ag 205 rfl (by exact ⟨rfl, rfl, rfl, rfl, rfl, rfl, trivial⟩) rfl rfl rfl (ih23 (n, x17_25, x18_24, IntKind.i64.wrap (x19 + 1)) hp (Nat.lt_succ_self _))
                              · refine WJ.ci 204 hp rfl rfl rfl rfl rfl rfl rfl rfl rfl (fun hc143 hp => ?_) (fun hc143 hp => ?_)
                                · obtain ⟨t147, e147, hp⟩ := bindS hp
                                  obtain ⟨b147, o147, cs147, i147, rfl, p147⟩ := g_t25_0.at e147 u31 sz3
                                  refine WJ.hd (v := .pointer (some ⟨b147, o147, none⟩)) 206 rfl rfl rfl rfl (fun ids H' fr => opD_indexAddr rfl (evV_eq _ _ _ _ _ rfl) (evV_eq _ _ _ _ _ rfl) (i147 _)) rfl ?_
                                  refine WJ.hd (v := .int .i64 t147) 200 rfl rfl rfl rfl (fun ids H' fr => opD_load rfl (evV_eq _ _ _ _ _ rfl) ((p147.mono (Nat.zero_le _) (fr.abv.le (Nat.zero_le _))).load (d := 0) ag3 rfl)) rfl ?_
                                  exact WJ.goto 4 (j25 (IntKind.i64.wrap (x17 + t147)) hp) rfl rfl (by exact ⟨rfl, rfl, rfl, rfl, rfl, rfl, trivial⟩) rfl rfl rfl
                                · exact WJ.goto 4 (j25 x17 hp) rfl rfl (by exact ⟨rfl, rfl, rfl, rfl, rfl, rfl, trivial⟩) rfl rfl rfl
                            · refine WJ.ci 204 hp rfl rfl rfl rfl rfl rfl rfl rfl rfl (fun hc130 hp => ?_) (fun hc130 hp => ?_)
                              · refine WJ.hd (v := .int .i64 (gmax (IntKind.i64.wrap (x17 - t25_1_At)) (IntKind.i64.wrap (t25_1_At - x17)))) 211 rfl rfl rfl rfl (fun ids H' fr => opD_max rfl rfl rfl (evV_eq (v := .v (.int .i64 (IntKind.i64.wrap (x17 - t25_1_At)))) _ _ _ _ _ rfl) (evV_eq (v := .v (.int .i64 (IntKind.i64.wrap (t25_1_At - x17)))) _ _ _ _ _ rfl)) rfl ?_
                                exact WJ.goto 2 (j24 (gmax (IntKind.i64.wrap (x17 - t25_1_At)) (IntKind.i64.wrap (t25_1_At - x17))) hp) rfl rfl (by exact ⟨rfl, rfl, rfl, rfl, rfl, rfl, trivial⟩) rfl rfl rfl
                              · exact WJ.goto 3 (j24 x18 hp) rfl rfl (by exact ⟨rfl, rfl, rfl, rfl, rfl, rfl, trivial⟩) rfl rfl rfl
                          · exact WJ.goto 3 (j23 x18 hp) rfl rfl (by exact ⟨rfl, rfl, rfl, rfl, trivial⟩) rfl rfl rfl
                  · replace hp := (itS hp).1 rfl
                    obtain rfl := endS (show some _ = some r from hp)
                    exact WJ.rt 217 rfl rfl rfl (fun ids H' fr => ⟨fr.ext0, rfl⟩)
            · replace hp := (itS hp).1 rfl
              obtain rfl := endS (show some _ = some r from hp)
              exact WJ.rt 206 rfl rfl rfl (fun ids H' fr => ⟨fr.ext0, rfl⟩)
          · refine WJ.ci 204 hp rfl rfl rfl rfl rfl rfl rfl rfl rfl (fun hc66 hp => ?_) (fun hc66 hp => ?_)
            · cases t25_1_Service
              · replace hp := (itS hp).2 Bool.false_ne_true
                exact WJ.goto 16 (j22 (false, t25_1_Faulted, t25_1_Homing, false) hp) rfl rfl (by exact ⟨rfl, rfl, rfl, rfl, trivial⟩) rfl rfl rfl
              · replace hp := (itS hp).1 rfl
                cases t25_1_Faulted
                · replace hp := (itS hp).2 Bool.false_ne_true
                  cases t25_1_Homing
                  · replace hp := (itS hp).2 Bool.false_ne_true
                    exact WJ.goto 16 (j22 (true, false, false, true) hp) rfl rfl (by exact ⟨rfl, rfl, rfl, rfl, trivial⟩) rfl rfl rfl
                  · replace hp := (itS hp).1 rfl
                    exact WJ.goto 16 (j22 (true, false, true, false) hp) rfl rfl (by exact ⟨rfl, rfl, rfl, rfl, trivial⟩) rfl rfl rfl
                · replace hp := (itS hp).1 rfl
                  exact WJ.goto 16 (j22 (true, true, t25_1_Homing, false) hp) rfl rfl (by exact ⟨rfl, rfl, rfl, rfl, trivial⟩) rfl rfl rfl
            · exact WJ.goto 16 (j22 (t25_1_Service, t25_1_Faulted, t25_1_Homing, false) hp) rfl rfl (by exact ⟨rfl, rfl, rfl, rfl, trivial⟩) rfl rfl rfl
/-! 14 tipstaff/tipstafflaw32.car -/
def f14 (x0 : Int) : Option Shown :=
  some (Shown.mk 1 true false false x0 3)
set_option maxRecDepth 20000 in
theorem f14_ok {H : Hp} {x0 : Int} {r : Shown} (hp : f14 x0 = some r) :
    SCall Tryd.prog 14 [.int .i64 x0] H (Ret fun v H' => Ext H H' ∧ R_33 r H.next H' v) := by
  unfold f14 at hp
  replace hp := topS hp
  refine SCall.g Tryd.func14 rfl rfl rfl rfl rfl (l := [(0, .v (.int .i64 x0))]) (fun _ => rfl) (fun B abB => ?_)
  obtain rfl := endS (show some _ = some r from hp)
  exact WJ.rt 210 rfl rfl rfl (fun ids H' fr => ⟨fr.ext0, rfl⟩)
/-! 16 tipstaff/tipstafflaw32.gaps -/
def f16 : Option (List Int) :=
  some ([10, 20])
set_option maxRecDepth 20000 in
theorem f16_ok {H : Hp} {r : List Int} (hp : f16 = some r) :
    SCall Tryd.prog 16 [] H (Ret fun v H' => Ext H H' ∧ R_31 r H.next H' v) := by
  unfold f16 at hp
  replace hp := topS hp
  refine SCall.g Tryd.func16 rfl rfl rfl rfl rfl (l := []) (fun _ => rfl) (fun B abB => ?_)
  refine WJ.bs (cs := encL iE [10, 20]) (sz := 1) (pl := [(0, .int .i64 10), (1, .int .i64 20)]) 206 rfl rfl rfl rfl rfl (fun _ _ => rfl) (fun _ => by rfl) rfl rfl ?_
  intro b1
  refine ⟨_, rfl, ?_⟩
  obtain rfl := endS (show some _ = some r from hp)
  exact WJ.rt 202 rfl rfl rfl (fun ids H' fr => ⟨fr.ext0, ⟨_, _, rfl, (fr.slOwn (j := 0) rfl rfl (Nat.le_refl _))⟩⟩)
/-! 15 tipstaff/tipstafflaw32.shows -/
def f15 (k : Nat) (x0 : Int) (x1 : Shown) (x2 : Int) (x3 : Int) (x4 : Bool) : Option Bool :=
  (f16).bind fun t14 =>
  (f13 k t14 x0 (Shown.mk x1.Domain x1.Service x1.Faulted x1.Homing x1.At x1.Panel)).bind fun (t17_0, t17_1) =>
  if (Sight.mk t17_0.Floor t17_0.Panel t17_0.Out) = (Sight.mk x2 x3 x4) then
    (some (t17_1 == 0)).bind fun t28 =>
    some t28
  else
    some false
set_option maxRecDepth 20000 in
theorem f15_ok {k : Nat} {H : Hp} {x0 : Int} {x1 : Shown} {x2 : Int} {x3 : Int} {x4 : Bool} {r : Bool} (hp : f15 k x0 x1 x2 x3 x4 = some r) :
    SCall Tryd.prog 15 [.int .i64 x0, .agg ⟨[.int .i64 x1.Domain, .bool x1.Service, .bool x1.Faulted, .bool x1.Homing, .int .i64 x1.At, .int .i64 x1.Panel]⟩, .int .i64 x2, .int .i64 x3, .bool x4] H (Ret fun v H' => Ext H H' ∧ R_4 r H.next H' v) := by
  obtain ⟨x1_Domain, x1_Service, x1_Faulted, x1_Homing, x1_At, x1_Panel⟩ := x1
  unfold f15 at hp
  replace hp := topS hp
  refine SCall.g Tryd.func15 rfl rfl rfl rfl rfl (l := [(0, .v (.int .i64 x0)), (1, .v (.agg ⟨[.int .i64 x1_Domain, .bool x1_Service, .bool x1_Faulted, .bool x1_Homing, .int .i64 x1_At, .int .i64 x1_Panel]⟩)), (2, .v (.int .i64 x2)), (3, .v (.int .i64 x3)), (4, .v (.bool x4))]) (fun _ => rfl) (fun B abB => ?_)
  refine WJ.drF 206 rfl gmix (by kernel_rfl) (by kernel_rfl) rfl (fun D1 eD1 abD1 => ?_)
  obtain ⟨t14, e14, hp⟩ := bindS hp
  refine WD.cl (R := R_31 t14) (fun hm h k => R_31.mono hm h k) rfl (fun ids H' fr => f16_ok e14) ?_
  rintro v B2 ⟨abB2, ivB2⟩ ⟨a_t14, c_t14, rfl, g_t14⟩
  refine ⟨_, rfl, ?_⟩
  obtain ⟨⟨⟨t17_0_Floor, t17_0_Panel, t17_0_Out⟩, t17_1⟩, e17, hp⟩ := bindS hp
  refine WD.cl (R := R_23_25 ⟨⟨t17_0_Floor, t17_0_Panel, t17_0_Out⟩, t17_1⟩) (fun hm h k => R_23_25.mono hm h k) rfl (fun ids H' fr => f13_ok (x2 := (Shown.mk x1_Domain x1_Service x1_Faulted x1_Homing x1_At x1_Panel)) (g_t14.mono (Nat.zero_le _) (fr.abv.le (Nat.zero_le _))) e17) ?_
  rintro v B3 ⟨abB3, ivB3⟩ rfl
  refine ⟨_, rfl, ?_⟩
  replace g_t14 := g_t14.mono (Nat.le_refl _) (abB3.le (Nat.zero_le _))
  refine WD.done rfl ?_
  refine WJ.ci 207 hp rfl rfl rfl rfl rfl rfl (opD_eqS rfl rfl rfl rfl gd23 (eq23 t17_0_Floor t17_0_Panel t17_0_Out x2 x3 x4)) rfl rfl (fun hc25 hp => ?_) (fun hc25 hp => ?_)
  · obtain ⟨t28, e28, hp⟩ := bindS hp
    refine WJ.cv 202 (b := t28) (H0 := ⟨.nil, 0, 0⟩) rfl rfl rfl rfl rfl rfl (by rw [← endS e28]; exact rfl) rfl ?_
    obtain rfl := endS (show some _ = some r from hp)
    exact WJ.rt 203 rfl rfl rfl (fun ids H' fr => ⟨fr.ext0, rfl⟩)
  · obtain rfl := endS (show some _ = some r from hp)
    exact WJ.rt 206 rfl rfl rfl (fun ids H' fr => ⟨fr.ext0, rfl⟩)
/-! 17 tipstaff/tipstafflaw32.text -/
def f17 (k : Nat) (x0 : Sight) (x1 : List UInt8) : Option Bool :=
  (f7 (Sight.mk x0.Floor x0.Panel x0.Out)).bind fun (t11_0, t11_1) =>
  (f9 k x1).bind fun (t16_0, t16_1) =>
  if t11_0 = x1 then
    if t11_1 = 0 then
      if (Sight.mk t16_0.Floor t16_0.Panel t16_0.Out) = (Sight.mk x0.Floor x0.Panel x0.Out) then
        (some (t16_1 == 0)).bind fun t33 =>
        some t33
      else
        some false
    else
      some false
  else
    some false
set_option maxRecDepth 20000 in
theorem f17_ok {k : Nat} {H : Hp} {x0 : Sight} {x1 : List UInt8} {r : Bool} (hp : f17 k x0 x1 = some r) :
    SCall Tryd.prog 17 [.agg ⟨[.int .i64 x0.Floor, .int .i64 x0.Panel, .bool x0.Out]⟩, .string (bs x1)] H (Ret fun v H' => Ext H H' ∧ R_4 r H.next H' v) := by
  obtain ⟨x0_Floor, x0_Panel, x0_Out⟩ := x0
  unfold f17 at hp
  replace hp := topS hp
  refine SCall.g Tryd.func17 rfl rfl rfl rfl rfl (l := [(0, .v (.agg ⟨[.int .i64 x0_Floor, .int .i64 x0_Panel, .bool x0_Out]⟩)), (1, .v (.string (bs x1)))]) (fun _ => rfl) (fun B abB => ?_)
  obtain ⟨⟨t11_0, t11_1⟩, e11, hp⟩ := bindS hp
  refine WJ.cl 208 (R := R_9_25 ⟨t11_0, t11_1⟩) (fun hm h k => R_9_25.mono hm h k) rfl (fun ids H' fr => f7_ok (x0 := (Sight.mk x0_Floor x0_Panel x0_Out)) e11) ?_
  rintro v B1 ⟨abB1, ivB1⟩ rfl
  refine ⟨_, rfl, ?_⟩
  obtain ⟨⟨⟨t16_0_Floor, t16_0_Panel, t16_0_Out⟩, t16_1⟩, e16, hp⟩ := bindS hp
  refine WJ.cl 209 (R := R_23_25 ⟨⟨t16_0_Floor, t16_0_Panel, t16_0_Out⟩, t16_1⟩) (fun hm h k => R_23_25.mono hm h k) rfl (fun ids H' fr => f9_ok e16) ?_
  rintro v B2 ⟨abB2, ivB2⟩ rfl
  refine ⟨_, rfl, ?_⟩
  refine WJ.ci 211 hp rfl rfl rfl rfl rfl rfl (opD_streq rfl rfl rfl) rfl rfl (fun hc21 hp => ?_) (fun hc21 hp => ?_)
  · refine WJ.ci 202 hp rfl rfl rfl rfl rfl rfl rfl rfl rfl (fun hc24 hp => ?_) (fun hc24 hp => ?_)
    · refine WJ.ci 204 hp rfl rfl rfl rfl rfl rfl (opD_eqS rfl rfl rfl rfl gd23 (eq23 t16_0_Floor t16_0_Panel t16_0_Out x0_Floor x0_Panel x0_Out)) rfl rfl (fun hc29 hp => ?_) (fun hc29 hp => ?_)
      · obtain ⟨t33, e33, hp⟩ := bindS hp
        refine WJ.cv 203 (b := t33) (H0 := ⟨.nil, 0, 0⟩) rfl rfl rfl rfl rfl rfl (by rw [← endS e33]; exact rfl) rfl ?_
        obtain rfl := endS (show some _ = some r from hp)
        exact WJ.rt 203 rfl rfl rfl (fun ids H' fr => ⟨fr.ext0, rfl⟩)
      · obtain rfl := endS (show some _ = some r from hp)
        exact WJ.rt 207 rfl rfl rfl (fun ids H' fr => ⟨fr.ext0, rfl⟩)
    · obtain rfl := endS (show some _ = some r from hp)
      exact WJ.rt 212 rfl rfl rfl (fun ids H' fr => ⟨fr.ext0, rfl⟩)
  · obtain rfl := endS (show some _ = some r from hp)
    exact WJ.rt 215 rfl rfl rfl (fun ids H' fr => ⟨fr.ext0, rfl⟩)
/-! 19 tipstaff/scrub.Differ -/
def f19 (x0 : Sight) (x1 : Sight) : Option (List Int) :=
  (if x0.Floor = x1.Floor then
    some (([]))
  else
    (apd 8 ([]) ([1])).bind fun l16u1 =>
    some (l16u1)).bind fun l2_30 =>
    (if x0.Panel = x1.Panel then
      some (l2_30)
    else
      (apd 8 l2_30 ([2])).bind fun l16u4 =>
      some (l16u4)).bind fun l2_32 =>
      ((some (x0.Out == x1.Out)).bind fun t11u6 =>
      if t11u6 then
        some (l2_32)
      else
        (apd 8 l2_32 ([3])).bind fun l16u6 =>
        some (l16u6)).bind fun l2_34 =>
        some l2_34
set_option maxHeartbeats 3200000 in
set_option maxRecDepth 20000 in
theorem f19_ok {H : Hp} {x0 : Sight} {x1 : Sight} {r : List Int} (hp : f19 x0 x1 = some r) :
    SCall Tryd.prog 19 [.agg ⟨[.int .i64 x0.Floor, .int .i64 x0.Panel, .bool x0.Out]⟩, .agg ⟨[.int .i64 x1.Floor, .int .i64 x1.Panel, .bool x1.Out]⟩] H (Ret fun v H' => Ext H H' ∧ R_31 r H.next H' v) := by
  obtain ⟨x0_Floor, x0_Panel, x0_Out⟩ := x0
  obtain ⟨x1_Floor, x1_Panel, x1_Out⟩ := x1
  unfold f19 at hp
  replace hp := topS hp
  refine SCall.g Tryd.func19 rfl rfl rfl rfl rfl (l := [(0, .v (.agg ⟨[.int .i64 x0_Floor, .int .i64 x0_Panel, .bool x0_Out]⟩)), (1, .v (.agg ⟨[.int .i64 x1_Floor, .int .i64 x1_Panel, .bool x1_Out]⟩))]) (fun _ => rfl) (fun B abB => ?_)
  refine WJ.adv 3 rfl ?_
  refine WJ.liftS (loc := []) rfl rfl (fun bv0 => ?_)
  refine WJ.adv 1 rfl ?_
  refine WJ.liftS (loc := []) rfl rfl (fun bv1 => ?_)
  refine WJ.hd (v := .int .i64 x0_Floor) 205 rfl rfl rfl rfl (fun ids H' fr => opD_load rfl (evV_eq _ _ _ _ _ rfl) (fr.ldOwn (j := 0) rfl rfl)) rfl ?_
  refine WJ.hd (v := .int .i64 x1_Floor) 201 rfl rfl rfl rfl (fun ids H' fr => opD_load rfl (evV_eq _ _ _ _ _ rfl) (fr.ldOwn (j := 1) rfl rfl)) rfl ?_
  refine WJ.nw 1 ?_
  obtain ⟨K30, hK30, hp⟩ : ∃ K, K = _ ∧ Option.bind _ K = some r := ⟨_, rfl, cutS hp⟩
  refine WJ.inlC 200 (α := (List Int) × (Option Addr) × Nat × Hp) (fun y => [(2, .v (.pointer (some ⟨bv0, 0, none⟩))), (3, .v (.pointer (some ⟨bv1, 0, none⟩))), (10, .v (.slice y.2.1 y.1.length y.2.2.1))]) (fun y => [⟨some ⟨bv0, 0, none⟩, 3, 1, [.int .i64 x0_Floor, .int .i64 x0_Panel, .bool x0_Out]⟩, ⟨some ⟨bv1, 0, none⟩, 3, 1, [.int .i64 x1_Floor, .int .i64 x1_Panel, .bool x1_Out]⟩, ⟨y.2.1, y.2.2.1, 1, encL iE y.1⟩]) (fun y => y.2.2.2) (fun y => K30 ((y.1)) = some r) rfl rfl Tryd.func27 rfl rfl rfl rfl rfl (lc := [(0, .v (.slice none ([] : List Int).length 0)), (1, .v (.int .i64 1)), (2, .v (.int .i64 x0_Floor)), (3, .v (.int .i64 x1_Floor))]) (fun _ => rfl) ?_ (fun j30 => ?_)
  · rintro ⟨l2_30, a2_30, c2_30, B1⟩ hp
    subst hK30
    show WJ _ _ _ B1 [⟨some ⟨bv0, 0, none⟩, 3, 1, [.int .i64 x0_Floor, .int .i64 x0_Panel, .bool x0_Out]⟩, ⟨some ⟨bv1, 0, none⟩, 3, 1, [.int .i64 x1_Floor, .int .i64 x1_Panel, .bool x1_Out]⟩, ⟨a2_30, c2_30, 1, encL iE l2_30⟩] _ _ ⟨[(2, .v (.pointer (some ⟨bv0, 0, none⟩))), (3, .v (.pointer (some ⟨bv1, 0, none⟩))), (10, .v (.slice a2_30 l2_30.length c2_30))], [], true, 0⟩
    refine WJ.hd (v := .int .i64 x0_Panel) 206 rfl rfl rfl rfl (fun ids H' fr => opD_load rfl (evV_eq _ _ _ _ _ rfl) (fr.ldOwn (j := 0) rfl rfl)) rfl ?_
    refine WJ.hd (v := .int .i64 x1_Panel) 201 rfl rfl rfl rfl (fun ids H' fr => opD_load rfl (evV_eq _ _ _ _ _ rfl) (fr.ldOwn (j := 1) rfl rfl)) rfl ?_
    obtain ⟨K32, hK32, hp⟩ : ∃ K, K = _ ∧ Option.bind _ K = some r := ⟨_, rfl, cutS hp⟩
    refine WJ.inlC 200 (α := (List Int) × (Option Addr) × Nat × Hp) (fun y => [(2, .v (.pointer (some ⟨bv0, 0, none⟩))), (3, .v (.pointer (some ⟨bv1, 0, none⟩))), (16, .v (.slice y.2.1 y.1.length y.2.2.1))]) (fun y => [⟨some ⟨bv0, 0, none⟩, 3, 1, [.int .i64 x0_Floor, .int .i64 x0_Panel, .bool x0_Out]⟩, ⟨some ⟨bv1, 0, none⟩, 3, 1, [.int .i64 x1_Floor, .int .i64 x1_Panel, .bool x1_Out]⟩, ⟨y.2.1, y.2.2.1, 1, encL iE y.1⟩]) (fun y => y.2.2.2) (fun y => K32 ((y.1)) = some r) rfl rfl Tryd.func27 rfl rfl rfl rfl rfl (lc := [(0, .v (.slice a2_30 l2_30.length c2_30)), (1, .v (.int .i64 2)), (2, .v (.int .i64 x0_Panel)), (3, .v (.int .i64 x1_Panel))]) (fun _ => rfl) ?_ (fun j32 => ?_)
    · rintro ⟨l2_32, a2_32, c2_32, B2⟩ hp
      subst hK32
      show WJ _ _ _ B2 [⟨some ⟨bv0, 0, none⟩, 3, 1, [.int .i64 x0_Floor, .int .i64 x0_Panel, .bool x0_Out]⟩, ⟨some ⟨bv1, 0, none⟩, 3, 1, [.int .i64 x1_Floor, .int .i64 x1_Panel, .bool x1_Out]⟩, ⟨a2_32, c2_32, 1, encL iE l2_32⟩] _ _ ⟨[(2, .v (.pointer (some ⟨bv0, 0, none⟩))), (3, .v (.pointer (some ⟨bv1, 0, none⟩))), (16, .v (.slice a2_32 l2_32.length c2_32))], [], true, 0⟩
      refine WJ.hd (v := .bool x0_Out) 206 rfl rfl rfl rfl (fun ids H' fr => opD_load rfl (evV_eq _ _ _ _ _ rfl) (fr.ldOwn (j := 0) rfl rfl)) rfl ?_
      refine WJ.hd (v := .bool x1_Out) 201 rfl rfl rfl rfl (fun ids H' fr => opD_load rfl (evV_eq _ _ _ _ _ rfl) (fr.ldOwn (j := 1) rfl rfl)) rfl ?_
      obtain ⟨K34, hK34, hp⟩ : ∃ K, K = _ ∧ Option.bind _ K = some r := ⟨_, rfl, cutS hp⟩
      refine WJ.inlC 200 (α := (List Int) × (Option Addr) × Nat × Hp) (fun y => [(22, .v (.slice y.2.1 y.1.length y.2.2.1))]) (fun y => [⟨some ⟨bv0, 0, none⟩, 3, 1, [.int .i64 x0_Floor, .int .i64 x0_Panel, .bool x0_Out]⟩, ⟨some ⟨bv1, 0, none⟩, 3, 1, [.int .i64 x1_Floor, .int .i64 x1_Panel, .bool x1_Out]⟩, ⟨y.2.1, y.2.2.1, 1, encL iE y.1⟩]) (fun y => y.2.2.2) (fun y => K34 ((y.1)) = some r) rfl rfl Tryd.func28 rfl rfl rfl rfl rfl (lc := [(0, .v (.slice a2_32 l2_32.length c2_32)), (1, .v (.int .i64 3)), (2, .v (.bool x0_Out)), (3, .v (.bool x1_Out))]) (fun _ => rfl) ?_ (fun j34 => ?_)
      · rintro ⟨l2_34, a2_34, c2_34, B3⟩ hp
        subst hK34
        show WJ _ _ _ B3 [⟨some ⟨bv0, 0, none⟩, 3, 1, [.int .i64 x0_Floor, .int .i64 x0_Panel, .bool x0_Out]⟩, ⟨some ⟨bv1, 0, none⟩, 3, 1, [.int .i64 x1_Floor, .int .i64 x1_Panel, .bool x1_Out]⟩, ⟨a2_34, c2_34, 1, encL iE l2_34⟩] _ _ ⟨[(22, .v (.slice a2_34 l2_34.length c2_34))], [], true, 0⟩
        obtain rfl := endS (show some _ = some r from hp)
        exact WJ.rt 202 rfl rfl rfl (fun ids H' fr => ⟨fr.ext0, ⟨_, _, rfl, (fr.slOwn (j := 2) rfl rfl (Nat.le_refl _))⟩⟩)
      · obtain ⟨t11u6, e11u6, hp⟩ := bindS hp
        refine WJ.cv 209 (b := t11u6) (H0 := ⟨.nil, 0, 0⟩) rfl rfl rfl rfl rfl rfl (by rw [← endS e11u6]; exact rfl) rfl ?_
        cases t11u6
        · replace hp := (itS hp).2 Bool.false_ne_true
          refine WJ.bs (cs := encL iE [3]) (sz := 1) (pl := [(0, .int .i64 3)]) 207 rfl rfl rfl rfl rfl (fun _ _ => rfl) (fun _ => by rfl) rfl rfl ?_
          intro b15u6
          refine ⟨_, rfl, ?_⟩
          obtain ⟨l16u6, e16u6, hp⟩ := bindS hp
          obtain ⟨bd16u6, rfl⟩ := apd_some e16u6
          refine WJ.ap (L := l2_32) (L2 := [3]) 200 2 rfl rfl rfl rfl rfl rfl rfl rfl (el31 rfl) rfl (fun _ => rfl) (fun _ => rfl) rfl (fun ids H' fr => fr.srcOwn (enc := iE) (sz := 1) (j := 3) (fun _ => rfl) (by decide) rfl) bd16u6 ?_
          intro a16u6 c16u6
          refine ⟨_, rfl, ?_⟩
          refine WJ.pop [⟨some ⟨bv0, 0, none⟩, 3, 1, [.int .i64 x0_Floor, .int .i64 x0_Panel, .bool x0_Out]⟩, ⟨some ⟨bv1, 0, none⟩, 3, 1, [.int .i64 x1_Floor, .int .i64 x1_Panel, .bool x1_Out]⟩, ⟨a16u6, c16u6, 1, encL iE (l2_32 ++ ([3]))⟩] rfl ?_
          refine WJ.inlR 202 rfl rfl rfl rfl ?_
          exact WJ.gotoO (j34 ((l2_32 ++ ([3])), a16u6, c16u6, B2) hp) (by exact ⟨rfl, trivial⟩) rfl rfl
        · replace hp := (itS hp).1 rfl
          refine WJ.inlR 207 rfl rfl rfl rfl ?_
          exact WJ.gotoO (j34 (l2_32, a2_32, c2_32, B2) hp) (by exact ⟨rfl, trivial⟩) rfl rfl
    · refine WJ.ci 209 hp rfl rfl rfl rfl rfl rfl rfl rfl rfl (fun hc11u4 hp => ?_) (fun hc11u4 hp => ?_)
      · refine WJ.inlR 207 rfl rfl rfl rfl ?_
        exact WJ.gotoO (j32 (l2_30, a2_30, c2_30, B1) hp) (by exact ⟨rfl, rfl, rfl, trivial⟩) rfl rfl
      · refine WJ.bs (cs := encL iE [2]) (sz := 1) (pl := [(0, .int .i64 2)]) 207 rfl rfl rfl rfl rfl (fun _ _ => rfl) (fun _ => by rfl) rfl rfl ?_
        intro b15u4
        refine ⟨_, rfl, ?_⟩
        obtain ⟨l16u4, e16u4, hp⟩ := bindS hp
        obtain ⟨bd16u4, rfl⟩ := apd_some e16u4
        refine WJ.ap (L := l2_30) (L2 := [2]) 200 2 rfl rfl rfl rfl rfl rfl rfl rfl (el31 rfl) rfl (fun _ => rfl) (fun _ => rfl) rfl (fun ids H' fr => fr.srcOwn (enc := iE) (sz := 1) (j := 3) (fun _ => rfl) (by decide) rfl) bd16u4 ?_
        intro a16u4 c16u4
        refine ⟨_, rfl, ?_⟩
        refine WJ.pop [⟨some ⟨bv0, 0, none⟩, 3, 1, [.int .i64 x0_Floor, .int .i64 x0_Panel, .bool x0_Out]⟩, ⟨some ⟨bv1, 0, none⟩, 3, 1, [.int .i64 x1_Floor, .int .i64 x1_Panel, .bool x1_Out]⟩, ⟨a16u4, c16u4, 1, encL iE (l2_30 ++ ([2]))⟩] rfl ?_
        refine WJ.inlR 202 rfl rfl rfl rfl ?_
        exact WJ.gotoO (j32 ((l2_30 ++ ([2])), a16u4, c16u4, B1) hp) (by exact ⟨rfl, rfl, rfl, trivial⟩) rfl rfl
  · refine WJ.ci 209 hp rfl rfl rfl rfl rfl rfl rfl rfl rfl (fun hc11u1 hp => ?_) (fun hc11u1 hp => ?_)
    · refine WJ.inlR 207 rfl rfl rfl rfl ?_
      exact WJ.gotoO (j30 (([] : List Int), none, 0, B) hp) (by exact ⟨rfl, rfl, rfl, trivial⟩) rfl rfl
    · refine WJ.bs (cs := encL iE [1]) (sz := 1) (pl := [(0, .int .i64 1)]) 207 rfl rfl rfl rfl rfl (fun _ _ => rfl) (fun _ => by rfl) rfl rfl ?_
      intro b15u1
      refine ⟨_, rfl, ?_⟩
      obtain ⟨l16u1, e16u1, hp⟩ := bindS hp
      obtain ⟨bd16u1, rfl⟩ := apd_some e16u1
      refine WJ.ap (L := ([] : List Int)) (L2 := [1]) 200 2 rfl rfl rfl rfl rfl rfl rfl rfl (el31 rfl) rfl (fun _ => rfl) (fun _ => rfl) rfl (fun ids H' fr => fr.srcOwn (enc := iE) (sz := 1) (j := 3) (fun _ => rfl) (by decide) rfl) bd16u1 ?_
      intro a16u1 c16u1
      refine ⟨_, rfl, ?_⟩
      refine WJ.pop [⟨some ⟨bv0, 0, none⟩, 3, 1, [.int .i64 x0_Floor, .int .i64 x0_Panel, .bool x0_Out]⟩, ⟨some ⟨bv1, 0, none⟩, 3, 1, [.int .i64 x1_Floor, .int .i64 x1_Panel, .bool x1_Out]⟩, ⟨a16u1, c16u1, 1, encL iE (([] : List Int) ++ ([1]))⟩] rfl ?_
      refine WJ.inlR 202 rfl rfl rfl rfl ?_
      exact WJ.gotoO (j30 ((([] : List Int) ++ ([1])), a16u1, c16u1, B) hp) (by exact ⟨rfl, rfl, rfl, trivial⟩) rfl rfl
/-! 18 tipstaff/tipstaffkit.SameInts -/
def f18_l1 (x0 : List Int) (x1 : List Int) : Nat → Int → Option ((Bool) ⊕ (Unit))
  | 0, _ => none
  | n + 1, x5 =>
    if x5 < (x0.length : Int) then
      (rd x0 x5).bind fun t19 =>
      (rd x1 x5).bind fun t23 =>
      if t19 = t23 then
        f18_l1 x0 x1 n (IntKind.i64.wrap (x5 + 1))
      else
        some (Sum.inl (false : Bool))
    else
      some (Sum.inr ())

def f18 (k : Nat) (x0 : List Int) (x1 : List Int) : Option Bool :=
  if (x0.length : Int) = (x1.length : Int) then
    (f18_l1 x0 x1 k 0).bind fun s => match s with
      | .inl st => some st
      | .inr _ => 
        some true
  else
    some false
set_option maxRecDepth 20000 in
theorem f18_ok {k : Nat} {H : Hp} {a_x0 : Option Addr} {c_x0 : Nat} {a_x1 : Option Addr} {c_x1 : Nat} {x0 : List Int} {x1 : List Int} {r : Bool} (g_x0 : SlF 0 H intC a_x0 c_x0 x0) (g_x1 : SlF 0 H intC a_x1 c_x1 x1) (hp : f18 k x0 x1 = some r) :
    SCall Tryd.prog 18 [.slice a_x0 x0.length c_x0, .slice a_x1 x1.length c_x1] H (Ret fun v H' => Ext H H' ∧ R_4 r H.next H' v) := by
  unfold f18 at hp
  replace hp := topS hp
  refine SCall.g Tryd.func18 rfl rfl rfl rfl rfl (l := [(0, .v (.slice a_x0 x0.length c_x0)), (1, .v (.slice a_x1 x1.length c_x1))]) (fun _ => rfl) (fun B abB => ?_)
  refine WJ.cn 211 hp rfl rfl rfl rfl rfl rfl rfl rfl rfl (fun hc10 hp => ?_) (fun hc10 hp => ?_)
  · obtain rfl := endS (show some _ = some r from hp)
    exact WJ.rt 206 rfl rfl rfl (fun ids H' fr => ⟨fr.ext0, rfl⟩)
  · refine WJ.adv 9 rfl ?_
    obtain ⟨K35, hK35, hp⟩ : ∃ K, K = _ ∧ Option.bind _ K = some r := ⟨_, rfl, cutS hp⟩
    refine WJ.cut 2 (α := Unit) (fun y => []) (fun y => []) (fun y => []) (fun y => B) (fun y => K35 (Sum.inr ()) = some r) ?_ (fun j35 => ?_)
    · rintro u hp
      subst hK35
      show WJ _ _ _ B [] _ _ ⟨[], [], true, 0⟩
      obtain rfl := endS (show some _ = some r from hp)
      exact WJ.rt 204 rfl rfl rfl (fun ids H' fr => ⟨fr.ext0, rfl⟩)
    · refine WJ.lp 200 (α := Nat × Int) (fun y => [(0, .v (.slice a_x0 x0.length c_x0)), (1, .v (.slice a_x1 x1.length c_x1)), (5, .v (.int .i64 y.2))]) (fun y => []) (fun y => []) (fun y => B) (fun y => y.1) (fun y => Option.bind (f18_l1 x0 x1 y.1 y.2) K35 = some r) (k, 0) rfl hp (by exact ⟨rfl, rfl, rfl, trivial⟩) rfl rfl rfl ?_
      rintro ⟨n, x5⟩ hp ih35
      show WJ _ _ _ B [] _ _ ⟨[(0, .v (.slice a_x0 x0.length c_x0)), (1, .v (.slice a_x1 x1.length c_x1)), (5, .v (.int .i64 x5))], [], true, 0⟩
      replace hp : Option.bind (f18_l1 x0 x1 n x5) K35 = some r := hp
      cases n with
      | zero => rw [f18_l1] at hp; exact (noS hp).elim
      | succ n =>
        rw [f18_l1] at hp
        refine WJ.ci 206 hp rfl rfl rfl rfl rfl rfl rfl rfl rfl (fun hc14 hp => ?_) (fun hc14 hp => ?_)
        · refine WJ.dr 206 rfl gmix (by kernel_rfl) (by kernel_rfl) rfl ?_
          obtain ⟨t19, e19, hp⟩ := bindS hp
          obtain ⟨b19, o19, cs19, i19, rfl, p19⟩ := g_x0.at e19 u31 sz3
          refine WD.hd (v := .pointer (some ⟨b19, o19, none⟩)) rfl rfl rfl rfl (fun _ _ _ _ _ => side_no) (fun ids H' fr => opD_indexAddr rfl (evV_eq _ _ _ _ _ rfl) (evV_eq _ _ _ _ _ rfl) (i19 _)) rfl ?_
          refine WD.hd (v := .int .i64 t19) rfl rfl rfl rfl (fun _ _ _ _ _ => side_no) (fun ids H' fr => opD_load rfl (evV_eq _ _ _ _ _ rfl) ((p19.mono (Nat.zero_le _) fr.ext0.abv).load (d := 0) ag3 rfl)) rfl ?_
          obtain ⟨t23, e23, hp⟩ := bindS hp
          obtain ⟨b23, o23, cs23, i23, rfl, p23⟩ := g_x1.at e23 u31 sz3
          refine WD.hd (v := .pointer (some ⟨b23, o23, none⟩)) rfl rfl rfl rfl (fun _ _ _ _ _ => side_no) (fun ids H' fr => opD_indexAddr rfl (evV_eq _ _ _ _ _ rfl) (evV_eq _ _ _ _ _ rfl) (i23 _)) rfl ?_
          refine WD.hd (v := .int .i64 t23) rfl rfl rfl rfl (fun _ _ _ _ _ => side_no) (fun ids H' fr => opD_load rfl (evV_eq _ _ _ _ _ rfl) ((p23.mono (Nat.zero_le _) fr.ext0.abv).load (d := 0) ag3 rfl)) rfl ?_
          refine WD.cn hp rfl rfl rfl rfl rfl rfl rfl rfl rfl (fun hc25 hp => ?_) (fun hc25 hp => ?_)
          · refine WD.done rfl ?_
            subst hK35
            obtain rfl := endS (show some _ = some r from hp)
            exact WJ.rt 205 rfl rfl rfl (fun ids H' fr => ⟨fr.ext0, rfl⟩)
          · refine WD.done rfl ?_
            exact WJ.ag 208 rfl (by exact ⟨rfl, rfl, rfl, trivial⟩) rfl rfl rfl (ih35 (n, IntKind.i64.wrap (x5 + 1)) hp (Nat.lt_succ_self _))
        · exact WJ.goto 3 (j35 () hp) rfl rfl (by exact trivial) rfl rfl rfl
/-! 5 tipstaff/tipstafflaw32.ScrubKnown -/
def f5_l1 (k : Nat) : Nat → Int → Option ((Unit) ⊕ (Bool))
  | 0, _ => none
  | n + 1, x72 =>
    (some (decide (x72 < (([[111, 117, 116, 58, 48], [48, 49, 58, 51], [54, 52, 58, 48], [45, 49, 58, 48]] : List (List UInt8)).length : Int)))).bind fun t73 =>
    if t73 then
      (rd ([[111, 117, 116, 58, 48], [48, 49, 58, 51], [54, 52, 58, 48], [45, 49, 58, 48]] : List (List UInt8)) x72).bind fun t74 =>
      (f9 k t74).bind fun (t78_0, t78_1) =>
      if t78_1 = 3 then
        f5_l1 k n (IntKind.i64.wrap (x72 + 1))
      else
        some (Sum.inr (false : Bool))
    else
      some (Sum.inl ())

def f5 (k : Nat) : Option Bool :=
  (f14 19).bind fun t11 =>
  (f14 19).bind fun t12 =>
  (f14 19).bind fun t13 =>
  (f14 19).bind fun t14 =>
  (f15 k 1 (Shown.mk 0 t11.Service t11.Faulted t11.Homing t11.At t11.Panel) (-1) 0 false).bind fun t20 =>
  if t20 then
    (f15 k 1 (Shown.mk t12.Domain false t12.Faulted t12.Homing t12.At t12.Panel) (-1) 0 true).bind fun t24 =>
    if t24 then
      (f15 k 1 (Shown.mk t13.Domain t13.Service true t13.Homing t13.At t13.Panel) (-1) 3 true).bind fun t29 =>
      if t29 then
        (f15 k 1 (Shown.mk t14.Domain t14.Service t14.Faulted true t14.At t14.Panel) (-1) 0 false).bind fun t34 =>
        if t34 then
          (f14 20).bind fun t38 =>
          (f15 k 1 t38 1 3 false).bind fun t39 =>
          if t39 then
            (f16).bind fun t43 =>
            (f14 31).bind fun t44 =>
            (f13 k t43 1 t44).bind fun (t45_0, t45_1) =>
            if t45_1 = 2 then
              (f17 k (Sight.mk 1 3 false) ([49, 58, 51])).bind fun t52 =>
              if t52 then
                (f17 k (Sight.mk (-1) 3 true) ([111, 117, 116, 58, 51])).bind fun t57 =>
                if t57 then
                  (f17 k (Sight.mk (-1) 0 false) ([45])).bind fun t62 =>
                  if t62 then
                    (f17 k (Sight.mk (-1) 0 true) ([111, 117, 116])).bind fun t67 =>
                    if t67 then
                      (f5_l1 k k 0).bind fun s => match s with
                        | .inl _ => 
                          (f19 (Sight.mk 1 3 false) (Sight.mk 2 3 false)).bind fun t86 =>
                          (f18 k t86 ([1])).bind fun t88 =>
                          if t88 then
                            (f19 (Sight.mk (-1) 0 false) (Sight.mk (-1) 0 true)).bind fun t92 =>
                            (f18 k t92 ([3])).bind fun t94 =>
                            if t94 then
                              (f6).bind fun t97 =>
                              some t97
                            else
                              some false
                          else
                            some false
                        | .inr st => some st
                    else
                      some false
                  else
                    some false
                else
                  some false
              else
                some false
            else
              some false
          else
            some false
        else
          some false
      else
        some false
    else
      some false
  else
    some false
set_option maxRecDepth 20000 in
theorem f5_ok {k : Nat} {H : Hp} {r : Bool} (hp : f5 k = some r) :
    SCall Tryd.prog 5 [] H (Ret fun v H' => Ext H H' ∧ R_4 r H.next H' v) := by
  unfold f5 at hp
  replace hp := topS hp
  refine SCall.g Tryd.func5 rfl rfl rfl rfl rfl (l := []) (fun _ => rfl) (fun B abB => ?_)
  obtain ⟨⟨t11_Domain, t11_Service, t11_Faulted, t11_Homing, t11_At, t11_Panel⟩, e11, hp⟩ := bindS hp
  refine WJ.cl 206 (R := R_33 ⟨t11_Domain, t11_Service, t11_Faulted, t11_Homing, t11_At, t11_Panel⟩) (fun hm h k => R_33.mono hm h k) rfl (fun ids H' fr => f14_ok e11) ?_
  rintro v B1 ⟨abB1, ivB1⟩ rfl
  refine ⟨_, rfl, ?_⟩
  obtain ⟨⟨t12_Domain, t12_Service, t12_Faulted, t12_Homing, t12_At, t12_Panel⟩, e12, hp⟩ := bindS hp
  refine WJ.cl 200 (R := R_33 ⟨t12_Domain, t12_Service, t12_Faulted, t12_Homing, t12_At, t12_Panel⟩) (fun hm h k => R_33.mono hm h k) rfl (fun ids H' fr => f14_ok e12) ?_
  rintro v B2 ⟨abB2, ivB2⟩ rfl
  refine ⟨_, rfl, ?_⟩
  obtain ⟨⟨t13_Domain, t13_Service, t13_Faulted, t13_Homing, t13_At, t13_Panel⟩, e13, hp⟩ := bindS hp
  refine WJ.cl 200 (R := R_33 ⟨t13_Domain, t13_Service, t13_Faulted, t13_Homing, t13_At, t13_Panel⟩) (fun hm h k => R_33.mono hm h k) rfl (fun ids H' fr => f14_ok e13) ?_
  rintro v B3 ⟨abB3, ivB3⟩ rfl
  refine ⟨_, rfl, ?_⟩
  obtain ⟨⟨t14_Domain, t14_Service, t14_Faulted, t14_Homing, t14_At, t14_Panel⟩, e14, hp⟩ := bindS hp
  refine WJ.cl 200 (R := R_33 ⟨t14_Domain, t14_Service, t14_Faulted, t14_Homing, t14_At, t14_Panel⟩) (fun hm h k => R_33.mono hm h k) rfl (fun ids H' fr => f14_ok e14) ?_
  rintro v B4 ⟨abB4, ivB4⟩ rfl
  refine ⟨_, rfl, ?_⟩
  obtain ⟨t20, e20, hp⟩ := bindS hp
  refine WJ.cl 224 (R := R_4 t20) (fun hm h k => R_4.mono hm h k) rfl (fun ids H' fr => f15_ok (x1 := (Shown.mk 0 t11_Service t11_Faulted t11_Homing t11_At t11_Panel)) e20) ?_
  rintro v B5 ⟨abB5, ivB5⟩ rfl
  refine ⟨_, rfl, ?_⟩
  cases t20
  · replace hp := (itS hp).2 Bool.false_ne_true
    obtain rfl := endS (show some _ = some r from hp)
    exact WJ.rt 227 rfl rfl rfl (fun ids H' fr => ⟨fr.ext0, rfl⟩)
  · replace hp := (itS hp).1 rfl
    obtain ⟨t24, e24, hp⟩ := bindS hp
    refine WJ.cl 203 (R := R_4 t24) (fun hm h k => R_4.mono hm h k) rfl (fun ids H' fr => f15_ok (x1 := (Shown.mk t12_Domain false t12_Faulted t12_Homing t12_At t12_Panel)) e24) ?_
    rintro v B6 ⟨abB6, ivB6⟩ rfl
    refine ⟨_, rfl, ?_⟩
    cases t24
    · replace hp := (itS hp).2 Bool.false_ne_true
      obtain rfl := endS (show some _ = some r from hp)
      exact WJ.rt 223 rfl rfl rfl (fun ids H' fr => ⟨fr.ext0, rfl⟩)
    · replace hp := (itS hp).1 rfl
      obtain ⟨t29, e29, hp⟩ := bindS hp
      refine WJ.cl 204 (R := R_4 t29) (fun hm h k => R_4.mono hm h k) rfl (fun ids H' fr => f15_ok (x1 := (Shown.mk t13_Domain t13_Service true t13_Homing t13_At t13_Panel)) e29) ?_
      rintro v B7 ⟨abB7, ivB7⟩ rfl
      refine ⟨_, rfl, ?_⟩
      cases t29
      · replace hp := (itS hp).2 Bool.false_ne_true
        obtain rfl := endS (show some _ = some r from hp)
        exact WJ.rt 218 rfl rfl rfl (fun ids H' fr => ⟨fr.ext0, rfl⟩)
      · replace hp := (itS hp).1 rfl
        obtain ⟨t34, e34, hp⟩ := bindS hp
        refine WJ.cl 204 (R := R_4 t34) (fun hm h k => R_4.mono hm h k) rfl (fun ids H' fr => f15_ok (x1 := (Shown.mk t14_Domain t14_Service t14_Faulted true t14_At t14_Panel)) e34) ?_
        rintro v B8 ⟨abB8, ivB8⟩ rfl
        refine ⟨_, rfl, ?_⟩
        cases t34
        · replace hp := (itS hp).2 Bool.false_ne_true
          obtain rfl := endS (show some _ = some r from hp)
          exact WJ.rt 213 rfl rfl rfl (fun ids H' fr => ⟨fr.ext0, rfl⟩)
        · replace hp := (itS hp).1 rfl
          obtain ⟨⟨t38_Domain, t38_Service, t38_Faulted, t38_Homing, t38_At, t38_Panel⟩, e38, hp⟩ := bindS hp
          refine WJ.cl 203 (R := R_33 ⟨t38_Domain, t38_Service, t38_Faulted, t38_Homing, t38_At, t38_Panel⟩) (fun hm h k => R_33.mono hm h k) rfl (fun ids H' fr => f14_ok e38) ?_
          rintro v B9 ⟨abB9, ivB9⟩ rfl
          refine ⟨_, rfl, ?_⟩
          obtain ⟨t39, e39, hp⟩ := bindS hp
          refine WJ.cl 200 (R := R_4 t39) (fun hm h k => R_4.mono hm h k) rfl (fun ids H' fr => f15_ok (x1 := (Shown.mk t38_Domain t38_Service t38_Faulted t38_Homing t38_At t38_Panel)) e39) ?_
          rintro v B10 ⟨abB10, ivB10⟩ rfl
          refine ⟨_, rfl, ?_⟩
          cases t39
          · replace hp := (itS hp).2 Bool.false_ne_true
            obtain rfl := endS (show some _ = some r from hp)
            exact WJ.rt 208 rfl rfl rfl (fun ids H' fr => ⟨fr.ext0, rfl⟩)
          · replace hp := (itS hp).1 rfl
            obtain ⟨t43, e43, hp⟩ := bindS hp
            refine WJ.cl 207 (R := R_31 t43) (fun hm h k => R_31.mono hm h k) rfl (fun ids H' fr => f16_ok e43) ?_
            rintro v B11 ⟨abB11, ivB11⟩ ⟨a_t43, c_t43, rfl, g_t43⟩
            refine ⟨_, rfl, ?_⟩
            obtain ⟨⟨t44_Domain, t44_Service, t44_Faulted, t44_Homing, t44_At, t44_Panel⟩, e44, hp⟩ := bindS hp
            refine WJ.cl 200 (R := R_33 ⟨t44_Domain, t44_Service, t44_Faulted, t44_Homing, t44_At, t44_Panel⟩) (fun hm h k => R_33.mono hm h k) rfl (fun ids H' fr => f14_ok e44) ?_
            rintro v B12 ⟨abB12, ivB12⟩ rfl
            refine ⟨_, rfl, ?_⟩
            replace g_t43 := g_t43.mono (Nat.le_refl _) (abB12.le (Nat.zero_le _))
            obtain ⟨⟨⟨t45_0_Floor, t45_0_Panel, t45_0_Out⟩, t45_1⟩, e45, hp⟩ := bindS hp
            refine WJ.cl 200 (R := R_23_25 ⟨⟨t45_0_Floor, t45_0_Panel, t45_0_Out⟩, t45_1⟩) (fun hm h k => R_23_25.mono hm h k) rfl (fun ids H' fr => f13_ok (x2 := (Shown.mk t44_Domain t44_Service t44_Faulted t44_Homing t44_At t44_Panel)) (g_t43.mono (Nat.zero_le _) (fr.abv.le (Nat.zero_le _))) e45) ?_
            rintro v B13 ⟨abB13, ivB13⟩ rfl
            refine ⟨_, rfl, ?_⟩
            replace g_t43 := g_t43.mono (Nat.le_refl _) (abB13.le (Nat.zero_le _))
            refine WJ.cn 211 hp rfl rfl rfl rfl rfl rfl rfl rfl rfl (fun hc49 hp => ?_) (fun hc49 hp => ?_)
            · obtain rfl := endS (show some _ = some r from hp)
              exact WJ.rt 226 rfl rfl rfl (fun ids H' fr => ⟨fr.ext0, rfl⟩)
            · obtain ⟨t52, e52, hp⟩ := bindS hp
              refine WJ.cl 202 (R := R_4 t52) (fun hm h k => R_4.mono hm h k) rfl (fun ids H' fr => f17_ok (x0 := (Sight.mk 1 3 false)) e52) ?_
              rintro v B14 ⟨abB14, ivB14⟩ rfl
              refine ⟨_, rfl, ?_⟩
              replace g_t43 := g_t43.mono (Nat.le_refl _) (abB14.le (Nat.zero_le _))
              cases t52
              · replace hp := (itS hp).2 Bool.false_ne_true
                obtain rfl := endS (show some _ = some r from hp)
                exact WJ.rt 223 rfl rfl rfl (fun ids H' fr => ⟨fr.ext0, rfl⟩)
              · replace hp := (itS hp).1 rfl
                obtain ⟨t57, e57, hp⟩ := bindS hp
                refine WJ.cl 204 (R := R_4 t57) (fun hm h k => R_4.mono hm h k) rfl (fun ids H' fr => f17_ok (x0 := (Sight.mk (-1) 3 true)) e57) ?_
                rintro v B15 ⟨abB15, ivB15⟩ rfl
                refine ⟨_, rfl, ?_⟩
                replace g_t43 := g_t43.mono (Nat.le_refl _) (abB15.le (Nat.zero_le _))
                cases t57
                · replace hp := (itS hp).2 Bool.false_ne_true
                  obtain rfl := endS (show some _ = some r from hp)
                  exact WJ.rt 218 rfl rfl rfl (fun ids H' fr => ⟨fr.ext0, rfl⟩)
                · replace hp := (itS hp).1 rfl
                  obtain ⟨t62, e62, hp⟩ := bindS hp
                  refine WJ.cl 204 (R := R_4 t62) (fun hm h k => R_4.mono hm h k) rfl (fun ids H' fr => f17_ok (x0 := (Sight.mk (-1) 0 false)) e62) ?_
                  rintro v B16 ⟨abB16, ivB16⟩ rfl
                  refine ⟨_, rfl, ?_⟩
                  replace g_t43 := g_t43.mono (Nat.le_refl _) (abB16.le (Nat.zero_le _))
                  cases t62
                  · replace hp := (itS hp).2 Bool.false_ne_true
                    obtain rfl := endS (show some _ = some r from hp)
                    exact WJ.rt 213 rfl rfl rfl (fun ids H' fr => ⟨fr.ext0, rfl⟩)
                  · replace hp := (itS hp).1 rfl
                    obtain ⟨t67, e67, hp⟩ := bindS hp
                    refine WJ.cl 204 (R := R_4 t67) (fun hm h k => R_4.mono hm h k) rfl (fun ids H' fr => f17_ok (x0 := (Sight.mk (-1) 0 true)) e67) ?_
                    rintro v B17 ⟨abB17, ivB17⟩ rfl
                    refine ⟨_, rfl, ?_⟩
                    replace g_t43 := g_t43.mono (Nat.le_refl _) (abB17.le (Nat.zero_le _))
                    cases t67
                    · replace hp := (itS hp).2 Bool.false_ne_true
                      obtain rfl := endS (show some _ = some r from hp)
                      exact WJ.rt 208 rfl rfl rfl (fun ids H' fr => ⟨fr.ext0, rfl⟩)
                    · replace hp := (itS hp).1 rfl
                      refine WJ.bs (cs := encL sE ([[111, 117, 116, 58, 48], [48, 49, 58, 51], [54, 52, 58, 48], [45, 49, 58, 48]] : List (List UInt8))) (sz := 1) (pl := [(0, .string (bs ([111, 117, 116, 58, 48]))), (1, .string (bs ([48, 49, 58, 51]))), (2, .string (bs ([54, 52, 58, 48]))), (3, .string (bs ([45, 49, 58, 48])))]) 208 rfl rfl rfl rfl rfl (fun _ _ => rfl) (fun _ => by rfl) rfl rfl ?_
                      intro b70
                      refine ⟨_, rfl, ?_⟩
                      refine WJ.adv 4 rfl ?_
                      obtain ⟨K36, hK36, hp⟩ : ∃ K, K = _ ∧ Option.bind _ K = some r := ⟨_, rfl, cutS hp⟩
                      refine WJ.cut 2 (α := Hp) (fun y => []) (fun y => [[.int .i64 0, .bool t11_Service, .bool t11_Faulted, .bool t11_Homing, .int .i64 t11_At, .int .i64 t11_Panel], [.int .i64 t12_Domain, .bool false, .bool t12_Faulted, .bool t12_Homing, .int .i64 t12_At, .int .i64 t12_Panel], [.int .i64 t13_Domain, .bool t13_Service, .bool true, .bool t13_Homing, .int .i64 t13_At, .int .i64 t13_Panel], [.int .i64 t14_Domain, .bool t14_Service, .bool t14_Faulted, .bool true, .int .i64 t14_At, .int .i64 t14_Panel], [.int .i64 t45_0_Floor, .int .i64 t45_0_Panel, .bool t45_0_Out]]) (fun y => [⟨(some ⟨b70, 0, none⟩), 4, 1, encL sE ([[111, 117, 116, 58, 48], [48, 49, 58, 51], [54, 52, 58, 48], [45, 49, 58, 48]] : List (List UInt8))⟩]) (fun y => y) (fun y => K36 (Sum.inl ()) = some r ∧ SlF H.next y intC a_t43 c_t43 t43) ?_ (fun j36 => ?_)
                      · rintro B20 ⟨hp, g_t43⟩
                        subst hK36
                        show WJ _ _ _ B20 [⟨(some ⟨b70, 0, none⟩), 4, 1, encL sE ([[111, 117, 116, 58, 48], [48, 49, 58, 51], [54, 52, 58, 48], [45, 49, 58, 48]] : List (List UInt8))⟩] _ _ ⟨[], [[.int .i64 0, .bool t11_Service, .bool t11_Faulted, .bool t11_Homing, .int .i64 t11_At, .int .i64 t11_Panel], [.int .i64 t12_Domain, .bool false, .bool t12_Faulted, .bool t12_Homing, .int .i64 t12_At, .int .i64 t12_Panel], [.int .i64 t13_Domain, .bool t13_Service, .bool true, .bool t13_Homing, .int .i64 t13_At, .int .i64 t13_Panel], [.int .i64 t14_Domain, .bool t14_Service, .bool t14_Faulted, .bool true, .int .i64 t14_At, .int .i64 t14_Panel], [.int .i64 t45_0_Floor, .int .i64 t45_0_Panel, .bool t45_0_Out]], true, 0⟩
                        obtain ⟨t86, e86, hp⟩ := bindS hp
                        refine WJ.cl 204 (R := R_31 t86) (fun hm h k => R_31.mono hm h k) rfl (fun ids H' fr => f19_ok (x0 := (Sight.mk 1 3 false)) (x1 := (Sight.mk 2 3 false)) e86) ?_
                        rintro v B21 ⟨abB21, ivB21⟩ ⟨a_t86, c_t86, rfl, g_t86⟩
                        refine ⟨_, rfl, ?_⟩
                        replace g_t43 := g_t43.mono (Nat.le_refl _) (abB21.le (Nat.zero_le _))
                        refine WJ.bs (cs := encL iE [1]) (sz := 1) (pl := [(0, .int .i64 1)]) 200 rfl rfl rfl rfl rfl (fun _ _ => rfl) (fun _ => by rfl) rfl rfl ?_
                        intro b87
                        refine ⟨_, rfl, ?_⟩
                        obtain ⟨t88, e88, hp⟩ := bindS hp
                        refine WJ.cl 200 (R := R_4 t88) (fun hm h k => R_4.mono hm h k) rfl (fun ids H' fr => f18_ok (g_t86.mono (Nat.zero_le _) (fr.abv.le (Nat.zero_le _))) (fr.slOwn (j := 1) rfl rfl (Nat.zero_le _)) e88) ?_
                        rintro v B22 ⟨abB22, ivB22⟩ rfl
                        refine ⟨_, rfl, ?_⟩
                        replace g_t43 := g_t43.mono (Nat.le_refl _) (abB22.le (Nat.zero_le _))
                        replace g_t86 := g_t86.mono (Nat.le_refl _) (abB22.le (Nat.zero_le _))
                        cases t88
                        · replace hp := (itS hp).2 Bool.false_ne_true
                          obtain rfl := endS (show some _ = some r from hp)
                          exact WJ.rt 212 rfl rfl rfl (fun ids H' fr => ⟨fr.ext0, rfl⟩)
                        · replace hp := (itS hp).1 rfl
                          obtain ⟨t92, e92, hp⟩ := bindS hp
                          refine WJ.cl 203 (R := R_31 t92) (fun hm h k => R_31.mono hm h k) rfl (fun ids H' fr => f19_ok (x0 := (Sight.mk (-1) 0 false)) (x1 := (Sight.mk (-1) 0 true)) e92) ?_
                          rintro v B23 ⟨abB23, ivB23⟩ ⟨a_t92, c_t92, rfl, g_t92⟩
                          refine ⟨_, rfl, ?_⟩
                          replace g_t43 := g_t43.mono (Nat.le_refl _) (abB23.le (Nat.zero_le _))
                          replace g_t86 := g_t86.mono (Nat.le_refl _) (abB23.le (Nat.zero_le _))
                          refine WJ.bs (cs := encL iE [3]) (sz := 1) (pl := [(0, .int .i64 3)]) 200 rfl rfl rfl rfl rfl (fun _ _ => rfl) (fun _ => by rfl) rfl rfl ?_
                          intro b93
                          refine ⟨_, rfl, ?_⟩
                          obtain ⟨t94, e94, hp⟩ := bindS hp
                          refine WJ.cl 200 (R := R_4 t94) (fun hm h k => R_4.mono hm h k) rfl (fun ids H' fr => f18_ok (g_t92.mono (Nat.zero_le _) (fr.abv.le (Nat.zero_le _))) (fr.slOwn (j := 2) rfl rfl (Nat.zero_le _)) e94) ?_
                          rintro v B24 ⟨abB24, ivB24⟩ rfl
                          refine ⟨_, rfl, ?_⟩
                          replace g_t43 := g_t43.mono (Nat.le_refl _) (abB24.le (Nat.zero_le _))
                          replace g_t86 := g_t86.mono (Nat.le_refl _) (abB24.le (Nat.zero_le _))
                          replace g_t92 := g_t92.mono (Nat.le_refl _) (abB24.le (Nat.zero_le _))
                          cases t94
                          · replace hp := (itS hp).2 Bool.false_ne_true
                            obtain rfl := endS (show some _ = some r from hp)
                            exact WJ.rt 206 rfl rfl rfl (fun ids H' fr => ⟨fr.ext0, rfl⟩)
                          · replace hp := (itS hp).1 rfl
                            obtain ⟨t97, e97, hp⟩ := bindS hp
                            refine WJ.cl 202 (R := R_4 t97) (fun hm h k => R_4.mono hm h k) rfl (fun ids H' fr => f6_ok e97) ?_
                            rintro v B25 ⟨abB25, ivB25⟩ rfl
                            refine ⟨_, rfl, ?_⟩
                            replace g_t43 := g_t43.mono (Nat.le_refl _) (abB25.le (Nat.zero_le _))
                            replace g_t86 := g_t86.mono (Nat.le_refl _) (abB25.le (Nat.zero_le _))
                            replace g_t92 := g_t92.mono (Nat.le_refl _) (abB25.le (Nat.zero_le _))
                            obtain rfl := endS (show some _ = some r from hp)
                            exact WJ.rt 203 rfl rfl rfl (fun ids H' fr => ⟨fr.ext0, rfl⟩)
                      · refine WJ.lp 200 (α := Nat × Int × Hp) (fun y => [(70, .v (.slice (some ⟨b70, 0, none⟩) ([[111, 117, 116, 58, 48], [48, 49, 58, 51], [54, 52, 58, 48], [45, 49, 58, 48]] : List (List UInt8)).length 4)), (71, .v (.int .i64 ((([[111, 117, 116, 58, 48], [48, 49, 58, 51], [54, 52, 58, 48], [45, 49, 58, 48]] : List (List UInt8)).length : Nat) : Int))), (72, .v (.int .i64 y.2.1))]) (fun y => [[.int .i64 0, .bool t11_Service, .bool t11_Faulted, .bool t11_Homing, .int .i64 t11_At, .int .i64 t11_Panel], [.int .i64 t12_Domain, .bool false, .bool t12_Faulted, .bool t12_Homing, .int .i64 t12_At, .int .i64 t12_Panel], [.int .i64 t13_Domain, .bool t13_Service, .bool true, .bool t13_Homing, .int .i64 t13_At, .int .i64 t13_Panel], [.int .i64 t14_Domain, .bool t14_Service, .bool t14_Faulted, .bool true, .int .i64 t14_At, .int .i64 t14_Panel], [.int .i64 t45_0_Floor, .int .i64 t45_0_Panel, .bool t45_0_Out]]) (fun y => [⟨(some ⟨b70, 0, none⟩), 4, 1, encL sE ([[111, 117, 116, 58, 48], [48, 49, 58, 51], [54, 52, 58, 48], [45, 49, 58, 48]] : List (List UInt8))⟩]) (fun y => y.2.2) (fun y => y.1) (fun y => Option.bind (f5_l1 k y.1 y.2.1) K36 = some r ∧ SlF H.next y.2.2 intC a_t43 c_t43 t43) (k, 0, B17) rfl ⟨hp, g_t43⟩ (by exact ⟨rfl, rfl, rfl, trivial⟩) rfl rfl rfl ?_
                        rintro ⟨n, x72, B18⟩ ⟨hp, g_t43⟩ ih36
                        show WJ _ _ _ B18 [⟨(some ⟨b70, 0, none⟩), 4, 1, encL sE ([[111, 117, 116, 58, 48], [48, 49, 58, 51], [54, 52, 58, 48], [45, 49, 58, 48]] : List (List UInt8))⟩] _ _ ⟨[(70, .v (.slice (some ⟨b70, 0, none⟩) ([[111, 117, 116, 58, 48], [48, 49, 58, 51], [54, 52, 58, 48], [45, 49, 58, 48]] : List (List UInt8)).length 4)), (71, .v (.int .i64 ((([[111, 117, 116, 58, 48], [48, 49, 58, 51], [54, 52, 58, 48], [45, 49, 58, 48]] : List (List UInt8)).length : Nat) : Int))), (72, .v (.int .i64 x72))], [[.int .i64 0, .bool t11_Service, .bool t11_Faulted, .bool t11_Homing, .int .i64 t11_At, .int .i64 t11_Panel], [.int .i64 t12_Domain, .bool false, .bool t12_Faulted, .bool t12_Homing, .int .i64 t12_At, .int .i64 t12_Panel], [.int .i64 t13_Domain, .bool t13_Service, .bool true, .bool t13_Homing, .int .i64 t13_At, .int .i64 t13_Panel], [.int .i64 t14_Domain, .bool t14_Service, .bool t14_Faulted, .bool true, .int .i64 t14_At, .int .i64 t14_Panel], [.int .i64 t45_0_Floor, .int .i64 t45_0_Panel, .bool t45_0_Out]], true, 0⟩
                        replace hp : Option.bind (f5_l1 k n x72) K36 = some r := hp
                        cases n with
                        | zero => rw [f5_l1] at hp; exact (noS hp).elim
                        | succ n =>
                          rw [f5_l1] at hp
                          obtain ⟨t73, e73, hp⟩ := bindS hp
                          refine WJ.cv 202 (b := t73) (H0 := ⟨.nil, 0, 0⟩) rfl rfl rfl rfl rfl rfl (by rw [← endS e73]; exact rfl) rfl ?_
                          cases t73
                          · replace hp := (itS hp).2 Bool.false_ne_true
                            exact WJ.goto 4 (j36 B18 ⟨hp, g_t43⟩) rfl rfl (by exact trivial) rfl rfl rfl
                          · replace hp := (itS hp).1 rfl
                            obtain ⟨t74, e74, hp⟩ := bindS hp
                            refine WJ.ownAddr (enc := sE) (sz := 1) 0 (fun _ => rfl) rfl rfl e74 (fun b74 hb74 => ?_)
                            refine WJ.hd (v := .pointer (some ⟨b74, (x72).toNat * 1, none⟩)) 208 rfl rfl rfl rfl (fun ids H' fr => opD_indexAddr rfl (evV_eq _ _ _ _ _ rfl) (evV_eq _ _ _ _ _ rfl) (ownIdx hb74 e74 u42 sz9)) rfl ?_
                            refine WJ.hd (v := .string (bs t74)) 200 rfl rfl rfl rfl (fun ids H' fr => opD_load rfl (evV_eq _ _ _ _ _ rfl) ((fr.ownEl (enc := sE) (sz := 1) (j := 0) (fun _ => rfl) rfl hb74 e74).load (d := 0) ag9 rfl)) rfl ?_
                            obtain ⟨⟨⟨t78_0_Floor, t78_0_Panel, t78_0_Out⟩, t78_1⟩, e78, hp⟩ := bindS hp
                            refine WJ.cl 205 (R := R_23_25 ⟨⟨t78_0_Floor, t78_0_Panel, t78_0_Out⟩, t78_1⟩) (fun hm h k => R_23_25.mono hm h k) rfl (fun ids H' fr => f9_ok e78) ?_
                            rintro v B19 ⟨abB19, ivB19⟩ rfl
                            refine ⟨_, rfl, ?_⟩
                            replace g_t43 := g_t43.mono (Nat.le_refl _) (abB19.le (Nat.zero_le _))
                            refine WJ.cn 210 hp rfl rfl rfl rfl rfl rfl rfl rfl rfl (fun hc82 hp => ?_) (fun hc82 hp => ?_)
                            · subst hK36
                              obtain rfl := endS (show some _ = some r from hp)
                              exact WJ.rt 206 rfl rfl rfl (fun ids H' fr => ⟨fr.ext0, rfl⟩)
                            · exact WJ.ag 208 rfl (by exact ⟨rfl, rfl, rfl, trivial⟩) rfl rfl rfl (ih36 (n, IntKind.i64.wrap (x72 + 1), B19) ⟨hp, g_t43⟩ (Nat.lt_succ_self _))
end
end Go.Proofs.YtenddpplfdgcfaaDoor
