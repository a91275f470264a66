import Derived.Test.YtenddpplfdgcfaaDoorSM
set_option linter.unusedVariables false
set_option linter.unusedSimpArgs false
namespace Go.Proofs.YtenddpplfdgcfaaDoor
open Go Go.Det Go.RowKit
noncomputable section
/-! 21 tipstaff/scrub.shown -/
def f21 (x0 : Sight) : Option Bool :=
  if x0.Panel < 0 then
    some false
  else
    if x0.Panel > 20 then
      some false
    else
      if x0.Floor = (-1) then
        if x0.Out then
          some true
        else
          (some (x0.Panel == 0)).bind fun t19 =>
          some t19
      else
        if x0.Floor ≥ 0 then
          if x0.Floor < 64 then
            if x0.Out then
              some false
            else
              some true
          else
            some false
        else
          some false
set_option maxRecDepth 20000 in
theorem f21_ok {H : Hp} {x0 : Sight} {r : Bool} (hp : f21 x0 = some r) :
    SCall Tryd.prog 21 [.agg ⟨[.int .i64 x0.Floor, .int .i64 x0.Panel, .bool x0.Out]⟩] H (Ret fun v H' => Ext H H' ∧ R_4 r H.next H' v) := by
  obtain ⟨x0_Floor, x0_Panel, x0_Out⟩ := x0
  unfold f21 at hp
  replace hp := topS hp
  refine SCall.g Tryd.func21 rfl rfl rfl rfl rfl (l := [(0, .v (.agg ⟨[.int .i64 x0_Floor, .int .i64 x0_Panel, .bool x0_Out]⟩))]) (fun _ => rfl) (fun B abB => ?_)
  refine WJ.ci 210 hp rfl rfl rfl rfl rfl rfl rfl rfl rfl (fun hc5 hp => ?_) (fun hc5 hp => ?_)
  · obtain rfl := endS (show some _ = some r from hp)
    exact WJ.rt 211 rfl rfl rfl (fun ids H' fr => ⟨fr.ext0, rfl⟩)
  · refine WJ.ci 203 hp rfl rfl rfl rfl rfl rfl rfl rfl rfl (fun hc9 hp => ?_) (fun hc9 hp => ?_)
    · obtain rfl := endS (show some _ = some r from hp)
      exact WJ.rt 207 rfl rfl rfl (fun ids H' fr => ⟨fr.ext0, rfl⟩)
    · refine WJ.ci 209 hp rfl rfl rfl rfl rfl rfl rfl rfl rfl (fun hc13 hp => ?_) (fun hc13 hp => ?_)
      · cases x0_Out
        · replace hp := (itS hp).2 Bool.false_ne_true
          obtain ⟨t19, e19, hp⟩ := bindS hp
          refine WJ.cv 209 (b := t19) (H0 := ⟨.nil, 0, 0⟩) rfl rfl rfl rfl rfl rfl (by rw [← endS e19]; exact rfl) rfl ?_
          obtain rfl := endS (show some _ = some r from hp)
          exact WJ.rt 203 rfl rfl rfl (fun ids H' fr => ⟨fr.ext0, rfl⟩)
        · replace hp := (itS hp).1 rfl
          obtain rfl := endS (show some _ = some r from hp)
          exact WJ.rt 213 rfl rfl rfl (fun ids H' fr => ⟨fr.ext0, rfl⟩)
      · refine WJ.ci 207 hp rfl rfl rfl rfl rfl rfl rfl rfl rfl (fun hc23 hp => ?_) (fun hc23 hp => ?_)
        · refine WJ.ci 203 hp rfl rfl rfl rfl rfl rfl rfl rfl rfl (fun hc27 hp => ?_) (fun hc27 hp => ?_)
          · cases x0_Out
            · replace hp := (itS hp).2 Bool.false_ne_true
              obtain rfl := endS (show some _ = some r from hp)
              exact WJ.rt 208 rfl rfl rfl (fun ids H' fr => ⟨fr.ext0, rfl⟩)
            · replace hp := (itS hp).1 rfl
              obtain rfl := endS (show some _ = some r from hp)
              exact WJ.rt 208 rfl rfl rfl (fun ids H' fr => ⟨fr.ext0, rfl⟩)
          · obtain rfl := endS (show some _ = some r from hp)
            exact WJ.rt 208 rfl rfl rfl (fun ids H' fr => ⟨fr.ext0, rfl⟩)
        · obtain rfl := endS (show some _ = some r from hp)
          exact WJ.rt 212 rfl rfl rfl (fun ids H' fr => ⟨fr.ext0, rfl⟩)
/-! 7 tipstaff/scrub.Text -/
def f7 (x0 : Sight) : Option ((List UInt8) × Int) :=
  (f20 x0.Panel).bind fun t7 =>
  (f21 (Sight.mk x0.Floor x0.Panel x0.Out)).bind fun t10 =>
  if t10 then
    if x0.Out then
      if x0.Panel = 0 then
        some ([111, 117, 116], 0)
      else
        (scat ([111, 117, 116, 58]) t7).bind fun s24 =>
        some (s24, 0)
    else
      if x0.Floor = (-1) then
        some ([45], 0)
      else
        (f20 x0.Floor).bind fun t31 =>
        (scat t31 ([58])).bind fun s32 =>
        (scat s32 t7).bind fun s34 =>
        some (s34, 0)
  else
    some (([] : List UInt8), 2)
set_option maxRecDepth 20000 in
theorem f7_ok {H : Hp} {x0 : Sight} {r : (List UInt8) × Int} (hp : f7 x0 = some r) :
    SCall Tryd.prog 7 [.agg ⟨[.int .i64 x0.Floor, .int .i64 x0.Panel, .bool x0.Out]⟩] H (Ret fun v H' => Ext H H' ∧ R_9_25 r H.next H' v) := by
  obtain ⟨x0_Floor, x0_Panel, x0_Out⟩ := x0
  unfold f7 at hp
  replace hp := topS hp
  refine SCall.g Tryd.func7 rfl rfl rfl rfl rfl (l := [(0, .v (.agg ⟨[.int .i64 x0_Floor, .int .i64 x0_Panel, .bool x0_Out]⟩))]) (fun _ => rfl) (fun B abB => ?_)
  obtain ⟨t7, e7, hp⟩ := bindS hp
  refine WJ.cl 210 (R := R_9 t7) (fun hm h k => R_9.mono hm h k) rfl (fun ids H' fr => f20_ok e7) ?_
  rintro v B1 ⟨abB1, ivB1⟩ rfl
  refine ⟨_, rfl, ?_⟩
  obtain ⟨t10, e10, hp⟩ := bindS hp
  refine WJ.cl 207 (R := R_4 t10) (fun hm h k => R_4.mono hm h k) rfl (fun ids H' fr => f21_ok (x0 := (Sight.mk x0_Floor x0_Panel x0_Out)) e10) ?_
  rintro v B2 ⟨abB2, ivB2⟩ rfl
  refine ⟨_, rfl, ?_⟩
  cases t10
  · replace hp := (itS hp).2 Bool.false_ne_true
    obtain rfl := endS (show some _ = some r from hp)
    exact WJ.rt 209 rfl rfl rfl (fun ids H' fr => ⟨fr.ext0, rfl⟩)
  · replace hp := (itS hp).1 rfl
    cases x0_Out
    · replace hp := (itS hp).2 Bool.false_ne_true
      refine WJ.ci 227 hp rfl rfl rfl rfl rfl rfl rfl rfl rfl (fun hc28 hp => ?_) (fun hc28 hp => ?_)
      · obtain rfl := endS (show some _ = some r from hp)
        exact WJ.rt 208 rfl rfl rfl (fun ids H' fr => ⟨fr.ext0, rfl⟩)
      · obtain ⟨t31, e31, hp⟩ := bindS hp
        refine WJ.cl 209 (R := R_9 t31) (fun hm h k => R_9.mono hm h k) rfl (fun ids H' fr => f20_ok e31) ?_
        rintro v B3 ⟨abB3, ivB3⟩ rfl
        refine ⟨_, rfl, ?_⟩
        obtain ⟨s32, e32, hp⟩ := bindS hp
        refine WJ.hd (v := .string (bs s32)) 200 rfl rfl rfl rfl (fun ids H' fr => opD_bin rfl (evV_eq _ _ _ _ _ rfl) (evV_eq _ _ _ _ _ rfl) (bin_sadd e32)) rfl ?_
        obtain ⟨s34, e34, hp⟩ := bindS hp
        refine WJ.hd (v := .string (bs s34)) 201 rfl rfl rfl rfl (fun ids H' fr => opD_bin rfl (evV_eq _ _ _ _ _ rfl) (evV_eq _ _ _ _ _ rfl) (bin_sadd e34)) rfl ?_
        obtain rfl := endS (show some _ = some r from hp)
        exact WJ.rt 203 rfl rfl rfl (fun ids H' fr => ⟨fr.ext0, rfl⟩)
    · replace hp := (itS hp).1 rfl
      refine WJ.ci 211 hp rfl rfl rfl rfl rfl rfl rfl rfl rfl (fun hc18 hp => ?_) (fun hc18 hp => ?_)
      · obtain rfl := endS (show some _ = some r from hp)
        exact WJ.rt 209 rfl rfl rfl (fun ids H' fr => ⟨fr.ext0, rfl⟩)
      · obtain ⟨s24, e24, hp⟩ := bindS hp
        refine WJ.hd (v := .string (bs s24)) 214 rfl rfl rfl rfl (fun ids H' fr => opD_bin rfl (evV_eq _ _ _ _ _ rfl) (evV_eq _ _ _ _ _ rfl) (bin_sadd e24)) rfl ?_
        obtain rfl := endS (show some _ = some r from hp)
        exact WJ.rt 203 rfl rfl rfl (fun ids H' fr => ⟨fr.ext0, rfl⟩)
/-! 22 tipstaff/tipstaffref32.can -/
def f22 (x0 : Sight) : Option Bool :=
  if x0.Panel < 0 then
    some false
  else
    if x0.Panel > 20 then
      some false
    else
      if x0.Floor = (-1) then
        if x0.Out then
          some true
        else
          (some (x0.Panel == 0)).bind fun t19 =>
          some t19
      else
        if x0.Floor ≥ 0 then
          if x0.Floor < 64 then
            if x0.Out then
              some false
            else
              some true
          else
            some false
        else
          some false
set_option maxRecDepth 20000 in
theorem f22_ok {H : Hp} {x0 : Sight} {r : Bool} (hp : f22 x0 = some r) :
    SCall Tryd.prog 22 [.agg ⟨[.int .i64 x0.Floor, .int .i64 x0.Panel, .bool x0.Out]⟩] H (Ret fun v H' => Ext H H' ∧ R_4 r H.next H' v) := by
  obtain ⟨x0_Floor, x0_Panel, x0_Out⟩ := x0
  unfold f22 at hp
  replace hp := topS hp
  refine SCall.g Tryd.func22 rfl rfl rfl rfl rfl (l := [(0, .v (.agg ⟨[.int .i64 x0_Floor, .int .i64 x0_Panel, .bool x0_Out]⟩))]) (fun _ => rfl) (fun B abB => ?_)
  refine WJ.ci 210 hp rfl rfl rfl rfl rfl rfl rfl rfl rfl (fun hc5 hp => ?_) (fun hc5 hp => ?_)
  · obtain rfl := endS (show some _ = some r from hp)
    exact WJ.rt 211 rfl rfl rfl (fun ids H' fr => ⟨fr.ext0, rfl⟩)
  · refine WJ.ci 203 hp rfl rfl rfl rfl rfl rfl rfl rfl rfl (fun hc9 hp => ?_) (fun hc9 hp => ?_)
    · obtain rfl := endS (show some _ = some r from hp)
      exact WJ.rt 207 rfl rfl rfl (fun ids H' fr => ⟨fr.ext0, rfl⟩)
    · refine WJ.ci 209 hp rfl rfl rfl rfl rfl rfl rfl rfl rfl (fun hc13 hp => ?_) (fun hc13 hp => ?_)
      · cases x0_Out
        · replace hp := (itS hp).2 Bool.false_ne_true
          obtain ⟨t19, e19, hp⟩ := bindS hp
          refine WJ.cv 209 (b := t19) (H0 := ⟨.nil, 0, 0⟩) rfl rfl rfl rfl rfl rfl (by rw [← endS e19]; exact rfl) rfl ?_
          obtain rfl := endS (show some _ = some r from hp)
          exact WJ.rt 203 rfl rfl rfl (fun ids H' fr => ⟨fr.ext0, rfl⟩)
        · replace hp := (itS hp).1 rfl
          obtain rfl := endS (show some _ = some r from hp)
          exact WJ.rt 213 rfl rfl rfl (fun ids H' fr => ⟨fr.ext0, rfl⟩)
      · refine WJ.ci 207 hp rfl rfl rfl rfl rfl rfl rfl rfl rfl (fun hc23 hp => ?_) (fun hc23 hp => ?_)
        · refine WJ.ci 203 hp rfl rfl rfl rfl rfl rfl rfl rfl rfl (fun hc27 hp => ?_) (fun hc27 hp => ?_)
          · cases x0_Out
            · replace hp := (itS hp).2 Bool.false_ne_true
              obtain rfl := endS (show some _ = some r from hp)
              exact WJ.rt 208 rfl rfl rfl (fun ids H' fr => ⟨fr.ext0, rfl⟩)
            · replace hp := (itS hp).1 rfl
              obtain rfl := endS (show some _ = some r from hp)
              exact WJ.rt 208 rfl rfl rfl (fun ids H' fr => ⟨fr.ext0, rfl⟩)
          · obtain rfl := endS (show some _ = some r from hp)
            exact WJ.rt 208 rfl rfl rfl (fun ids H' fr => ⟨fr.ext0, rfl⟩)
        · obtain rfl := endS (show some _ = some r from hp)
          exact WJ.rt 212 rfl rfl rfl (fun ids H' fr => ⟨fr.ext0, rfl⟩)
/-! 30 tipstaff/tipstaffref32.digits -/
def f30 : Nat → Int → Option (List UInt8)
  | 0, _ => none
  | k + 1, x0 =>
    if x0 < 10 then
      (sub ([48, 49, 50, 51, 52, 53, 54, 55, 56, 57]) x0 (IntKind.i64.wrap (x0 + 1))).bind fun s8 =>
      some s8
    else
      (f30 k (IntKind.i64.wrap (x0.tdiv 10))).bind fun t11 =>
      (sub ([48, 49, 50, 51, 52, 53, 54, 55, 56, 57]) (x0.tmod 10) (IntKind.i64.wrap ((x0.tmod 10) + 1))).bind fun s17 =>
      (scat t11 s17).bind fun s18 =>
      some s18
set_option maxRecDepth 20000 in
theorem f30_ok {k : Nat} {H : Hp} {x0 : Int} {r : List UInt8} (hp : f30 k x0 = some r) :
    SCall Tryd.prog 30 [.int .i64 x0] H (Ret fun v H' => Ext H H' ∧ R_9 r H.next H' v) := by
  induction k generalizing H x0 r with
  | zero => rw [f30] at hp; cases hp
  | succ k ih =>
  rw [f30] at hp
  replace hp := topS hp
  refine SCall.g Tryd.func30 rfl rfl rfl rfl rfl (l := [(0, .v (.int .i64 x0))]) (fun _ => rfl) (fun B abB => ?_)
  refine WJ.ci 208 hp rfl rfl rfl rfl rfl rfl rfl rfl rfl (fun hc4 hp => ?_) (fun hc4 hp => ?_)
  · obtain ⟨s8, e8, hp⟩ := bindS hp
    refine WJ.hd (v := .string (bs s8)) 207 rfl rfl rfl rfl (fun ids H' fr => opD_slh rfl (evV_eq _ _ _ _ _ rfl) (evV_eq _ _ _ _ _ rfl) (evV_eq _ _ _ _ _ rfl) (sliceD_lh us9 e8)) rfl ?_
    obtain rfl := endS (show some _ = some r from hp)
    exact WJ.rt 202 rfl rfl rfl (fun ids H' fr => ⟨fr.ext0, rfl⟩)
  · refine WJ.drF 204 rfl gmix (by kernel_rfl) (by kernel_rfl) rfl (fun D1 eD1 abD1 => ?_)
    refine WD.hd (v := .int .i64 (IntKind.i64.wrap (x0.tdiv 10))) rfl rfl rfl rfl (fun ids H' s0 h0 f => side_pure rfl rfl h0 f) (fun ids H' fr => opD_bin rfl (evV_eq _ _ _ _ _ rfl) (evV_eq _ _ _ _ _ rfl) (bin_quo (by decide))) rfl ?_
    obtain ⟨t11, e11, hp⟩ := bindS hp
    refine WD.cl (R := R_9 t11) (fun hm h k => R_9.mono hm h k) rfl (fun ids H' fr => ih e11) ?_
    rintro v B2 ⟨abB2, ivB2⟩ rfl
    refine ⟨_, rfl, ?_⟩
    refine WD.hd (v := .int .i64 (x0.tmod 10)) rfl rfl rfl rfl (fun ids H' s0 h0 f => side_pure rfl rfl h0 f) (fun ids H' fr => opD_bin rfl (evV_eq _ _ _ _ _ rfl) (evV_eq _ _ _ _ _ rfl) (bin_rem (by decide))) rfl ?_
    refine WD.hd (v := .int .i64 (x0.tmod 10)) rfl rfl rfl rfl (fun ids H' s0 h0 f => side_pure rfl rfl h0 f) (fun ids H' fr => opD_bin rfl (evV_eq _ _ _ _ _ rfl) (evV_eq _ _ _ _ _ rfl) (bin_rem (by decide))) rfl ?_
    obtain ⟨s17, e17, hp⟩ := bindS hp
    refine WD.hd (v := .string (bs s17)) rfl rfl rfl rfl (fun ids H' s0 h0 f => side_str rfl rfl rfl h0 f) (fun ids H' fr => opD_slh rfl (evV_eq _ _ _ _ _ rfl) (evV_eq _ _ _ _ _ rfl) (evV_eq _ _ _ _ _ rfl) (sliceD_lh us9 e17)) rfl ?_
    obtain ⟨s18, e18, hp⟩ := bindS hp
    refine WD.hd (v := .string (bs s18)) rfl rfl rfl rfl (fun ids H' s0 h0 f => side_pure rfl rfl h0 f) (fun ids H' fr => opD_bin rfl (evV_eq _ _ _ _ _ rfl) (evV_eq _ _ _ _ _ rfl) (bin_sadd e18)) rfl ?_
    refine WD.done rfl ?_
    obtain rfl := endS (show some _ = some r from hp)
    exact WJ.rt 200 rfl rfl rfl (fun ids H' fr => ⟨fr.ext0, rfl⟩)
/-! 23 tipstaff/tipstaffref32.text -/
def f23 (k : Nat) (x0 : Sight) : Option (List UInt8) :=
  if x0.Floor ≥ 0 then
    (f30 k x0.Floor).bind fun t9 =>
    (scat t9 ([58])).bind fun s10 =>
    (f30 k x0.Panel).bind fun t13 =>
    (scat s10 t13).bind fun s14 =>
    some s14
  else
    if x0.Out then
      if x0.Panel = 0 then
        some ([111, 117, 116])
      else
        (f30 k x0.Panel).bind fun t25 =>
        (scat ([111, 117, 116, 58]) t25).bind fun s26 =>
        some s26
    else
      some ([45])
set_option maxRecDepth 20000 in
theorem f23_ok {k : Nat} {H : Hp} {x0 : Sight} {r : List UInt8} (hp : f23 k x0 = some r) :
    SCall Tryd.prog 23 [.agg ⟨[.int .i64 x0.Floor, .int .i64 x0.Panel, .bool x0.Out]⟩] H (Ret fun v H' => Ext H H' ∧ R_9 r H.next H' v) := by
  obtain ⟨x0_Floor, x0_Panel, x0_Out⟩ := x0
  unfold f23 at hp
  replace hp := topS hp
  refine SCall.g Tryd.func23 rfl rfl rfl rfl rfl (l := [(0, .v (.agg ⟨[.int .i64 x0_Floor, .int .i64 x0_Panel, .bool x0_Out]⟩))]) (fun _ => rfl) (fun B abB => ?_)
  refine WJ.ci 211 hp rfl rfl rfl rfl rfl rfl rfl rfl rfl (fun hc6 hp => ?_) (fun hc6 hp => ?_)
  · refine WJ.drF 204 rfl gmix (by kernel_rfl) (by kernel_rfl) rfl (fun D1 eD1 abD1 => ?_)
    obtain ⟨t9, e9, hp⟩ := bindS hp
    refine WD.cl (R := R_9 t9) (fun hm h k => R_9.mono hm h k) rfl (fun ids H' fr => f30_ok e9) ?_
    rintro v B2 ⟨abB2, ivB2⟩ rfl
    refine ⟨_, rfl, ?_⟩
    obtain ⟨s10, e10, hp⟩ := bindS hp
    refine WD.hd (v := .string (bs s10)) rfl rfl rfl rfl (fun ids H' s0 h0 f => side_pure rfl rfl h0 f) (fun ids H' fr => opD_bin rfl (evV_eq _ _ _ _ _ rfl) (evV_eq _ _ _ _ _ rfl) (bin_sadd e10)) rfl ?_
    obtain ⟨t13, e13, hp⟩ := bindS hp
    refine WD.cl (R := R_9 t13) (fun hm h k => R_9.mono hm h k) rfl (fun ids H' fr => f30_ok e13) ?_
    rintro v B3 ⟨abB3, ivB3⟩ rfl
    refine ⟨_, rfl, ?_⟩
    obtain ⟨s14, e14, hp⟩ := bindS hp
    refine WD.hd (v := .string (bs s14)) rfl rfl rfl rfl (fun ids H' s0 h0 f => side_pure rfl rfl h0 f) (fun ids H' fr => opD_bin rfl (evV_eq _ _ _ _ _ rfl) (evV_eq _ _ _ _ _ rfl) (bin_sadd e14)) rfl ?_
    refine WD.done rfl ?_
    obtain rfl := endS (show some _ = some r from hp)
    exact WJ.rt 200 rfl rfl rfl (fun ids H' fr => ⟨fr.ext0, rfl⟩)
  · cases x0_Out
    · replace hp := (itS hp).2 Bool.false_ne_true
      obtain rfl := endS (show some _ = some r from hp)
      exact WJ.rt 215 rfl rfl rfl (fun ids H' fr => ⟨fr.ext0, rfl⟩)
    · replace hp := (itS hp).1 rfl
      refine WJ.ci 215 hp rfl rfl rfl rfl rfl rfl rfl rfl rfl (fun hc22 hp => ?_) (fun hc22 hp => ?_)
      · obtain rfl := endS (show some _ = some r from hp)
        exact WJ.rt 207 rfl rfl rfl (fun ids H' fr => ⟨fr.ext0, rfl⟩)
      · obtain ⟨t25, e25, hp⟩ := bindS hp
        refine WJ.cl 209 (R := R_9 t25) (fun hm h k => R_9.mono hm h k) rfl (fun ids H' fr => f30_ok e25) ?_
        rintro v B4 ⟨abB4, ivB4⟩ rfl
        refine ⟨_, rfl, ?_⟩
        obtain ⟨s26, e26, hp⟩ := bindS hp
        refine WJ.hd (v := .string (bs s26)) 200 rfl rfl rfl rfl (fun ids H' fr => opD_bin rfl (evV_eq _ _ _ _ _ rfl) (evV_eq _ _ _ _ _ rfl) (bin_sadd e26)) rfl ?_
        obtain rfl := endS (show some _ = some r from hp)
        exact WJ.rt 202 rfl rfl rfl (fun ids H' fr => ⟨fr.ext0, rfl⟩)
/-! 8 tipstaff/tipstaffref32.Text -/
def f8 (k : Nat) (x0 : Sight) : Option ((List UInt8) × Int) :=
  (f22 (Sight.mk x0.Floor x0.Panel x0.Out)).bind fun t5 =>
  if t5 then
    (f23 k (Sight.mk x0.Floor x0.Panel x0.Out)).bind fun t8 =>
    some (t8, 0)
  else
    some (([] : List UInt8), 2)
set_option maxRecDepth 20000 in
theorem f8_ok {k : Nat} {H : Hp} {x0 : Sight} {r : (List UInt8) × Int} (hp : f8 k x0 = some r) :
    SCall Tryd.prog 8 [.agg ⟨[.int .i64 x0.Floor, .int .i64 x0.Panel, .bool x0.Out]⟩] H (Ret fun v H' => Ext H H' ∧ R_9_25 r H.next H' v) := by
  obtain ⟨x0_Floor, x0_Panel, x0_Out⟩ := x0
  unfold f8 at hp
  replace hp := topS hp
  refine SCall.g Tryd.func8 rfl rfl rfl rfl rfl (l := [(0, .v (.agg ⟨[.int .i64 x0_Floor, .int .i64 x0_Panel, .bool x0_Out]⟩))]) (fun _ => rfl) (fun B abB => ?_)
  obtain ⟨t5, e5, hp⟩ := bindS hp
  refine WJ.cl 210 (R := R_4 t5) (fun hm h k => R_4.mono hm h k) rfl (fun ids H' fr => f22_ok (x0 := (Sight.mk x0_Floor x0_Panel x0_Out)) e5) ?_
  rintro v B1 ⟨abB1, ivB1⟩ rfl
  refine ⟨_, rfl, ?_⟩
  cases t5
  · replace hp := (itS hp).2 Bool.false_ne_true
    obtain rfl := endS (show some _ = some r from hp)
    exact WJ.rt 208 rfl rfl rfl (fun ids H' fr => ⟨fr.ext0, rfl⟩)
  · replace hp := (itS hp).1 rfl
    obtain ⟨t8, e8, hp⟩ := bindS hp
    refine WJ.cl 207 (R := R_9 t8) (fun hm h k => R_9.mono hm h k) rfl (fun ids H' fr => f23_ok (x0 := (Sight.mk x0_Floor x0_Panel x0_Out)) e8) ?_
    rintro v B2 ⟨abB2, ivB2⟩ rfl
    refine ⟨_, rfl, ?_⟩
    obtain rfl := endS (show some _ = some r from hp)
    exact WJ.rt 203 rfl rfl rfl (fun ids H' fr => ⟨fr.ext0, rfl⟩)
/-! 25 tipstaff/scrub.number -/
def f25_l1 (x0 : List UInt8) : Nat → Nat → Option ((Int × Bool) ⊕ (Unit))
  | 0, _ => none
  | n + 1, p0 =>
    if p0 < x0.length then
      if (decL x0 p0) > 57 then
        some (Sum.inl ((0, false) : Int × Bool))
      else
        (f32 (decL x0 p0)).bind fun t17 =>
        if t17 then
          f25_l1 x0 n (p0 + decN x0 p0)
        else
          some (Sum.inl ((0, false) : Int × Bool))
    else
      some (Sum.inr ())

def f25 (k : Nat) (x0 : List UInt8) : Option (Int × Bool) :=
  (f25_l1 x0 k 0).bind fun s => match s with
    | .inl st => some st
    | .inr _ => 
      (f33 x0).bind fun (t22_0, t22_1) =>
      if t22_1 then
        (some (decide ((x0.length : Int) ≤ 2))).bind fun t31 =>
        some (t22_0, t31)
      else
        some (t22_0, false)
set_option maxRecDepth 20000 in
theorem f25_ok {k : Nat} {H : Hp} {x0 : List UInt8} {r : Int × Bool} (hp : f25 k x0 = some r) :
    SCall Tryd.prog 25 [.string (bs x0)] H (Ret fun v H' => Ext H H' ∧ R_3_4 r H.next H' v) := by
  unfold f25 at hp
  replace hp := topS hp
  refine SCall.g Tryd.func25 rfl rfl rfl rfl rfl (l := [(0, .v (.string (bs x0)))]) (fun _ => rfl) (fun B abB => ?_)
  refine WJ.rg 209 rfl rfl rfl rfl rfl us9 rfl ?_
  rintro b9 B1 ⟨abB1, ivB1⟩ h09 it9
  refine ⟨_, rfl, ?_⟩
  refine WJ.adv 2 rfl ?_
  obtain ⟨K1, hK1, hp⟩ : ∃ K, K = _ ∧ Option.bind _ K = some r := ⟨_, rfl, cutS hp⟩
  refine WJ.cut 2 (α := Hp) (fun y => [(0, .v (.string (bs x0)))]) (fun y => []) (fun y => []) (fun y => y) (fun y => K1 (Sum.inr ()) = some r) ?_ (fun j1 => ?_)
  · rintro B5 hp
    subst hK1
    show WJ _ _ _ B5 [] _ _ ⟨[(0, .v (.string (bs x0)))], [], true, 0⟩
    obtain ⟨⟨t22_0, t22_1⟩, e22, hp⟩ := bindS hp
    refine WJ.cl 203 (R := R_3_60 ⟨t22_0, t22_1⟩) (fun hm h k => R_3_60.mono hm h k) rfl (fun ids H' fr => f33_ok e22) ?_
    rintro v B6 ⟨abB6, ivB6⟩ ⟨y22, rfl, hy22⟩
    refine ⟨_, rfl, ?_⟩
    cases t22_1
    · replace hp := (itS hp).2 Bool.false_ne_true
      obtain ⟨ty22, z22, rfl⟩ : ∃ t z, y22 = .iface t z := hy22
      refine WJ.cv 210 (b := false) (H0 := ⟨.nil, 0, 0⟩) rfl rfl rfl rfl rfl rfl (opD_ifE rfl rfl rfl ui60) rfl ?_
      obtain rfl := endS (show some _ = some r from hp)
      exact WJ.rt 208 rfl rfl rfl (fun ids H' fr => ⟨fr.ext0, rfl⟩)
    · replace hp := (itS hp).1 rfl
      obtain rfl : y22 = .nilIface := hy22
      refine WJ.cv 210 (b := true) (H0 := ⟨.nil, 0, 0⟩) rfl rfl rfl rfl rfl rfl (opD_nnE rfl rfl rfl ui60) rfl ?_
      obtain ⟨t31, e31, hp⟩ := bindS hp
      refine WJ.cv 203 (b := t31) (H0 := ⟨.nil, 0, 0⟩) rfl rfl rfl rfl rfl rfl (by rw [← endS e31]; exact rfl) rfl ?_
      obtain rfl := endS (show some _ = some r from hp)
      exact WJ.rt 204 rfl rfl rfl (fun ids H' fr => ⟨fr.ext0, rfl⟩)
  · refine WJ.lp 200 (α := Nat × Nat × Hp) (fun y => [(0, .v (.string (bs x0))), (9, .v (.pointer (some ⟨b9, 0, none⟩)))]) (fun y => []) (fun y => []) (fun y => y.2.2) (fun y => y.1) (fun y => Option.bind (f25_l1 x0 y.1 y.2.1) K1 = some r ∧ y.2.2.get b9 = some (.iter (bs x0) y.2.1)) (k, 0, B1) rfl ⟨hp, it9⟩ (by exact ⟨rfl, rfl, trivial⟩) rfl rfl rfl ?_
    rintro ⟨n, p0, B2⟩ ⟨hp, it9⟩ ih1
    show WJ _ _ _ B2 [] _ _ ⟨[(0, .v (.string (bs x0))), (9, .v (.pointer (some ⟨b9, 0, none⟩)))], [], true, 0⟩
    replace hp : Option.bind (f25_l1 x0 n p0) K1 = some r := hp
    cases n with
    | zero => rw [f25_l1] at hp; exact (noS hp).elim
    | succ n =>
      rw [f25_l1] at hp
      refine WJ.nx 202 hp rfl rfl rfl rfl rfl rfl it9 h09 rfl rfl (fun hp B3 abB3 neB3 it_new => ?_) (fun hp => ?_)
      · replace it9 := it_new
        refine WJ.ci 214 hp rfl rfl rfl rfl rfl rfl rfl rfl rfl (fun hc14 hp => ?_) (fun hc14 hp => ?_)
        · subst hK1
          obtain rfl := endS (show some _ = some r from hp)
          exact WJ.rt 212 rfl rfl rfl (fun ids H' fr => ⟨fr.ext0, rfl⟩)
        · obtain ⟨t17, e17, hp⟩ := bindS hp
          refine WJ.cl 202 (R := R_4 t17) (fun hm h k => R_4.mono hm h k) rfl (fun ids H' fr => f32_ok e17) ?_
          rintro v B4 ⟨abB4, ivB4⟩ rfl
          refine ⟨_, rfl, ?_⟩
          replace it9 := ivB4 _ _ it9
          cases t17
          · replace hp := (itS hp).2 Bool.false_ne_true
            subst hK1
            obtain rfl := endS (show some _ = some r from hp)
            exact WJ.rt 209 rfl rfl rfl (fun ids H' fr => ⟨fr.ext0, rfl⟩)
          · replace hp := (itS hp).1 rfl
            exact WJ.ag 206 rfl (by exact ⟨rfl, rfl, trivial⟩) rfl rfl rfl (ih1 (n, (p0 + decN x0 p0), B4) ⟨hp, it9⟩ (Nat.lt_succ_self _))
      · exact WJ.goto 5 (j1 B2 hp) rfl rfl (by exact ⟨rfl, trivial⟩) rfl rfl rfl
/-! 9 tipstaff/scrub.Parse -/
def f9 (k : Nat) (x0 : List UInt8) : Option (Sight × Int) :=
  (f24 x0 ([58])).bind fun (t16_0, t16_1, t16_2) =>
  (some (decide (t16_0 = ([111, 117, 116])))).bind fun t21 =>
  (if t16_2 then
    (f25 k t16_1).bind fun (t26_0, t26_1) =>
    some ((t26_0, t26_1))
  else
    some ((0, true))).bind fun (v1_1_3, x8_3) =>
    (f25 k t16_0).bind fun (t32_0, t32_1) =>
    (if t32_1 then
      some (t32_0)
    else
      some ((-1))).bind fun v1_0_5 =>
      (f7 (Sight.mk v1_0_5 v1_1_3 t21)).bind fun (t40_0, t40_1) =>
      if x8_3 then
        if t40_1 = 0 then
          if t40_0 = x0 then
            some ((Sight.mk v1_0_5 v1_1_3 t21), 0)
          else
            some ((Sight.mk 0 0 false), 3)
        else
          some ((Sight.mk 0 0 false), 3)
      else
        some ((Sight.mk 0 0 false), 3)
set_option maxRecDepth 20000 in
theorem f9_ok {k : Nat} {H : Hp} {x0 : List UInt8} {r : Sight × Int} (hp : f9 k x0 = some r) :
    SCall Tryd.prog 9 [.string (bs x0)] H (Ret fun v H' => Ext H H' ∧ R_23_25 r H.next H' v) := by
  unfold f9 at hp
  replace hp := topS hp
  refine SCall.g Tryd.func9 rfl rfl rfl rfl rfl (l := [(0, .v (.string (bs x0)))]) (fun _ => rfl) (fun B abB => ?_)
  obtain ⟨⟨t16_0, t16_1, t16_2⟩, e16, hp⟩ := bindS hp
  refine WJ.cl 214 (R := R_9_9_4 ⟨t16_0, t16_1, t16_2⟩) (fun hm h k => R_9_9_4.mono hm h k) rfl (fun ids H' fr => f24_ok e16) ?_
  rintro v B1 ⟨abB1, ivB1⟩ rfl
  refine ⟨_, rfl, ?_⟩
  obtain ⟨t21, e21, hp⟩ := bindS hp
  refine WJ.cv 211 (b := t21) (H0 := ⟨.nil, 0, 0⟩) rfl rfl rfl rfl rfl rfl (by rw [← endS e21]; exact (opD_streq rfl rfl rfl)) rfl ?_
  refine WJ.adv 12 rfl ?_
  obtain ⟨K3, hK3, hp⟩ : ∃ K, K = _ ∧ Option.bind _ K = some r := ⟨_, rfl, cutS hp⟩
  refine WJ.cut 1 (α := Int × Bool × Hp) (fun y => [(0, .v (.string (bs x0))), (2, .p 0 0), (4, .p 1 0), (5, .v (.string (bs t16_0))), (8, .v (.bool y.2.1))]) (fun y => [[.int .i64 0, .int .i64 0, .bool false], [.int .i64 (-1), .int .i64 y.1, .bool t21]]) (fun y => []) (fun y => y.2.2) (fun y => K3 (((y.1, y.2.1))) = some r) ?_ (fun j3 => ?_)
  · rintro ⟨v1_1_3, x8_3, B3⟩ hp
    subst hK3
    show WJ _ _ _ B3 [] _ _ ⟨[(0, .v (.string (bs x0))), (2, .p 0 0), (4, .p 1 0), (5, .v (.string (bs t16_0))), (8, .v (.bool x8_3))], [[.int .i64 0, .int .i64 0, .bool false], [.int .i64 (-1), .int .i64 v1_1_3, .bool t21]], true, 0⟩
    obtain ⟨⟨t32_0, t32_1⟩, e32, hp⟩ := bindS hp
    refine WJ.cl 204 (R := R_3_4 ⟨t32_0, t32_1⟩) (fun hm h k => R_3_4.mono hm h k) rfl (fun ids H' fr => f25_ok e32) ?_
    rintro v B4 ⟨abB4, ivB4⟩ rfl
    refine ⟨_, rfl, ?_⟩
    refine WJ.adv 10 rfl ?_
    obtain ⟨K5, hK5, hp⟩ : ∃ K, K = _ ∧ Option.bind _ K = some r := ⟨_, rfl, cutS hp⟩
    refine WJ.cut 1 (α := Int) (fun y => [(0, .v (.string (bs x0))), (2, .p 0 0), (4, .p 1 0), (8, .v (.bool x8_3))]) (fun y => [[.int .i64 0, .int .i64 0, .bool false], [.int .i64 y, .int .i64 v1_1_3, .bool t21]]) (fun y => []) (fun y => B4) (fun y => K5 ((y)) = some r) ?_ (fun j5 => ?_)
    · rintro v1_0_5 hp
      subst hK5
      show WJ _ _ _ B4 [] _ _ ⟨[(0, .v (.string (bs x0))), (2, .p 0 0), (4, .p 1 0), (8, .v (.bool x8_3))], [[.int .i64 0, .int .i64 0, .bool false], [.int .i64 v1_0_5, .int .i64 v1_1_3, .bool t21]], true, 0⟩
      obtain ⟨⟨t40_0, t40_1⟩, e40, hp⟩ := bindS hp
      refine WJ.cl 203 (R := R_9_25 ⟨t40_0, t40_1⟩) (fun hm h k => R_9_25.mono hm h k) rfl (fun ids H' fr => f7_ok (x0 := (Sight.mk v1_0_5 v1_1_3 t21)) e40) ?_
      rintro v B5 ⟨abB5, ivB5⟩ rfl
      refine ⟨_, rfl, ?_⟩
      cases x8_3
      · replace hp := (itS hp).2 Bool.false_ne_true
        obtain rfl := endS (show some _ = some r from hp)
        exact WJ.rt 228 rfl rfl rfl (fun ids H' fr => ⟨fr.ext0, rfl⟩)
      · replace hp := (itS hp).1 rfl
        refine WJ.cn 213 hp rfl rfl rfl rfl rfl rfl rfl rfl rfl (fun hc47 hp => ?_) (fun hc47 hp => ?_)
        · obtain rfl := endS (show some _ = some r from hp)
          exact WJ.rt 214 rfl rfl rfl (fun ids H' fr => ⟨fr.ext0, rfl⟩)
        · refine WJ.cn 204 hp rfl rfl rfl rfl rfl rfl (opD_strne rfl rfl rfl) rfl rfl (fun hc52 hp => ?_) (fun hc52 hp => ?_)
          · obtain rfl := endS (show some _ = some r from hp)
            exact WJ.rt 209 rfl rfl rfl (fun ids H' fr => ⟨fr.ext0, rfl⟩)
          · obtain rfl := endS (show some _ = some r from hp)
            exact WJ.rt 210 rfl rfl rfl (fun ids H' fr => ⟨fr.ext0, rfl⟩)
    · cases t32_1
      · replace hp := (itS hp).2 Bool.false_ne_true
        exact WJ.goto 2 (j5 (-1) hp) rfl rfl (by exact ⟨rfl, rfl, rfl, rfl, trivial⟩) rfl rfl rfl
      · replace hp := (itS hp).1 rfl
        exact WJ.goto 6 (j5 t32_0 hp) rfl rfl (by exact ⟨rfl, rfl, rfl, rfl, trivial⟩) rfl rfl rfl
  · cases t16_2
    · replace hp := (itS hp).2 Bool.false_ne_true
      exact WJ.goto 2 (j3 (0, true, B1) hp) rfl rfl (by exact ⟨rfl, rfl, rfl, rfl, rfl, trivial⟩) rfl rfl rfl
    · replace hp := (itS hp).1 rfl
      obtain ⟨⟨t26_0, t26_1⟩, e26, hp⟩ := bindS hp
      refine WJ.cl 203 (R := R_3_4 ⟨t26_0, t26_1⟩) (fun hm h k => R_3_4.mono hm h k) rfl (fun ids H' fr => f25_ok e26) ?_
      rintro v B2 ⟨abB2, ivB2⟩ rfl
      refine ⟨_, rfl, ?_⟩
      exact WJ.goto 7 (j3 (t26_0, t26_1, B2) hp) rfl rfl (by exact ⟨rfl, rfl, rfl, rfl, rfl, trivial⟩) rfl rfl rfl
/-! 10 tipstaff/tipstaffref32.Parse -/
def f10_l3 (k : Nat) (x0 : List UInt8) (x4 : Int) (x5 : Int) : Nat → Int → Option ((Sight × Int) ⊕ (Unit))
  | 0, _ => none
  | n + 1, x6 =>
    if x6 < 2 then
      (some (x6 == 1)).bind fun t23 =>
      (f22 (Sight.mk x4 x5 t23)).bind fun t26 =>
      if t26 then
        (f23 k (Sight.mk x4 x5 t23)).bind fun t29 =>
        if t29 = x0 then
          some (Sum.inl (((Sight.mk x4 x5 t23), 0) : Sight × Int))
        else
          f10_l3 k x0 x4 x5 n (IntKind.i64.wrap (x6 + 1))
      else
        f10_l3 k x0 x4 x5 n (IntKind.i64.wrap (x6 + 1))
    else
      some (Sum.inr ())

def f10_l2 (k : Nat) (x0 : List UInt8) (x4 : Int) : Nat → Int → Option ((Sight × Int) ⊕ (Unit))
  | 0, _ => none
  | n + 1, x5 =>
    if x5 ≤ 20 then
      (f10_l3 k x0 x4 x5 k 0).bind fun s => match s with
        | .inl st => some (Sum.inl st)
        | .inr _ => 
          f10_l2 k x0 x4 n (IntKind.i64.wrap (x5 + 1))
    else
      some (Sum.inr ())

def f10_l1 (k : Nat) (x0 : List UInt8) : Nat → Int → Option ((Sight × Int) ⊕ (Unit))
  | 0, _ => none
  | n + 1, x4 =>
    if x4 < 64 then
      (f10_l2 k x0 x4 k 0).bind fun s => match s with
        | .inl st => some (Sum.inl st)
        | .inr _ => 
          f10_l1 k x0 n (IntKind.i64.wrap (x4 + 1))
    else
      some (Sum.inr ())

def f10 (k : Nat) (x0 : List UInt8) : Option (Sight × Int) :=
  (f10_l1 k x0 k (-1)).bind fun s => match s with
    | .inl st => some st
    | .inr _ => 
      some ((Sight.mk 0 0 false), 3)
set_option maxRecDepth 20000 in
theorem f10_ok {k : Nat} {H : Hp} {x0 : List UInt8} {r : Sight × Int} (hp : f10 k x0 = some r) :
    SCall Tryd.prog 10 [.string (bs x0)] H (Ret fun v H' => Ext H H' ∧ R_23_25 r H.next H' v) := by
  unfold f10 at hp
  replace hp := topS hp
  refine SCall.g Tryd.func10 rfl rfl rfl rfl rfl (l := [(0, .v (.string (bs x0)))]) (fun _ => rfl) (fun B abB => ?_)
  refine WJ.adv 11 rfl ?_
  obtain ⟨K6, hK6, hp⟩ : ∃ K, K = _ ∧ Option.bind _ K = some r := ⟨_, rfl, cutS hp⟩
  refine WJ.cut 2 (α := Hp) (fun y => [(2, .p 0 0)]) (fun y => [[.int .i64 0, .int .i64 0, .bool false]]) (fun y => []) (fun y => y) (fun y => K6 (Sum.inr ()) = some r) ?_ (fun j6 => ?_)
  · rintro B8 hp
    subst hK6
    show WJ _ _ _ B8 [] _ _ ⟨[(2, .p 0 0)], [[.int .i64 0, .int .i64 0, .bool false]], true, 0⟩
    obtain rfl := endS (show some _ = some r from hp)
    exact WJ.rt 206 rfl rfl rfl (fun ids H' fr => ⟨fr.ext0, rfl⟩)
  · refine WJ.lp 200 (α := Nat × Int × Hp) (fun y => [(0, .v (.string (bs x0))), (2, .p 0 0), (4, .v (.int .i64 y.2.1))]) (fun y => [[.int .i64 0, .int .i64 0, .bool false]]) (fun y => []) (fun y => y.2.2) (fun y => y.1) (fun y => Option.bind (f10_l1 k x0 y.1 y.2.1) K6 = some r) (k, (-1), B) rfl hp (by exact ⟨rfl, rfl, rfl, trivial⟩) rfl rfl rfl ?_
    rintro ⟨n, x4, B1⟩ hp ih6
    show WJ _ _ _ B1 [] _ _ ⟨[(0, .v (.string (bs x0))), (2, .p 0 0), (4, .v (.int .i64 x4))], [[.int .i64 0, .int .i64 0, .bool false]], true, 0⟩
    replace hp : Option.bind (f10_l1 k x0 n x4) K6 = some r := hp
    cases n with
    | zero => rw [f10_l1] at hp; exact (noS hp).elim
    | succ n =>
      rw [f10_l1] at hp
      refine WJ.ci 204 hp rfl rfl rfl rfl rfl rfl rfl rfl rfl (fun hc9 hp => ?_) (fun hc9 hp => ?_)
      · refine WJ.adv 10 rfl ?_
        obtain ⟨K7, hK7, hp⟩ : ∃ K, K = _ ∧ Option.bind _ K = some r := ⟨_, rfl, cutS hp⟩
        refine WJ.cut 3 (α := Hp) (fun y => [(0, .v (.string (bs x0))), (2, .p 0 0), (4, .v (.int .i64 x4))]) (fun y => [[.int .i64 0, .int .i64 0, .bool false]]) (fun y => []) (fun y => y) (fun y => K7 (Sum.inr ()) = some r) ?_ (fun j7 => ?_)
        · rintro B7 hp
          subst hK7
          show WJ _ _ _ B7 [] _ _ ⟨[(0, .v (.string (bs x0))), (2, .p 0 0), (4, .v (.int .i64 x4))], [[.int .i64 0, .int .i64 0, .bool false]], true, 0⟩
          exact WJ.ag 205 rfl (by exact ⟨rfl, rfl, rfl, trivial⟩) rfl rfl rfl (ih6 (n, IntKind.i64.wrap (x4 + 1), B7) hp (Nat.lt_succ_self _))
        · refine WJ.lp 200 (α := Nat × Int × Hp) (fun y => [(0, .v (.string (bs x0))), (2, .p 0 0), (4, .v (.int .i64 x4)), (5, .v (.int .i64 y.2.1))]) (fun y => [[.int .i64 0, .int .i64 0, .bool false]]) (fun y => []) (fun y => y.2.2) (fun y => y.1) (fun y => Option.bind (f10_l2 k x0 x4 y.1 y.2.1) K7 = some r) (k, 0, B1) rfl hp (by exact ⟨rfl, rfl, rfl, rfl, trivial⟩) rfl rfl rfl ?_
          rintro ⟨n, x5, B2⟩ hp ih7
          show WJ _ _ _ B2 [] _ _ ⟨[(0, .v (.string (bs x0))), (2, .p 0 0), (4, .v (.int .i64 x4)), (5, .v (.int .i64 x5))], [[.int .i64 0, .int .i64 0, .bool false]], true, 0⟩
          replace hp : Option.bind (f10_l2 k x0 x4 n x5) K7 = some r := hp
          cases n with
          | zero => rw [f10_l2] at hp; exact (noS hp).elim
          | succ n =>
            rw [f10_l2] at hp
            refine WJ.ci 204 hp rfl rfl rfl rfl rfl rfl rfl rfl rfl (fun hc13 hp => ?_) (fun hc13 hp => ?_)
            · refine WJ.adv 10 rfl ?_
              obtain ⟨K8, hK8, hp⟩ : ∃ K, K = _ ∧ Option.bind _ K = some r := ⟨_, rfl, cutS hp⟩
              refine WJ.cut 3 (α := Hp) (fun y => [(0, .v (.string (bs x0))), (2, .p 0 0), (4, .v (.int .i64 x4)), (5, .v (.int .i64 x5))]) (fun y => [[.int .i64 0, .int .i64 0, .bool false]]) (fun y => []) (fun y => y) (fun y => K8 (Sum.inr ()) = some r) ?_ (fun j8 => ?_)
              · rintro B6 hp
                subst hK8
                show WJ _ _ _ B6 [] _ _ ⟨[(0, .v (.string (bs x0))), (2, .p 0 0), (4, .v (.int .i64 x4)), (5, .v (.int .i64 x5))], [[.int .i64 0, .int .i64 0, .bool false]], true, 0⟩
                exact WJ.ag 205 rfl (by exact ⟨rfl, rfl, rfl, rfl, trivial⟩) rfl rfl rfl (ih7 (n, IntKind.i64.wrap (x5 + 1), B6) hp (Nat.lt_succ_self _))
              · refine WJ.lp 200 (α := Nat × Int × Hp) (fun y => [(0, .v (.string (bs x0))), (2, .p 0 0), (4, .v (.int .i64 x4)), (5, .v (.int .i64 x5)), (6, .v (.int .i64 y.2.1))]) (fun y => [[.int .i64 0, .int .i64 0, .bool false]]) (fun y => []) (fun y => y.2.2) (fun y => y.1) (fun y => Option.bind (f10_l3 k x0 x4 x5 y.1 y.2.1) K8 = some r) (k, 0, B2) rfl hp (by exact ⟨rfl, rfl, rfl, rfl, rfl, trivial⟩) rfl rfl rfl ?_
                rintro ⟨n, x6, B3⟩ hp ih8
                show WJ _ _ _ B3 [] _ _ ⟨[(0, .v (.string (bs x0))), (2, .p 0 0), (4, .v (.int .i64 x4)), (5, .v (.int .i64 x5)), (6, .v (.int .i64 x6))], [[.int .i64 0, .int .i64 0, .bool false]], true, 0⟩
                replace hp : Option.bind (f10_l3 k x0 x4 x5 n x6) K8 = some r := hp
                cases n with
                | zero => rw [f10_l3] at hp; exact (noS hp).elim
                | succ n =>
                  rw [f10_l3] at hp
                  refine WJ.ci 204 hp rfl rfl rfl rfl rfl rfl rfl rfl rfl (fun hc17 hp => ?_) (fun hc17 hp => ?_)
                  · obtain ⟨t23, e23, hp⟩ := bindS hp
                    refine WJ.cv 210 (b := t23) (H0 := ⟨.nil, 0, 0⟩) rfl rfl rfl rfl rfl rfl (by rw [← endS e23]; exact rfl) rfl ?_
                    obtain ⟨t26, e26, hp⟩ := bindS hp
                    refine WJ.cl 207 (R := R_4 t26) (fun hm h k => R_4.mono hm h k) rfl (fun ids H' fr => f22_ok (x0 := (Sight.mk x4 x5 t23)) e26) ?_
                    rintro v B4 ⟨abB4, ivB4⟩ rfl
                    refine ⟨_, rfl, ?_⟩
                    cases t26
                    · replace hp := (itS hp).2 Bool.false_ne_true
                      exact WJ.ag 215 rfl (by exact ⟨rfl, rfl, rfl, rfl, rfl, trivial⟩) rfl rfl rfl (ih8 (n, IntKind.i64.wrap (x6 + 1), B4) hp (Nat.lt_succ_self _))
                    · replace hp := (itS hp).1 rfl
                      obtain ⟨t29, e29, hp⟩ := bindS hp
                      refine WJ.cl 202 (R := R_9 t29) (fun hm h k => R_9.mono hm h k) rfl (fun ids H' fr => f23_ok (x0 := (Sight.mk x4 x5 t23)) e29) ?_
                      rintro v B5 ⟨abB5, ivB5⟩ rfl
                      refine ⟨_, rfl, ?_⟩
                      refine WJ.ci 201 hp rfl rfl rfl rfl rfl rfl (opD_streq rfl rfl rfl) rfl rfl (fun hc31 hp => ?_) (fun hc31 hp => ?_)
                      · subst hK8
                        subst hK7
                        subst hK6
                        obtain rfl := endS (show some _ = some r from hp)
                        exact WJ.rt 209 rfl rfl rfl (fun ids H' fr => ⟨fr.ext0, rfl⟩)
                      · exact WJ.ag 210 rfl (by exact ⟨rfl, rfl, rfl, rfl, rfl, trivial⟩) rfl rfl rfl (ih8 (n, IntKind.i64.wrap (x6 + 1), B5) hp (Nat.lt_succ_self _))
                  · exact WJ.goto 4 (j8 B3 hp) rfl rfl (by exact ⟨rfl, rfl, rfl, rfl, trivial⟩) rfl rfl rfl
            · exact WJ.goto 4 (j7 B2 hp) rfl rfl (by exact ⟨rfl, rfl, rfl, trivial⟩) rfl rfl rfl
      · exact WJ.goto 3 (j6 B1 hp) rfl rfl (by exact ⟨rfl, trivial⟩) rfl rfl rfl
/-! 3 tipstaff/tipstafflaw32.ScrubTexts -/
def f3 (k : Nat) (x0 : Sight) (x1 : List UInt8) : Option Bool :=
  if (x1.length : Int) > 40 then
    (f6).bind fun t16 =>
    some t16
  else
    (f7 (Sight.mk x0.Floor x0.Panel x0.Out)).bind fun (t19_0, t19_1) =>
    (f8 k (Sight.mk x0.Floor x0.Panel x0.Out)).bind fun (t24_0, t24_1) =>
    (f9 k x1).bind fun (t29_0, t29_1) =>
    (f10 k x1).bind fun (t34_0, t34_1) =>
    if t19_0 = t24_0 then
      if t19_1 = t24_1 then
        if (Sight.mk t29_0.Floor t29_0.Panel t29_0.Out) = (Sight.mk t34_0.Floor t34_0.Panel t34_0.Out) then
          if t29_1 = t34_1 then
            (f6).bind fun t56 =>
            some t56
          else
            some false
        else
          some false
      else
        some false
    else
      some false
set_option maxRecDepth 20000 in
theorem f3_ok {k : Nat} {H : Hp} {x0 : Sight} {x1 : List UInt8} {r : Bool} (hp : f3 k x0 x1 = some r) :
    SCall Tryd.prog 3 [.agg ⟨[.int .i64 x0.Floor, .int .i64 x0.Panel, .bool x0.Out]⟩, .string (bs x1)] H (Ret fun v H' => Ext H H' ∧ R_4 r H.next H' v) := by
  obtain ⟨x0_Floor, x0_Panel, x0_Out⟩ := x0
  unfold f3 at hp
  replace hp := topS hp
  refine SCall.g Tryd.func3 rfl rfl rfl rfl rfl (l := [(0, .v (.agg ⟨[.int .i64 x0_Floor, .int .i64 x0_Panel, .bool x0_Out]⟩)), (1, .v (.string (bs x1)))]) (fun _ => rfl) (fun B abB => ?_)
  refine WJ.ci 210 hp rfl rfl rfl rfl rfl rfl rfl rfl rfl (fun hc15 hp => ?_) (fun hc15 hp => ?_)
  · obtain ⟨t16, e16, hp⟩ := bindS hp
    refine WJ.cl 204 (R := R_4 t16) (fun hm h k => R_4.mono hm h k) rfl (fun ids H' fr => f6_ok e16) ?_
    rintro v B1 ⟨abB1, ivB1⟩ rfl
    refine ⟨_, rfl, ?_⟩
    obtain rfl := endS (show some _ = some r from hp)
    exact WJ.rt 202 rfl rfl rfl (fun ids H' fr => ⟨fr.ext0, rfl⟩)
  · obtain ⟨⟨t19_0, t19_1⟩, e19, hp⟩ := bindS hp
    refine WJ.cl 206 (R := R_9_25 ⟨t19_0, t19_1⟩) (fun hm h k => R_9_25.mono hm h k) rfl (fun ids H' fr => f7_ok (x0 := (Sight.mk x0_Floor x0_Panel x0_Out)) e19) ?_
    rintro v B2 ⟨abB2, ivB2⟩ rfl
    refine ⟨_, rfl, ?_⟩
    obtain ⟨⟨t24_0, t24_1⟩, e24, hp⟩ := bindS hp
    refine WJ.cl 209 (R := R_9_25 ⟨t24_0, t24_1⟩) (fun hm h k => R_9_25.mono hm h k) rfl (fun ids H' fr => f8_ok (x0 := (Sight.mk x0_Floor x0_Panel x0_Out)) e24) ?_
    rintro v B3 ⟨abB3, ivB3⟩ rfl
    refine ⟨_, rfl, ?_⟩
    obtain ⟨⟨⟨t29_0_Floor, t29_0_Panel, t29_0_Out⟩, t29_1⟩, e29, hp⟩ := bindS hp
    refine WJ.cl 209 (R := R_23_25 ⟨⟨t29_0_Floor, t29_0_Panel, t29_0_Out⟩, t29_1⟩) (fun hm h k => R_23_25.mono hm h k) rfl (fun ids H' fr => f9_ok e29) ?_
    rintro v B4 ⟨abB4, ivB4⟩ rfl
    refine ⟨_, rfl, ?_⟩
    obtain ⟨⟨⟨t34_0_Floor, t34_0_Panel, t34_0_Out⟩, t34_1⟩, e34, hp⟩ := bindS hp
    refine WJ.cl 210 (R := R_23_25 ⟨⟨t34_0_Floor, t34_0_Panel, t34_0_Out⟩, t34_1⟩) (fun hm h k => R_23_25.mono hm h k) rfl (fun ids H' fr => f10_ok e34) ?_
    rintro v B5 ⟨abB5, ivB5⟩ rfl
    refine ⟨_, rfl, ?_⟩
    refine WJ.ci 211 hp rfl rfl rfl rfl rfl rfl (opD_streq rfl rfl rfl) rfl rfl (fun hc39 hp => ?_) (fun hc39 hp => ?_)
    · refine WJ.ci 203 hp rfl rfl rfl rfl rfl rfl rfl rfl rfl (fun hc43 hp => ?_) (fun hc43 hp => ?_)
      · refine WJ.ci 204 hp rfl rfl rfl rfl rfl rfl (opD_eqS rfl rfl rfl rfl gd23 (eq23 t29_0_Floor t29_0_Panel t29_0_Out t34_0_Floor t34_0_Panel t34_0_Out)) rfl rfl (fun hc48 hp => ?_) (fun hc48 hp => ?_)
        · refine WJ.ci 204 hp rfl rfl rfl rfl rfl rfl rfl rfl rfl (fun hc53 hp => ?_) (fun hc53 hp => ?_)
          · obtain ⟨t56, e56, hp⟩ := bindS hp
            refine WJ.cl 202 (R := R_4 t56) (fun hm h k => R_4.mono hm h k) rfl (fun ids H' fr => f6_ok e56) ?_
            rintro v B6 ⟨abB6, ivB6⟩ rfl
            refine ⟨_, rfl, ?_⟩
            obtain rfl := endS (show some _ = some r from hp)
            exact WJ.rt 203 rfl rfl rfl (fun ids H' fr => ⟨fr.ext0, rfl⟩)
          · obtain rfl := endS (show some _ = some r from hp)
            exact WJ.rt 206 rfl rfl rfl (fun ids H' fr => ⟨fr.ext0, rfl⟩)
        · obtain rfl := endS (show some _ = some r from hp)
          exact WJ.rt 211 rfl rfl rfl (fun ids H' fr => ⟨fr.ext0, rfl⟩)
      · obtain rfl := endS (show some _ = some r from hp)
        exact WJ.rt 216 rfl rfl rfl (fun ids H' fr => ⟨fr.ext0, rfl⟩)
    · obtain rfl := endS (show some _ = some r from hp)
      exact WJ.rt 220 rfl rfl rfl (fun ids H' fr => ⟨fr.ext0, rfl⟩)
end
end Go.Proofs.YtenddpplfdgcfaaDoor
