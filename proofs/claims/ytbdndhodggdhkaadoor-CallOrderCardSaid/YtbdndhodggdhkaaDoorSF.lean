import Derived.Test.YtbdndhodggdhkaaDoorSM
set_option linter.unusedVariables false
set_option linter.unusedSimpArgs false
namespace Go.Proofs.YtbdndhodggdhkaaDoor
open Go Go.Det Go.RowKit
noncomputable section
/-! 30 tipstaff/tipstaffkit.Mod -/
def f30 (x0 : Int) (x1 : Int) : Option Int :=
  if x1 < 1 then
    some 0
  else
    if x1 ≠ 0 then
      (if (x0.tmod x1) < 0 then
        some ((IntKind.i64.wrap ((x0.tmod x1) + x1)))
      else
        some ((x0.tmod x1))).bind fun x0_1 =>
        some x0_1
    else none
set_option maxRecDepth 20000 in
theorem f30_ok {H : Hp} {x0 : Int} {x1 : Int} {r : Int} (hp : f30 x0 x1 = some r) :
    SCall Tryd.prog 30 [.int .i64 x0, .int .i64 x1] H (Ret fun v H' => Ext H H' ∧ R_3 r H.next H' v) := by
  unfold f30 at hp
  replace hp := topS hp
  refine SCall.g Tryd.func30 rfl rfl rfl rfl rfl (l := [(0, .v (.int .i64 x0)), (1, .v (.int .i64 x1))]) (fun _ => rfl) (fun B abB => ?_)
  refine WJ.ci 208 hp rfl rfl rfl rfl rfl rfl rfl rfl rfl (fun hc6 hp => ?_) (fun hc6 hp => ?_)
  · obtain rfl := endS (show some _ = some r from hp)
    exact WJ.rt 206 rfl rfl rfl (fun ids H' fr => ⟨fr.ext0, rfl⟩)
  · obtain ⟨nz9, hp⟩ := ifS hp
    refine WJ.hd (v := .int .i64 (x0.tmod x1)) 207 rfl rfl rfl rfl (fun ids H' fr => opD_bin rfl (evV_eq _ _ _ _ _ rfl) (evV_eq _ _ _ _ _ rfl) (bin_rem nz9)) rfl ?_
    refine WJ.adv 4 rfl ?_
    obtain ⟨K1, hK1, hp⟩ : ∃ K, K = _ ∧ Option.bind _ K = some r := ⟨_, rfl, cutS hp⟩
    refine WJ.cut 2 (α := Int) (fun y => [(0, .v (.int .i64 y))]) (fun y => []) (fun y => []) (fun y => B) (fun y => K1 ((y)) = some r) ?_ (fun j1 => ?_)
    · rintro x0_1 hp
      subst hK1
      show WJ _ _ _ B [] _ _ ⟨[(0, .v (.int .i64 x0_1))], [], true, 0⟩
      obtain rfl := endS (show some _ = some r from hp)
      exact WJ.rt 205 rfl rfl rfl (fun ids H' fr => ⟨fr.ext0, rfl⟩)
    · refine WJ.ci 202 hp rfl rfl rfl rfl rfl rfl rfl rfl rfl (fun hc11 hp => ?_) (fun hc11 hp => ?_)
      · exact WJ.goto 8 (j1 (IntKind.i64.wrap ((x0.tmod x1) + x1)) hp) rfl rfl (by exact ⟨rfl, trivial⟩) rfl rfl rfl
      · exact WJ.goto 3 (j1 (x0.tmod x1) hp) rfl rfl (by exact ⟨rfl, trivial⟩) rfl rfl rfl
/-! 28 tipstaff/tipstafflaw20.made -/
def f28 (x0 : Int) : Option CallT :=
  (f30 x0 1073741824).bind fun t5 =>
  (if (IntKind.i64.wrap (1 + (t5.tmod 3))) = 3 then
    some ((IntKind.i64.wrap (1 + ((IntKind.i64.wrap (t5.tdiv 18)).tmod 4))))
  else
    some ((0 : Int))).bind fun v1_2_3 =>
    some (CallT.mk (IntKind.i64.wrap (1 + (t5.tmod 3))) ((IntKind.i64.wrap (t5.tdiv 3)).tmod 6) v1_2_3 ((IntKind.i64.wrap (t5.tdiv 72)).tmod 20))
set_option maxRecDepth 20000 in
theorem f28_ok {H : Hp} {x0 : Int} {r : CallT} (hp : f28 x0 = some r) :
    SCall Tryd.prog 28 [.int .i64 x0] H (Ret fun v H' => Ext H H' ∧ R_31 r H.next H' v) := by
  unfold f28 at hp
  replace hp := topS hp
  refine SCall.g Tryd.func28 rfl rfl rfl rfl rfl (l := [(0, .v (.int .i64 x0))]) (fun _ => rfl) (fun B abB => ?_)
  obtain ⟨t5, e5, hp⟩ := bindS hp
  refine WJ.cl 207 (R := R_3 t5) (fun hm h k => R_3.mono hm h k) rfl (fun ids H' fr => f30_ok e5) ?_
  rintro v B1 ⟨abB1, ivB1⟩ rfl
  refine ⟨_, rfl, ?_⟩
  refine WJ.hd (v := .int .i64 (t5.tmod 3)) 205 rfl rfl rfl rfl (fun ids H' fr => opD_bin rfl (evV_eq _ _ _ _ _ rfl) (evV_eq _ _ _ _ _ rfl) (bin_rem (by decide))) rfl ?_
  refine WJ.hd (v := .int .i64 (IntKind.i64.wrap (t5.tdiv 3))) 202 rfl rfl rfl rfl (fun ids H' fr => opD_bin rfl (evV_eq _ _ _ _ _ rfl) (evV_eq _ _ _ _ _ rfl) (bin_quo (by decide))) rfl ?_
  refine WJ.hd (v := .int .i64 ((IntKind.i64.wrap (t5.tdiv 3)).tmod 6)) 200 rfl rfl rfl rfl (fun ids H' fr => opD_bin rfl (evV_eq _ _ _ _ _ rfl) (evV_eq _ _ _ _ _ rfl) (bin_rem (by decide))) rfl ?_
  refine WJ.hd (v := .int .i64 (IntKind.i64.wrap (t5.tdiv 72))) 201 rfl rfl rfl rfl (fun ids H' fr => opD_bin rfl (evV_eq _ _ _ _ _ rfl) (evV_eq _ _ _ _ _ rfl) (bin_quo (by decide))) rfl ?_
  refine WJ.hd (v := .int .i64 ((IntKind.i64.wrap (t5.tdiv 72)).tmod 20)) 200 rfl rfl rfl rfl (fun ids H' fr => opD_bin rfl (evV_eq _ _ _ _ _ rfl) (evV_eq _ _ _ _ _ rfl) (bin_rem (by decide))) rfl ?_
  refine WJ.adv 6 rfl ?_
  obtain ⟨K3, hK3, hp⟩ : ∃ K, K = _ ∧ Option.bind _ K = some r := ⟨_, rfl, cutS hp⟩
  refine WJ.cut 2 (α := Int) (fun y => [(2, .p 0 0), (3, .p 1 0)]) (fun y => [[.int .i64 0, .int .i64 0, .int .i64 0, .int .i64 0], [.int .i64 (IntKind.i64.wrap (1 + (t5.tmod 3))), .int .i64 ((IntKind.i64.wrap (t5.tdiv 3)).tmod 6), .int .i64 y, .int .i64 ((IntKind.i64.wrap (t5.tdiv 72)).tmod 20)]]) (fun y => []) (fun y => B1) (fun y => K3 ((y)) = some r) ?_ (fun j3 => ?_)
  · rintro v1_2_3 hp
    subst hK3
    show WJ _ _ _ B1 [] _ _ ⟨[(2, .p 0 0), (3, .p 1 0)], [[.int .i64 0, .int .i64 0, .int .i64 0, .int .i64 0], [.int .i64 (IntKind.i64.wrap (1 + (t5.tmod 3))), .int .i64 ((IntKind.i64.wrap (t5.tdiv 3)).tmod 6), .int .i64 v1_2_3, .int .i64 ((IntKind.i64.wrap (t5.tdiv 72)).tmod 20)]], true, 0⟩
    obtain rfl := endS (show some _ = some r from hp)
    exact WJ.rt 205 rfl rfl rfl (fun ids H' fr => ⟨fr.ext0, rfl⟩)
  · refine WJ.ci 203 hp rfl rfl rfl rfl rfl rfl rfl rfl rfl (fun hc18 hp => ?_) (fun hc18 hp => ?_)
    · refine WJ.hd (v := .int .i64 (IntKind.i64.wrap (t5.tdiv 18))) 204 rfl rfl rfl rfl (fun ids H' fr => opD_bin rfl (evV_eq _ _ _ _ _ rfl) (evV_eq _ _ _ _ _ rfl) (bin_quo (by decide))) rfl ?_
      refine WJ.hd (v := .int .i64 ((IntKind.i64.wrap (t5.tdiv 18)).tmod 4)) 200 rfl rfl rfl rfl (fun ids H' fr => opD_bin rfl (evV_eq _ _ _ _ _ rfl) (evV_eq _ _ _ _ _ rfl) (bin_rem (by decide))) rfl ?_
      exact WJ.goto 4 (j3 (IntKind.i64.wrap (1 + ((IntKind.i64.wrap (t5.tdiv 18)).tmod 4))) hp) rfl rfl (by exact ⟨rfl, rfl, trivial⟩) rfl rfl rfl
    · exact WJ.goto 3 (j3 0 hp) rfl rfl (by exact ⟨rfl, rfl, trivial⟩) rfl rfl rfl
/-! 64 cmp.isNaN[int] -/
def f64 (x0 : Int) : Option Bool :=
  (some (x0 != x0)).bind fun t5 =>
  some t5
set_option maxRecDepth 20000 in
theorem f64_ok {H : Hp} {x0 : Int} {r : Bool} (hp : f64 x0 = some r) :
    SCall Tryd.prog 64 [.int .i64 x0] H (Ret fun v H' => Ext H H' ∧ R_4 r H.next H' v) := by
  unfold f64 at hp
  replace hp := topS hp
  refine SCall.g Tryd.func64 rfl rfl rfl rfl rfl (l := [(0, .v (.int .i64 x0))]) (fun _ => rfl) (fun B abB => ?_)
  obtain ⟨t5, e5, hp⟩ := bindS hp
  refine WJ.cv 208 (b := t5) (H0 := ⟨.nil, 0, 0⟩) rfl rfl rfl rfl rfl rfl (by rw [← endS e5]; exact rfl) rfl ?_
  obtain rfl := endS (show some _ = some r from hp)
  exact WJ.rt 202 rfl rfl rfl (fun ids H' fr => ⟨fr.ext0, rfl⟩)
/-! 53 cmp.Compare[int] -/
def f53 (x0 : Int) (x1 : Int) : Option Int :=
  (f64 x0).bind fun t8 =>
  (f64 x1).bind fun t10 =>
  if t8 then
    if t10 then
      some 0
    else
      some (-1)
  else
    if t10 then
      some 1
    else
      if x0 < x1 then
        some (-1)
      else
        if x0 > x1 then
          some 1
        else
          some 0
set_option maxRecDepth 20000 in
theorem f53_ok {H : Hp} {x0 : Int} {x1 : Int} {r : Int} (hp : f53 x0 x1 = some r) :
    SCall Tryd.prog 53 [.int .i64 x0, .int .i64 x1] H (Ret fun v H' => Ext H H' ∧ R_3 r H.next H' v) := by
  unfold f53 at hp
  replace hp := topS hp
  refine SCall.g Tryd.func53 rfl rfl rfl rfl rfl (l := [(0, .v (.int .i64 x0)), (1, .v (.int .i64 x1))]) (fun _ => rfl) (fun B abB => ?_)
  obtain ⟨t8, e8, hp⟩ := bindS hp
  refine WJ.cl 207 (R := R_4 t8) (fun hm h k => R_4.mono hm h k) rfl (fun ids H' fr => f64_ok e8) ?_
  rintro v B1 ⟨abB1, ivB1⟩ rfl
  refine ⟨_, rfl, ?_⟩
  obtain ⟨t10, e10, hp⟩ := bindS hp
  refine WJ.cl 205 (R := R_4 t10) (fun hm h k => R_4.mono hm h k) rfl (fun ids H' fr => f64_ok e10) ?_
  rintro v B2 ⟨abB2, ivB2⟩ rfl
  refine ⟨_, rfl, ?_⟩
  cases t8
  · replace hp := (itS hp).2 Bool.false_ne_true
    cases t10
    · replace hp := (itS hp).2 Bool.false_ne_true
      refine WJ.ci 221 hp rfl rfl rfl rfl rfl rfl rfl rfl rfl (fun hc16 hp => ?_) (fun hc16 hp => ?_)
      · obtain rfl := endS (show some _ = some r from hp)
        exact WJ.rt 206 rfl rfl rfl (fun ids H' fr => ⟨fr.ext0, rfl⟩)
      · refine WJ.ci 208 hp rfl rfl rfl rfl rfl rfl rfl rfl rfl (fun hc19 hp => ?_) (fun hc19 hp => ?_)
        · obtain rfl := endS (show some _ = some r from hp)
          exact WJ.rt 206 rfl rfl rfl (fun ids H' fr => ⟨fr.ext0, rfl⟩)
        · obtain rfl := endS (show some _ = some r from hp)
          exact WJ.rt 207 rfl rfl rfl (fun ids H' fr => ⟨fr.ext0, rfl⟩)
    · replace hp := (itS hp).1 rfl
      obtain rfl := endS (show some _ = some r from hp)
      exact WJ.rt 219 rfl rfl rfl (fun ids H' fr => ⟨fr.ext0, rfl⟩)
  · replace hp := (itS hp).1 rfl
    cases t10
    · replace hp := (itS hp).2 Bool.false_ne_true
      obtain rfl := endS (show some _ = some r from hp)
      exact WJ.rt 219 rfl rfl rfl (fun ids H' fr => ⟨fr.ext0, rfl⟩)
    · replace hp := (itS hp).1 rfl
      obtain rfl := endS (show some _ = some r from hp)
      exact WJ.rt 218 rfl rfl rfl (fun ids H' fr => ⟨fr.ext0, rfl⟩)
/-! 63 cmp.Or[int] -/
def f63_l1 (x0 : List Int) : Nat → Int → Option ((Unit) ⊕ (Int))
  | 0, _ => none
  | n + 1, x8 =>
    (some (decide (x8 < (x0.length : Int)))).bind fun t9 =>
    if t9 then
      (rd x0 x8).bind fun t10 =>
      if t10 = 0 then
        f63_l1 x0 n (IntKind.i64.wrap (x8 + 1))
      else
        some (Sum.inr (t10 : Int))
    else
      some (Sum.inl ())

def f63 (k : Nat) (x0 : List Int) : Option Int :=
  (f63_l1 x0 k 0).bind fun s => match s with
    | .inl _ => 
      some 0
    | .inr st => some st
set_option maxRecDepth 20000 in
theorem f63_ok {k : Nat} {H : Hp} {a_x0 : Option Addr} {c_x0 : Nat} {x0 : List Int} {r : Int} (g_x0 : SlF 0 H intC a_x0 c_x0 x0) (hp : f63 k x0 = some r) :
    SCall Tryd.prog 63 [.slice a_x0 x0.length c_x0] H (Ret fun v H' => Ext H H' ∧ R_3 r H.next H' v) := by
  unfold f63 at hp
  replace hp := topS hp
  refine SCall.g Tryd.func63 rfl rfl rfl rfl rfl (l := [(0, .v (.slice a_x0 x0.length c_x0))]) (fun _ => rfl) (fun B abB => ?_)
  refine WJ.adv 16 rfl ?_
  obtain ⟨K4, hK4, hp⟩ : ∃ K, K = _ ∧ Option.bind _ K = some r := ⟨_, rfl, cutS hp⟩
  refine WJ.cut 2 (α := Unit) (fun y => [(3, .v (.int .i64 0))]) (fun y => []) (fun y => []) (fun y => B) (fun y => K4 (Sum.inl ()) = some r) ?_ (fun j4 => ?_)
  · rintro u hp
    subst hK4
    show WJ _ _ _ B [] _ _ ⟨[(3, .v (.int .i64 0))], [], true, 0⟩
    obtain rfl := endS (show some _ = some r from hp)
    exact WJ.rt 205 rfl rfl rfl (fun ids H' fr => ⟨fr.ext0, rfl⟩)
  · refine WJ.lp 200 (α := Nat × Int) (fun y => [(3, .v (.int .i64 0)), (6, .v (.slice a_x0 x0.length c_x0)), (7, .v (.int .i64 ((x0.length : Nat) : Int))), (8, .v (.int .i64 y.2))]) (fun y => []) (fun y => []) (fun y => B) (fun y => y.1) (fun y => Option.bind (f63_l1 x0 y.1 y.2) K4 = some r) (k, 0) rfl hp (by exact ⟨rfl, rfl, rfl, rfl, trivial⟩) rfl rfl rfl ?_
    rintro ⟨n, x8⟩ hp ih4
    show WJ _ _ _ B [] _ _ ⟨[(3, .v (.int .i64 0)), (6, .v (.slice a_x0 x0.length c_x0)), (7, .v (.int .i64 ((x0.length : Nat) : Int))), (8, .v (.int .i64 x8))], [], true, 0⟩
    replace hp : Option.bind (f63_l1 x0 n x8) K4 = some r := hp
    cases n with
    | zero => rw [f63_l1] at hp; exact (noS hp).elim
    | succ n =>
      rw [f63_l1] at hp
      obtain ⟨t9, e9, hp⟩ := bindS hp
      refine WJ.cv 202 (b := t9) (H0 := ⟨.nil, 0, 0⟩) rfl rfl rfl rfl rfl rfl (by rw [← endS e9]; exact rfl) rfl ?_
      cases t9
      · replace hp := (itS hp).2 Bool.false_ne_true
        exact WJ.goto 4 (j4 () hp) rfl rfl (by exact ⟨rfl, trivial⟩) rfl rfl rfl
      · replace hp := (itS hp).1 rfl
        obtain ⟨t10, e10, hp⟩ := bindS hp
        obtain ⟨b10, o10, cs10, i10, rfl, p10⟩ := g_x0.at e10 u53 sz3
        refine WJ.hd (v := .pointer (some ⟨b10, o10, none⟩)) 208 rfl rfl rfl rfl (fun ids H' fr => opD_indexAddr rfl (evV_eq _ _ _ _ _ rfl) (evV_eq _ _ _ _ _ rfl) (i10 _)) rfl ?_
        refine WJ.hd (v := .int .i64 t10) 200 rfl rfl rfl rfl (fun ids H' fr => opD_load rfl (evV_eq _ _ _ _ _ rfl) ((p10.mono (Nat.zero_le _) fr.ext0.abv).load (d := 0) ag3 rfl)) rfl ?_
        refine WJ.cn 206 hp rfl rfl rfl rfl rfl rfl rfl rfl rfl (fun hc14 hp => ?_) (fun hc14 hp => ?_)
        · subst hK4
          obtain rfl := endS (show some _ = some r from hp)
          exact WJ.rt 207 rfl rfl rfl (fun ids H' fr => ⟨fr.ext0, rfl⟩)
        · exact WJ.ag 208 rfl (by exact ⟨rfl, rfl, rfl, rfl, trivial⟩) rfl rfl rfl (ih4 (n, IntKind.i64.wrap (x8 + 1)) hp (Nat.lt_succ_self _))
/-! 52 tipstaff/call.first -/
def f52 (k : Nat) (x0 : List Int) : Option Int :=
  (f63 k x0).bind fun t4 =>
  some t4
set_option maxRecDepth 20000 in
theorem f52_ok {k : Nat} {H : Hp} {a_x0 : Option Addr} {c_x0 : Nat} {x0 : List Int} {r : Int} (g_x0 : SlF 0 H intC a_x0 c_x0 x0) (hp : f52 k x0 = some r) :
    SCall Tryd.prog 52 [.slice a_x0 x0.length c_x0] H (Ret fun v H' => Ext H H' ∧ R_3 r H.next H' v) := by
  unfold f52 at hp
  replace hp := topS hp
  refine SCall.g Tryd.func52 rfl rfl rfl rfl rfl (l := [(0, .v (.slice a_x0 x0.length c_x0))]) (fun _ => rfl) (fun B abB => ?_)
  obtain ⟨t4, e4, hp⟩ := bindS hp
  refine WJ.cl 207 (R := R_3 t4) (fun hm h k => R_3.mono hm h k) rfl (fun ids H' fr => f63_ok (g_x0.mono (Nat.zero_le _) fr.ext0.abv) e4) ?_
  rintro v B1 ⟨abB1, ivB1⟩ rfl
  refine ⟨_, rfl, ?_⟩
  obtain rfl := endS (show some _ = some r from hp)
  exact WJ.rt 202 rfl rfl rfl (fun ids H' fr => ⟨fr.ext0, rfl⟩)
/-! 22 tipstaff/call.Compare -/
def f22 (k : Nat) (x0 : CallT) (x1 : CallT) : Option Int :=
  (f53 x0.At x1.At).bind fun t9 =>
  (f53 x0.Kind x1.Kind).bind fun t14 =>
  (f53 x0.Floor x1.Floor).bind fun t19 =>
  (f53 x0.Car x1.Car).bind fun t24 =>
  (f52 k ([t9, t14, t19, t24])).bind fun t26 =>
  some t26
set_option maxRecDepth 20000 in
theorem f22_ok {k : Nat} {H : Hp} {x0 : CallT} {x1 : CallT} {r : Int} (hp : f22 k x0 x1 = some r) :
    SCall Tryd.prog 22 [.agg ⟨[.int .i64 x0.Kind, .int .i64 x0.Floor, .int .i64 x0.Car, .int .i64 x0.At]⟩, .agg ⟨[.int .i64 x1.Kind, .int .i64 x1.Floor, .int .i64 x1.Car, .int .i64 x1.At]⟩] H (Ret fun v H' => Ext H H' ∧ R_3 r H.next H' v) := by
  obtain ⟨x0_Kind, x0_Floor, x0_Car, x0_At⟩ := x0
  obtain ⟨x1_Kind, x1_Floor, x1_Car, x1_At⟩ := x1
  unfold f22 at hp
  replace hp := topS hp
  refine SCall.g Tryd.func22 rfl rfl rfl rfl rfl (l := [(0, .v (.agg ⟨[.int .i64 x0_Kind, .int .i64 x0_Floor, .int .i64 x0_Car, .int .i64 x0_At]⟩)), (1, .v (.agg ⟨[.int .i64 x1_Kind, .int .i64 x1_Floor, .int .i64 x1_Car, .int .i64 x1_At]⟩))]) (fun _ => rfl) (fun B abB => ?_)
  refine WJ.drF 207 rfl gmix (by kernel_rfl) (by kernel_rfl) rfl (fun D1 eD1 abD1 => ?_)
  obtain ⟨t9, e9, hp⟩ := bindS hp
  refine WD.cl (R := R_3 t9) (fun hm h k => R_3.mono hm h k) rfl (fun ids H' fr => f53_ok e9) ?_
  rintro v B2 ⟨abB2, ivB2⟩ rfl
  refine ⟨_, rfl, ?_⟩
  obtain ⟨t14, e14, hp⟩ := bindS hp
  refine WD.cl (R := R_3 t14) (fun hm h k => R_3.mono hm h k) rfl (fun ids H' fr => f53_ok e14) ?_
  rintro v B3 ⟨abB3, ivB3⟩ rfl
  refine ⟨_, rfl, ?_⟩
  obtain ⟨t19, e19, hp⟩ := bindS hp
  refine WD.cl (R := R_3 t19) (fun hm h k => R_3.mono hm h k) rfl (fun ids H' fr => f53_ok e19) ?_
  rintro v B4 ⟨abB4, ivB4⟩ rfl
  refine ⟨_, rfl, ?_⟩
  obtain ⟨t24, e24, hp⟩ := bindS hp
  refine WD.cl (R := R_3 t24) (fun hm h k => R_3.mono hm h k) rfl (fun ids H' fr => f53_ok e24) ?_
  rintro v B5 ⟨abB5, ivB5⟩ rfl
  refine ⟨_, rfl, ?_⟩
  refine WD.bs (cs := encL iE [t9, t14, t19, t24]) (sz := 1) (pl := [(0, .int .i64 t9), (1, .int .i64 t14), (2, .int .i64 t19), (3, .int .i64 t24)]) rfl rfl rfl rfl rfl (fun _ _ => rfl) (fun _ => by rfl) rfl rfl ?_
  intro b25
  refine ⟨_, rfl, ?_⟩
  obtain ⟨t26, e26, hp⟩ := bindS hp
  refine WD.cl (R := R_3 t26) (fun hm h k => R_3.mono hm h k) rfl (fun ids H' fr => f52_ok (fr.slOwn (j := 0) rfl rfl (Nat.zero_le _)) e26) ?_
  rintro v B6 ⟨abB6, ivB6⟩ rfl
  refine ⟨_, rfl, ?_⟩
  refine WD.done rfl ?_
  obtain rfl := endS (show some _ = some r from hp)
  exact WJ.rt 200 rfl rfl rfl (fun ids H' fr => ⟨fr.ext0, rfl⟩)
/-! 47 tipstaff/call.of -/
def f47 (x0 : CallT) : Option Key :=
  some (Key.mk x0.Kind x0.Floor x0.Car)
set_option maxRecDepth 20000 in
theorem f47_ok {H : Hp} {x0 : CallT} {r : Key} (hp : f47 x0 = some r) :
    SCall Tryd.prog 47 [.agg ⟨[.int .i64 x0.Kind, .int .i64 x0.Floor, .int .i64 x0.Car, .int .i64 x0.At]⟩] H (Ret fun v H' => Ext H H' ∧ R_66 r H.next H' v) := by
  obtain ⟨x0_Kind, x0_Floor, x0_Car, x0_At⟩ := x0
  unfold f47 at hp
  replace hp := topS hp
  refine SCall.g Tryd.func47 rfl rfl rfl rfl rfl (l := [(0, .v (.agg ⟨[.int .i64 x0_Kind, .int .i64 x0_Floor, .int .i64 x0_Car, .int .i64 x0_At]⟩))]) (fun _ => rfl) (fun B abB => ?_)
  obtain rfl := endS (show some _ = some r from hp)
  exact WJ.rt 216 rfl rfl rfl (fun ids H' fr => ⟨fr.ext0, rfl⟩)
/-! 32 tipstaff/call.Same -/
def f32 (x0 : CallT) (x1 : CallT) : Option Bool :=
  (f47 (CallT.mk x0.Kind x0.Floor x0.Car x0.At)).bind fun t6 =>
  (f47 (CallT.mk x1.Kind x1.Floor x1.Car x1.At)).bind fun t8 =>
  (some (decide (t6 = t8))).bind fun t9 =>
  some t9
set_option maxRecDepth 20000 in
theorem f32_ok {H : Hp} {x0 : CallT} {x1 : CallT} {r : Bool} (hp : f32 x0 x1 = some r) :
    SCall Tryd.prog 32 [.agg ⟨[.int .i64 x0.Kind, .int .i64 x0.Floor, .int .i64 x0.Car, .int .i64 x0.At]⟩, .agg ⟨[.int .i64 x1.Kind, .int .i64 x1.Floor, .int .i64 x1.Car, .int .i64 x1.At]⟩] H (Ret fun v H' => Ext H H' ∧ R_4 r H.next H' v) := by
  obtain ⟨x0_Kind, x0_Floor, x0_Car, x0_At⟩ := x0
  obtain ⟨x1_Kind, x1_Floor, x1_Car, x1_At⟩ := x1
  unfold f32 at hp
  replace hp := topS hp
  refine SCall.g Tryd.func32 rfl rfl rfl rfl rfl (l := [(0, .v (.agg ⟨[.int .i64 x0_Kind, .int .i64 x0_Floor, .int .i64 x0_Car, .int .i64 x0_At]⟩)), (1, .v (.agg ⟨[.int .i64 x1_Kind, .int .i64 x1_Floor, .int .i64 x1_Car, .int .i64 x1_At]⟩))]) (fun _ => rfl) (fun B abB => ?_)
  refine WJ.drF 207 rfl gmix (by kernel_rfl) (by kernel_rfl) rfl (fun D1 eD1 abD1 => ?_)
  obtain ⟨⟨t6_kind, t6_floor, t6_car⟩, e6, hp⟩ := bindS hp
  refine WD.cl (R := R_66 ⟨t6_kind, t6_floor, t6_car⟩) (fun hm h k => R_66.mono hm h k) rfl (fun ids H' fr => f47_ok (x0 := (CallT.mk x0_Kind x0_Floor x0_Car x0_At)) e6) ?_
  rintro v B2 ⟨abB2, ivB2⟩ rfl
  refine ⟨_, rfl, ?_⟩
  obtain ⟨⟨t8_kind, t8_floor, t8_car⟩, e8, hp⟩ := bindS hp
  refine WD.cl (R := R_66 ⟨t8_kind, t8_floor, t8_car⟩) (fun hm h k => R_66.mono hm h k) rfl (fun ids H' fr => f47_ok (x0 := (CallT.mk x1_Kind x1_Floor x1_Car x1_At)) e8) ?_
  rintro v B3 ⟨abB3, ivB3⟩ rfl
  refine ⟨_, rfl, ?_⟩
  obtain ⟨t9, e9, hp⟩ := bindS hp
  refine WD.cv (b := t9) (H0 := ⟨.nil, 0, 0⟩) rfl rfl rfl rfl rfl rfl (by rw [← endS e9]; exact (opD_eqS rfl rfl rfl rfl gd66 (eq66 t6_kind t6_floor t6_car t8_kind t8_floor t8_car))) rfl ?_
  refine WD.done rfl ?_
  obtain rfl := endS (show some _ = some r from hp)
  exact WJ.rt 200 rfl rfl rfl (fun ids H' fr => ⟨fr.ext0, rfl⟩)
/-! 8 tipstaff/tipstafflaw20.CallOrder -/
def f8 (k : Nat) (x0 : Int) (x1 : Int) (x2 : Int) : Option Bool :=
  (f5).bind fun t14 =>
  (f28 x0).bind fun t16 =>
  (f28 x1).bind fun t18 =>
  (f28 x2).bind fun t20 =>
  (f22 k (CallT.mk t16.Kind t16.Floor t16.Car t16.At) (CallT.mk t18.Kind t18.Floor t18.Car t18.At)).bind fun t23 =>
  (f22 k (CallT.mk t18.Kind t18.Floor t18.Car t18.At) (CallT.mk t20.Kind t20.Floor t20.Car t20.At)).bind fun t26 =>
  (f22 k (CallT.mk t16.Kind t16.Floor t16.Car t16.At) (CallT.mk t20.Kind t20.Floor t20.Car t20.At)).bind fun t29 =>
  if t14 then
    (f22 k (CallT.mk t18.Kind t18.Floor t18.Car t18.At) (CallT.mk t16.Kind t16.Floor t16.Car t16.At)).bind fun t34 =>
    if t34 = (IntKind.i64.wrap (0 - t23)) then
      (some (t23 == 0)).bind fun t41 =>
      (some (decide ((CallT.mk t16.Kind t16.Floor t16.Car t16.At) = (CallT.mk t18.Kind t18.Floor t18.Car t18.At)))).bind fun t44 =>
      (some (t41 == t44)).bind fun t45 =>
      if t45 then
        if t23 = 0 then
          (f32 (CallT.mk t16.Kind t16.Floor t16.Car t16.At) (CallT.mk t18.Kind t18.Floor t18.Car t18.At)).bind fun t53 =>
          if t53 then
            if t23 > 0 then
              if t23 ≥ 0 then
                some true
              else
                if t26 > 0 then
                  some true
                else
                  (some (decide (t29 < 0))).bind fun t77 =>
                  some t77
            else
              if t26 > 0 then
                if t23 ≥ 0 then
                  some true
                else
                  if t26 > 0 then
                    some true
                  else
                    (some (decide (t29 < 0))).bind fun t77 =>
                    some t77
              else
                if t29 ≤ 0 then
                  if t23 ≥ 0 then
                    some true
                  else
                    if t26 > 0 then
                      some true
                    else
                      (some (decide (t29 < 0))).bind fun t77 =>
                      some t77
                else
                  some false
          else
            some false
        else
          if t23 > 0 then
            if t23 ≥ 0 then
              some true
            else
              if t26 > 0 then
                some true
              else
                (some (decide (t29 < 0))).bind fun t77 =>
                some t77
          else
            if t26 > 0 then
              if t23 ≥ 0 then
                some true
              else
                if t26 > 0 then
                  some true
                else
                  (some (decide (t29 < 0))).bind fun t77 =>
                  some t77
            else
              if t29 ≤ 0 then
                if t23 ≥ 0 then
                  some true
                else
                  if t26 > 0 then
                    some true
                  else
                    (some (decide (t29 < 0))).bind fun t77 =>
                    some t77
              else
                some false
      else
        some false
    else
      some false
  else
    some false
set_option maxRecDepth 20000 in
theorem f8_ok {k : Nat} {H : Hp} {x0 : Int} {x1 : Int} {x2 : Int} {r : Bool} (hp : f8 k x0 x1 x2 = some r) :
    SCall Tryd.prog 8 [.int .i64 x0, .int .i64 x1, .int .i64 x2] H (Ret fun v H' => Ext H H' ∧ R_4 r H.next H' v) := by
  unfold f8 at hp
  replace hp := topS hp
  refine SCall.g Tryd.func8 rfl rfl rfl rfl rfl (l := [(0, .v (.int .i64 x0)), (1, .v (.int .i64 x1)), (2, .v (.int .i64 x2))]) (fun _ => rfl) (fun B abB => ?_)
  obtain ⟨t14, e14, hp⟩ := bindS hp
  refine WJ.cl 206 (R := R_4 t14) (fun hm h k => R_4.mono hm h k) rfl (fun ids H' fr => f5_ok e14) ?_
  rintro v B1 ⟨abB1, ivB1⟩ rfl
  refine ⟨_, rfl, ?_⟩
  obtain ⟨⟨t16_Kind, t16_Floor, t16_Car, t16_At⟩, e16, hp⟩ := bindS hp
  refine WJ.cl 205 (R := R_31 ⟨t16_Kind, t16_Floor, t16_Car, t16_At⟩) (fun hm h k => R_31.mono hm h k) rfl (fun ids H' fr => f28_ok e16) ?_
  rintro v B2 ⟨abB2, ivB2⟩ rfl
  refine ⟨_, rfl, ?_⟩
  obtain ⟨⟨t18_Kind, t18_Floor, t18_Car, t18_At⟩, e18, hp⟩ := bindS hp
  refine WJ.cl 201 (R := R_31 ⟨t18_Kind, t18_Floor, t18_Car, t18_At⟩) (fun hm h k => R_31.mono hm h k) rfl (fun ids H' fr => f28_ok e18) ?_
  rintro v B3 ⟨abB3, ivB3⟩ rfl
  refine ⟨_, rfl, ?_⟩
  obtain ⟨⟨t20_Kind, t20_Floor, t20_Car, t20_At⟩, e20, hp⟩ := bindS hp
  refine WJ.cl 201 (R := R_31 ⟨t20_Kind, t20_Floor, t20_Car, t20_At⟩) (fun hm h k => R_31.mono hm h k) rfl (fun ids H' fr => f28_ok e20) ?_
  rintro v B4 ⟨abB4, ivB4⟩ rfl
  refine ⟨_, rfl, ?_⟩
  refine WJ.drF 208 rfl gmix (by kernel_rfl) (by kernel_rfl) rfl (fun D5 eD5 abD5 => ?_)
  obtain ⟨t23, e23, hp⟩ := bindS hp
  refine WD.cl (R := R_3 t23) (fun hm h k => R_3.mono hm h k) rfl (fun ids H' fr => f22_ok (x0 := (CallT.mk t16_Kind t16_Floor t16_Car t16_At)) (x1 := (CallT.mk t18_Kind t18_Floor t18_Car t18_At)) e23) ?_
  rintro v B6 ⟨abB6, ivB6⟩ rfl
  refine ⟨_, rfl, ?_⟩
  obtain ⟨t26, e26, hp⟩ := bindS hp
  refine WD.cl (R := R_3 t26) (fun hm h k => R_3.mono hm h k) rfl (fun ids H' fr => f22_ok (x0 := (CallT.mk t18_Kind t18_Floor t18_Car t18_At)) (x1 := (CallT.mk t20_Kind t20_Floor t20_Car t20_At)) e26) ?_
  rintro v B7 ⟨abB7, ivB7⟩ rfl
  refine ⟨_, rfl, ?_⟩
  obtain ⟨t29, e29, hp⟩ := bindS hp
  refine WD.cl (R := R_3 t29) (fun hm h k => R_3.mono hm h k) rfl (fun ids H' fr => f22_ok (x0 := (CallT.mk t16_Kind t16_Floor t16_Car t16_At)) (x1 := (CallT.mk t20_Kind t20_Floor t20_Car t20_At)) e29) ?_
  rintro v B8 ⟨abB8, ivB8⟩ rfl
  refine ⟨_, rfl, ?_⟩
  refine WD.done rfl ?_
  cases t14
  · replace hp := (itS hp).2 Bool.false_ne_true
    obtain rfl := endS (show some _ = some r from hp)
    exact WJ.rt 254 rfl rfl rfl (fun ids H' fr => ⟨fr.ext0, rfl⟩)
  · replace hp := (itS hp).1 rfl
    obtain ⟨t34, e34, hp⟩ := bindS hp
    refine WJ.cl 206 (R := R_3 t34) (fun hm h k => R_3.mono hm h k) rfl (fun ids H' fr => f22_ok (x0 := (CallT.mk t18_Kind t18_Floor t18_Car t18_At)) (x1 := (CallT.mk t16_Kind t16_Floor t16_Car t16_At)) e34) ?_
    rintro v B9 ⟨abB9, ivB9⟩ rfl
    refine ⟨_, rfl, ?_⟩
    refine WJ.ci 202 hp rfl rfl rfl rfl rfl rfl rfl rfl rfl (fun hc37 hp => ?_) (fun hc37 hp => ?_)
    · obtain ⟨t41, e41, hp⟩ := bindS hp
      refine WJ.cv 203 (b := t41) (H0 := ⟨.nil, 0, 0⟩) rfl rfl rfl rfl rfl rfl (by rw [← endS e41]; exact rfl) rfl ?_
      obtain ⟨t44, e44, hp⟩ := bindS hp
      refine WJ.cv 202 (b := t44) (H0 := ⟨.nil, 0, 0⟩) rfl rfl rfl rfl rfl rfl (by rw [← endS e44]; exact (opD_eqS rfl rfl rfl rfl gd31 (eq31 t16_Kind t16_Floor t16_Car t16_At t18_Kind t18_Floor t18_Car t18_At))) rfl ?_
      obtain ⟨t45, e45, hp⟩ := bindS hp
      refine WJ.cv 200 (b := t45) (H0 := ⟨.nil, 0, 0⟩) rfl rfl rfl rfl rfl rfl (by rw [← endS e45]; exact rfl) rfl ?_
      cases t45
      · replace hp := (itS hp).2 Bool.false_ne_true
        obtain rfl := endS (show some _ = some r from hp)
        exact WJ.rt 236 rfl rfl rfl (fun ids H' fr => ⟨fr.ext0, rfl⟩)
      · replace hp := (itS hp).1 rfl
        refine WJ.cn 203 hp rfl rfl rfl rfl rfl rfl rfl rfl rfl (fun hc49 hp => ?_) (fun hc49 hp => ?_)
        · refine WJ.ci 208 hp rfl rfl rfl rfl rfl rfl rfl rfl rfl (fun hc58 hp => ?_) (fun hc58 hp => ?_)
          · refine WJ.ci 211 hp rfl rfl rfl rfl rfl rfl rfl rfl rfl (fun hc70 hp => ?_) (fun hc70 hp => ?_)
            · obtain rfl := endS (show some _ = some r from hp)
              exact WJ.rt 211 rfl rfl rfl (fun ids H' fr => ⟨fr.ext0, rfl⟩)
            · refine WJ.ci 202 hp rfl rfl rfl rfl rfl rfl rfl rfl rfl (fun hc73 hp => ?_) (fun hc73 hp => ?_)
              · obtain rfl := endS (show some _ = some r from hp)
                exact WJ.rt 208 rfl rfl rfl (fun ids H' fr => ⟨fr.ext0, rfl⟩)
              · obtain ⟨t77, e77, hp⟩ := bindS hp
                refine WJ.cv 203 (b := t77) (H0 := ⟨.nil, 0, 0⟩) rfl rfl rfl rfl rfl rfl (by rw [← endS e77]; exact rfl) rfl ?_
                obtain rfl := endS (show some _ = some r from hp)
                exact WJ.rt 204 rfl rfl rfl (fun ids H' fr => ⟨fr.ext0, rfl⟩)
          · refine WJ.ci 202 hp rfl rfl rfl rfl rfl rfl rfl rfl rfl (fun hc61 hp => ?_) (fun hc61 hp => ?_)
            · refine WJ.ci 208 hp rfl rfl rfl rfl rfl rfl rfl rfl rfl (fun hc70 hp => ?_) (fun hc70 hp => ?_)
              · obtain rfl := endS (show some _ = some r from hp)
                exact WJ.rt 211 rfl rfl rfl (fun ids H' fr => ⟨fr.ext0, rfl⟩)
              · refine WJ.ci 202 hp rfl rfl rfl rfl rfl rfl rfl rfl rfl (fun hc73 hp => ?_) (fun hc73 hp => ?_)
                · obtain rfl := endS (show some _ = some r from hp)
                  exact WJ.rt 208 rfl rfl rfl (fun ids H' fr => ⟨fr.ext0, rfl⟩)
                · obtain ⟨t77, e77, hp⟩ := bindS hp
                  refine WJ.cv 203 (b := t77) (H0 := ⟨.nil, 0, 0⟩) rfl rfl rfl rfl rfl rfl (by rw [← endS e77]; exact rfl) rfl ?_
                  obtain rfl := endS (show some _ = some r from hp)
                  exact WJ.rt 204 rfl rfl rfl (fun ids H' fr => ⟨fr.ext0, rfl⟩)
            · refine WJ.ci 203 hp rfl rfl rfl rfl rfl rfl rfl rfl rfl (fun hc65 hp => ?_) (fun hc65 hp => ?_)
              · refine WJ.ci 204 hp rfl rfl rfl rfl rfl rfl rfl rfl rfl (fun hc70 hp => ?_) (fun hc70 hp => ?_)
                · obtain rfl := endS (show some _ = some r from hp)
                  exact WJ.rt 211 rfl rfl rfl (fun ids H' fr => ⟨fr.ext0, rfl⟩)
                · refine WJ.ci 202 hp rfl rfl rfl rfl rfl rfl rfl rfl rfl (fun hc73 hp => ?_) (fun hc73 hp => ?_)
                  · obtain rfl := endS (show some _ = some r from hp)
                    exact WJ.rt 208 rfl rfl rfl (fun ids H' fr => ⟨fr.ext0, rfl⟩)
                  · obtain ⟨t77, e77, hp⟩ := bindS hp
                    refine WJ.cv 203 (b := t77) (H0 := ⟨.nil, 0, 0⟩) rfl rfl rfl rfl rfl rfl (by rw [← endS e77]; exact rfl) rfl ?_
                    obtain rfl := endS (show some _ = some r from hp)
                    exact WJ.rt 204 rfl rfl rfl (fun ids H' fr => ⟨fr.ext0, rfl⟩)
              · obtain rfl := endS (show some _ = some r from hp)
                exact WJ.rt 216 rfl rfl rfl (fun ids H' fr => ⟨fr.ext0, rfl⟩)
        · obtain ⟨t53, e53, hp⟩ := bindS hp
          refine WJ.cl 203 (R := R_4 t53) (fun hm h k => R_4.mono hm h k) rfl (fun ids H' fr => f32_ok (x0 := (CallT.mk t16_Kind t16_Floor t16_Car t16_At)) (x1 := (CallT.mk t18_Kind t18_Floor t18_Car t18_At)) e53) ?_
          rintro v B10 ⟨abB10, ivB10⟩ rfl
          refine ⟨_, rfl, ?_⟩
          cases t53
          · replace hp := (itS hp).2 Bool.false_ne_true
            obtain rfl := endS (show some _ = some r from hp)
            exact WJ.rt 228 rfl rfl rfl (fun ids H' fr => ⟨fr.ext0, rfl⟩)
          · replace hp := (itS hp).1 rfl
            refine WJ.ci 204 hp rfl rfl rfl rfl rfl rfl rfl rfl rfl (fun hc58 hp => ?_) (fun hc58 hp => ?_)
            · refine WJ.ci 211 hp rfl rfl rfl rfl rfl rfl rfl rfl rfl (fun hc70 hp => ?_) (fun hc70 hp => ?_)
              · obtain rfl := endS (show some _ = some r from hp)
                exact WJ.rt 211 rfl rfl rfl (fun ids H' fr => ⟨fr.ext0, rfl⟩)
              · refine WJ.ci 202 hp rfl rfl rfl rfl rfl rfl rfl rfl rfl (fun hc73 hp => ?_) (fun hc73 hp => ?_)
                · obtain rfl := endS (show some _ = some r from hp)
                  exact WJ.rt 208 rfl rfl rfl (fun ids H' fr => ⟨fr.ext0, rfl⟩)
                · obtain ⟨t77, e77, hp⟩ := bindS hp
                  refine WJ.cv 203 (b := t77) (H0 := ⟨.nil, 0, 0⟩) rfl rfl rfl rfl rfl rfl (by rw [← endS e77]; exact rfl) rfl ?_
                  obtain rfl := endS (show some _ = some r from hp)
                  exact WJ.rt 204 rfl rfl rfl (fun ids H' fr => ⟨fr.ext0, rfl⟩)
            · refine WJ.ci 202 hp rfl rfl rfl rfl rfl rfl rfl rfl rfl (fun hc61 hp => ?_) (fun hc61 hp => ?_)
              · refine WJ.ci 208 hp rfl rfl rfl rfl rfl rfl rfl rfl rfl (fun hc70 hp => ?_) (fun hc70 hp => ?_)
                · obtain rfl := endS (show some _ = some r from hp)
                  exact WJ.rt 211 rfl rfl rfl (fun ids H' fr => ⟨fr.ext0, rfl⟩)
                · refine WJ.ci 202 hp rfl rfl rfl rfl rfl rfl rfl rfl rfl (fun hc73 hp => ?_) (fun hc73 hp => ?_)
                  · obtain rfl := endS (show some _ = some r from hp)
                    exact WJ.rt 208 rfl rfl rfl (fun ids H' fr => ⟨fr.ext0, rfl⟩)
                  · obtain ⟨t77, e77, hp⟩ := bindS hp
                    refine WJ.cv 203 (b := t77) (H0 := ⟨.nil, 0, 0⟩) rfl rfl rfl rfl rfl rfl (by rw [← endS e77]; exact rfl) rfl ?_
                    obtain rfl := endS (show some _ = some r from hp)
                    exact WJ.rt 204 rfl rfl rfl (fun ids H' fr => ⟨fr.ext0, rfl⟩)
              · refine WJ.ci 203 hp rfl rfl rfl rfl rfl rfl rfl rfl rfl (fun hc65 hp => ?_) (fun hc65 hp => ?_)
                · refine WJ.ci 204 hp rfl rfl rfl rfl rfl rfl rfl rfl rfl (fun hc70 hp => ?_) (fun hc70 hp => ?_)
                  · obtain rfl := endS (show some _ = some r from hp)
                    exact WJ.rt 211 rfl rfl rfl (fun ids H' fr => ⟨fr.ext0, rfl⟩)
                  · refine WJ.ci 202 hp rfl rfl rfl rfl rfl rfl rfl rfl rfl (fun hc73 hp => ?_) (fun hc73 hp => ?_)
                    · obtain rfl := endS (show some _ = some r from hp)
                      exact WJ.rt 208 rfl rfl rfl (fun ids H' fr => ⟨fr.ext0, rfl⟩)
                    · obtain ⟨t77, e77, hp⟩ := bindS hp
                      refine WJ.cv 203 (b := t77) (H0 := ⟨.nil, 0, 0⟩) rfl rfl rfl rfl rfl rfl (by rw [← endS e77]; exact rfl) rfl ?_
                      obtain rfl := endS (show some _ = some r from hp)
                      exact WJ.rt 204 rfl rfl rfl (fun ids H' fr => ⟨fr.ext0, rfl⟩)
                · obtain rfl := endS (show some _ = some r from hp)
                  exact WJ.rt 216 rfl rfl rfl (fun ids H' fr => ⟨fr.ext0, rfl⟩)
    · obtain rfl := endS (show some _ = some r from hp)
      exact WJ.rt 244 rfl rfl rfl (fun ids H' fr => ⟨fr.ext0, rfl⟩)
/-! 27 tipstaff/call.Check -/
def f27 (x0 : CallT) : Option Int :=
  (some (x0.Kind == 3)).bind fun t6 =>
  if x0.Kind < 1 then
    some 11
  else
    if x0.Kind > 3 then
      some 11
    else
      if x0.Floor < 0 then
        some 2
      else
        if x0.Floor ≥ 64 then
          some 2
        else
          if x0.At < 0 then
            some 2
          else
            if x0.At > 1099511627776 then
              some 2
            else
              (if t6 then
                if x0.Car < 1 then
                  some (Sum.inl (2 : Int))
                else
                  if x0.Car > 8 then
                    some (Sum.inl (2 : Int))
                  else
                    some (Sum.inr ())
              else
                if x0.Car = 0 then
                  some (Sum.inr ())
                else
                  some (Sum.inl (2 : Int))).bind fun s => match s with
                | .inl st => some st
                | .inr _ => 
                  some 0
set_option maxRecDepth 20000 in
theorem f27_ok {H : Hp} {x0 : CallT} {r : Int} (hp : f27 x0 = some r) :
    SCall Tryd.prog 27 [.agg ⟨[.int .i64 x0.Kind, .int .i64 x0.Floor, .int .i64 x0.Car, .int .i64 x0.At]⟩] H (Ret fun v H' => Ext H H' ∧ R_25 r H.next H' v) := by
  obtain ⟨x0_Kind, x0_Floor, x0_Car, x0_At⟩ := x0
  unfold f27 at hp
  replace hp := topS hp
  refine SCall.g Tryd.func27 rfl rfl rfl rfl rfl (l := [(0, .v (.agg ⟨[.int .i64 x0_Kind, .int .i64 x0_Floor, .int .i64 x0_Car, .int .i64 x0_At]⟩))]) (fun _ => rfl) (fun B abB => ?_)
  obtain ⟨t6, e6, hp⟩ := bindS hp
  refine WJ.cv 209 (b := t6) (H0 := ⟨.nil, 0, 0⟩) rfl rfl rfl rfl rfl rfl (by rw [← endS e6]; exact rfl) rfl ?_
  refine WJ.ci 208 hp rfl rfl rfl rfl rfl rfl rfl rfl rfl (fun hc10 hp => ?_) (fun hc10 hp => ?_)
  · obtain rfl := endS (show some _ = some r from hp)
    exact WJ.rt 212 rfl rfl rfl (fun ids H' fr => ⟨fr.ext0, rfl⟩)
  · refine WJ.ci 203 hp rfl rfl rfl rfl rfl rfl rfl rfl rfl (fun hc14 hp => ?_) (fun hc14 hp => ?_)
    · obtain rfl := endS (show some _ = some r from hp)
      exact WJ.rt 208 rfl rfl rfl (fun ids H' fr => ⟨fr.ext0, rfl⟩)
    · refine WJ.ci 208 hp rfl rfl rfl rfl rfl rfl rfl rfl rfl (fun hc19 hp => ?_) (fun hc19 hp => ?_)
      · obtain rfl := endS (show some _ = some r from hp)
        exact WJ.rt 222 rfl rfl rfl (fun ids H' fr => ⟨fr.ext0, rfl⟩)
      · refine WJ.ci 203 hp rfl rfl rfl rfl rfl rfl rfl rfl rfl (fun hc23 hp => ?_) (fun hc23 hp => ?_)
        · obtain rfl := endS (show some _ = some r from hp)
          exact WJ.rt 218 rfl rfl rfl (fun ids H' fr => ⟨fr.ext0, rfl⟩)
        · refine WJ.ci 204 hp rfl rfl rfl rfl rfl rfl rfl rfl rfl (fun hc28 hp => ?_) (fun hc28 hp => ?_)
          · obtain rfl := endS (show some _ = some r from hp)
            exact WJ.rt 213 rfl rfl rfl (fun ids H' fr => ⟨fr.ext0, rfl⟩)
          · refine WJ.ci 204 hp rfl rfl rfl rfl rfl rfl rfl rfl rfl (fun hc33 hp => ?_) (fun hc33 hp => ?_)
            · obtain rfl := endS (show some _ = some r from hp)
              exact WJ.rt 208 rfl rfl rfl (fun ids H' fr => ⟨fr.ext0, rfl⟩)
            · refine WJ.adv 5 rfl ?_
              obtain ⟨K5, hK5, hp⟩ : ∃ K, K = _ ∧ Option.bind _ K = some r := ⟨_, rfl, cutS hp⟩
              refine WJ.cut 3 (α := Unit) (fun y => []) (fun y => [[.int .i64 x0_Kind, .int .i64 x0_Floor, .int .i64 x0_Car, .int .i64 x0_At]]) (fun y => []) (fun y => B) (fun y => K5 ((Sum.inr ())) = some r) ?_ (fun j5 => ?_)
              · rintro u hp
                subst hK5
                show WJ _ _ _ B [] _ _ ⟨[], [[.int .i64 x0_Kind, .int .i64 x0_Floor, .int .i64 x0_Car, .int .i64 x0_At]], true, 0⟩
                obtain rfl := endS (show some _ = some r from hp)
                exact WJ.rt 204 rfl rfl rfl (fun ids H' fr => ⟨fr.ext0, rfl⟩)
              · cases t6
                · replace hp := (itS hp).2 Bool.false_ne_true
                  refine WJ.cn 206 hp rfl rfl rfl rfl rfl rfl rfl rfl rfl (fun hc41 hp => ?_) (fun hc41 hp => ?_)
                  · subst hK5
                    obtain rfl := endS (show some _ = some r from hp)
                    exact WJ.rt 221 rfl rfl rfl (fun ids H' fr => ⟨fr.ext0, rfl⟩)
                  · exact WJ.goto 19 (j5 () hp) rfl rfl (by exact trivial) rfl rfl rfl
                · replace hp := (itS hp).1 rfl
                  refine WJ.ci 213 hp rfl rfl rfl rfl rfl rfl rfl rfl rfl (fun hc48 hp => ?_) (fun hc48 hp => ?_)
                  · subst hK5
                    obtain rfl := endS (show some _ = some r from hp)
                    exact WJ.rt 214 rfl rfl rfl (fun ids H' fr => ⟨fr.ext0, rfl⟩)
                  · refine WJ.ci 203 hp rfl rfl rfl rfl rfl rfl rfl rfl rfl (fun hc52 hp => ?_) (fun hc52 hp => ?_)
                    · subst hK5
                      obtain rfl := endS (show some _ = some r from hp)
                      exact WJ.rt 210 rfl rfl rfl (fun ids H' fr => ⟨fr.ext0, rfl⟩)
                    · exact WJ.goto 8 (j5 () hp) rfl rfl (by exact trivial) rfl rfl rfl
/-! 29 tipstaff/call.Text -/
def f29 (x0 : CallT) : Option ((List UInt8) × Int) :=
  (f27 (CallT.mk x0.Kind x0.Floor x0.Car x0.At)).bind fun t7 =>
  if t7 = 0 then
    (f50 x0.Floor).bind fun t13 =>
    (scat t13 ([64])).bind fun s14 =>
    (f50 x0.At).bind fun t17 =>
    (scat s14 t17).bind fun s18 =>
    if x0.Kind = 3 then
      (f50 x0.Car).bind fun t24 =>
      (scat ([99]) t24).bind fun s25 =>
      (scat s25 ([58])).bind fun s26 =>
      (scat s26 s18).bind fun s28 =>
      some (s28, 0)
    else
      (sub ([117, 100]) (IntKind.i64.wrap (x0.Kind - 1)) x0.Kind).bind fun s34 =>
      (scat s34 s18).bind fun s36 =>
      some (s36, 0)
  else
    some (([] : List UInt8), t7)
set_option maxRecDepth 20000 in
theorem f29_ok {H : Hp} {x0 : CallT} {r : (List UInt8) × Int} (hp : f29 x0 = some r) :
    SCall Tryd.prog 29 [.agg ⟨[.int .i64 x0.Kind, .int .i64 x0.Floor, .int .i64 x0.Car, .int .i64 x0.At]⟩] H (Ret fun v H' => Ext H H' ∧ R_9_25 r H.next H' v) := by
  obtain ⟨x0_Kind, x0_Floor, x0_Car, x0_At⟩ := x0
  unfold f29 at hp
  replace hp := topS hp
  refine SCall.g Tryd.func29 rfl rfl rfl rfl rfl (l := [(0, .v (.agg ⟨[.int .i64 x0_Kind, .int .i64 x0_Floor, .int .i64 x0_Car, .int .i64 x0_At]⟩))]) (fun _ => rfl) (fun B abB => ?_)
  obtain ⟨t7, e7, hp⟩ := bindS hp
  refine WJ.cl 210 (R := R_25 t7) (fun hm h k => R_25.mono hm h k) rfl (fun ids H' fr => f27_ok (x0 := (CallT.mk x0_Kind x0_Floor x0_Car x0_At)) e7) ?_
  rintro v B1 ⟨abB1, ivB1⟩ rfl
  refine ⟨_, rfl, ?_⟩
  refine WJ.cn 205 hp rfl rfl rfl rfl rfl rfl rfl rfl rfl (fun hc9 hp => ?_) (fun hc9 hp => ?_)
  · obtain rfl := endS (show some _ = some r from hp)
    exact WJ.rt 208 rfl rfl rfl (fun ids H' fr => ⟨fr.ext0, rfl⟩)
  · refine WJ.drF 204 rfl gmix (by kernel_rfl) (by kernel_rfl) rfl (fun D2 eD2 abD2 => ?_)
    obtain ⟨t13, e13, hp⟩ := bindS hp
    refine WD.cl (R := R_9 t13) (fun hm h k => R_9.mono hm h k) rfl (fun ids H' fr => f50_ok e13) ?_
    rintro v B3 ⟨abB3, ivB3⟩ rfl
    refine ⟨_, rfl, ?_⟩
    obtain ⟨s14, e14, hp⟩ := bindS hp
    refine WD.hd (v := .string (bs s14)) rfl rfl rfl rfl (fun ids H' s0 h0 f => side_pure rfl rfl h0 f) (fun ids H' fr => opD_bin rfl (evV_eq _ _ _ _ _ rfl) (evV_eq _ _ _ _ _ rfl) (bin_sadd e14)) rfl ?_
    obtain ⟨t17, e17, hp⟩ := bindS hp
    refine WD.cl (R := R_9 t17) (fun hm h k => R_9.mono hm h k) rfl (fun ids H' fr => f50_ok e17) ?_
    rintro v B4 ⟨abB4, ivB4⟩ rfl
    refine ⟨_, rfl, ?_⟩
    obtain ⟨s18, e18, hp⟩ := bindS hp
    refine WD.hd (v := .string (bs s18)) rfl rfl rfl rfl (fun ids H' s0 h0 f => side_pure rfl rfl h0 f) (fun ids H' fr => opD_bin rfl (evV_eq _ _ _ _ _ rfl) (evV_eq _ _ _ _ _ rfl) (bin_sadd e18)) rfl ?_
    refine WD.done rfl ?_
    refine WJ.ci 205 hp rfl rfl rfl rfl rfl rfl rfl rfl rfl (fun hc21 hp => ?_) (fun hc21 hp => ?_)
    · obtain ⟨t24, e24, hp⟩ := bindS hp
      refine WJ.cl 206 (R := R_9 t24) (fun hm h k => R_9.mono hm h k) rfl (fun ids H' fr => f50_ok e24) ?_
      rintro v B5 ⟨abB5, ivB5⟩ rfl
      refine ⟨_, rfl, ?_⟩
      obtain ⟨s25, e25, hp⟩ := bindS hp
      refine WJ.hd (v := .string (bs s25)) 200 rfl rfl rfl rfl (fun ids H' fr => opD_bin rfl (evV_eq _ _ _ _ _ rfl) (evV_eq _ _ _ _ _ rfl) (bin_sadd e25)) rfl ?_
      obtain ⟨s26, e26, hp⟩ := bindS hp
      refine WJ.hd (v := .string (bs s26)) 200 rfl rfl rfl rfl (fun ids H' fr => opD_bin rfl (evV_eq _ _ _ _ _ rfl) (evV_eq _ _ _ _ _ rfl) (bin_sadd e26)) rfl ?_
      obtain ⟨s28, e28, hp⟩ := bindS hp
      refine WJ.hd (v := .string (bs s28)) 201 rfl rfl rfl rfl (fun ids H' fr => opD_bin rfl (evV_eq _ _ _ _ _ rfl) (evV_eq _ _ _ _ _ rfl) (bin_sadd e28)) rfl ?_
      obtain rfl := endS (show some _ = some r from hp)
      exact WJ.rt 203 rfl rfl rfl (fun ids H' fr => ⟨fr.ext0, rfl⟩)
    · obtain ⟨s34, e34, hp⟩ := bindS hp
      refine WJ.hd (v := .string (bs s34)) 210 rfl rfl rfl rfl (fun ids H' fr => opD_slh rfl (evV_eq _ _ _ _ _ rfl) (evV_eq _ _ _ _ _ rfl) (evV_eq _ _ _ _ _ rfl) (sliceD_lh us9 e34)) rfl ?_
      obtain ⟨s36, e36, hp⟩ := bindS hp
      refine WJ.hd (v := .string (bs s36)) 201 rfl rfl rfl rfl (fun ids H' fr => opD_bin rfl (evV_eq _ _ _ _ _ rfl) (evV_eq _ _ _ _ _ rfl) (bin_sadd e36)) rfl ?_
      obtain rfl := endS (show some _ = some r from hp)
      exact WJ.rt 203 rfl rfl rfl (fun ids H' fr => ⟨fr.ext0, rfl⟩)
/-! 48 tipstaff/call.numbers -/
def f48_l1 (x0 : List UInt8) : Nat → (List (List UInt8)) → (List UInt8) → (List UInt8) → Nat → Option ((List (List UInt8)) × (List UInt8) × (List UInt8))
  | 0, _, _, _, _ => none
  | n + 1, l0, x2, x4, p0 =>
    if p0 < x0.length then
      (if (decL x0 p0) ≥ 48 then
        if (decL x0 p0) ≤ 57 then
          (scat x4 (encR (decL x0 p0))).bind fun s22 =>
          some (Sum.inl (l0, x2, s22, (p0 + decN x0 p0)))
        else
          if x4 = ([] : List UInt8) then
            some (Sum.inr (l0, x4))
          else
            (apd 16 l0 ([x4] : List (List UInt8))).bind fun l29 =>
            some (Sum.inr (l29, ([] : List UInt8)))
      else
        if x4 = ([] : List UInt8) then
          some (Sum.inr (l0, x4))
        else
          (apd 16 l0 ([x4] : List (List UInt8))).bind fun l29 =>
          some (Sum.inr (l29, ([] : List UInt8)))).bind fun s => match s with
        | .inl st => f48_l1 x0 n st.1 st.2.1 st.2.2.1 st.2.2.2
        | .inr (l0_7, x4_7) => 
          (scat x2 (encR (decL x0 p0))).bind fun s33 =>
          f48_l1 x0 n l0_7 s33 x4_7 (p0 + decN x0 p0)
    else
      some ((l0, x2, x4))

def f48 (k : Nat) (x0 : List UInt8) : Option ((List UInt8) × (List (List UInt8))) :=
  (f48_l1 x0 k ([]) ([] : List UInt8) ([] : List UInt8) 0).bind fun (l0_6, x2_6, x4_6) =>
    (if x4_6 = ([] : List UInt8) then
      some (l0_6)
    else
      (apd 16 l0_6 ([x4_6] : List (List UInt8))).bind fun l39 =>
      some (l39)).bind fun l0_8 =>
      some (x2_6, l0_8)
set_option maxRecDepth 20000 in
theorem f48_ok {k : Nat} {H : Hp} {x0 : List UInt8} {r : (List UInt8) × (List (List UInt8))} (hp : f48 k x0 = some r) :
    SCall Tryd.prog 48 [.string (bs x0)] H (Ret fun v H' => Ext H H' ∧ R_9_69 r H.next H' v) := by
  unfold f48 at hp
  replace hp := topS hp
  refine SCall.g Tryd.func48 rfl rfl rfl rfl rfl (l := [(0, .v (.string (bs x0)))]) (fun _ => rfl) (fun B abB => ?_)
  refine WJ.rg 216 rfl rfl rfl rfl rfl us9 rfl ?_
  rintro b8 B1 ⟨abB1, ivB1⟩ h08 it8
  refine ⟨_, rfl, ?_⟩
  refine WJ.adv 2 rfl ?_
  refine WJ.nw 1 ?_
  obtain ⟨K6, hK6, hp⟩ : ∃ K, K = _ ∧ Option.bind _ K = some r := ⟨_, rfl, cutS hp⟩
  refine WJ.cut 2 (α := (List (List UInt8)) × (List UInt8) × (List UInt8) × (Option Addr) × Nat × Hp) (fun y => [(2, .v (.string (bs y.2.1))), (3, .v (.slice y.2.2.2.1 y.1.length y.2.2.2.2.1)), (4, .v (.string (bs y.2.2.1)))]) (fun y => []) (fun y => [⟨y.2.2.2.1, y.2.2.2.2.1, 1, encL sE y.1⟩]) (fun y => y.2.2.2.2.2) (fun y => K6 ((y.1, y.2.1, y.2.2.1)) = some r) ?_ (fun j6 => ?_)
  · rintro ⟨l0_6, x2_6, x4_6, a0_6, c0_6, B4⟩ hp
    subst hK6
    show WJ _ _ _ B4 [⟨a0_6, c0_6, 1, encL sE l0_6⟩] _ _ ⟨[(2, .v (.string (bs x2_6))), (3, .v (.slice a0_6 l0_6.length c0_6)), (4, .v (.string (bs x4_6)))], [], true, 0⟩
    refine WJ.adv 2 rfl ?_
    obtain ⟨K8, hK8, hp⟩ : ∃ K, K = _ ∧ Option.bind _ K = some r := ⟨_, rfl, cutS hp⟩
    refine WJ.cut 2 (α := (List (List UInt8)) × (Option Addr) × Nat) (fun y => [(2, .v (.string (bs x2_6))), (3, .v (.slice y.2.1 y.1.length y.2.2))]) (fun y => []) (fun y => [⟨y.2.1, y.2.2, 1, encL sE y.1⟩]) (fun y => B4) (fun y => K8 ((y.1)) = some r) ?_ (fun j8 => ?_)
    · rintro ⟨l0_8, a0_8, c0_8⟩ hp
      subst hK8
      show WJ _ _ _ B4 [⟨a0_8, c0_8, 1, encL sE l0_8⟩] _ _ ⟨[(2, .v (.string (bs x2_6))), (3, .v (.slice a0_8 l0_8.length c0_8))], [], true, 0⟩
      obtain rfl := endS (show some _ = some r from hp)
      exact WJ.rt 207 rfl rfl rfl (fun ids H' fr => ⟨fr.ext0, ⟨_, _, rfl, (fr.slOwn (j := 0) rfl rfl (Nat.le_refl _))⟩⟩)
    · refine WJ.cn 202 hp rfl rfl rfl rfl rfl rfl (opD_strne rfl rfl rfl) rfl rfl (fun hc35 hp => ?_) (fun hc35 hp => ?_)
      · refine WJ.bs (cs := encL sE ([x4_6] : List (List UInt8))) (sz := 1) (pl := [(0, .string (bs x4_6))]) 205 rfl rfl rfl rfl rfl (fun _ _ => rfl) (fun _ => by rfl) rfl rfl ?_
        intro b38
        refine ⟨_, rfl, ?_⟩
        obtain ⟨l39, e39, hp⟩ := bindS hp
        obtain ⟨bd39, rfl⟩ := apd_some e39
        refine WJ.ap (L := l0_6) (L2 := ([x4_6] : List (List UInt8))) 200 0 rfl rfl rfl rfl rfl rfl rfl rfl (el69 rfl) rfl (fun _ => rfl) (fun _ => rfl) rfl (fun ids H' fr => fr.srcOwn (enc := sE) (sz := 1) (j := 1) (fun _ => rfl) (by decide) rfl) bd39 ?_
        intro a39 c39
        refine ⟨_, rfl, ?_⟩
        refine WJ.pop [⟨a39, c39, 1, encL sE (l0_6 ++ ([x4_6] : List (List UInt8)))⟩] rfl ?_
        exact WJ.goto 2 (j8 ((l0_6 ++ ([x4_6] : List (List UInt8))), a39, c39) hp) rfl rfl (by exact ⟨rfl, rfl, trivial⟩) rfl rfl rfl
      · exact WJ.goto 3 (j8 (l0_6, a0_6, c0_6) hp) rfl rfl (by exact ⟨rfl, rfl, trivial⟩) rfl rfl rfl
  · refine WJ.lp 200 (α := Nat × (List (List UInt8)) × (List UInt8) × (List UInt8) × Nat × (Option Addr) × Nat × Hp) (fun y => [(2, .v (.string (bs y.2.2.1))), (3, .v (.slice y.2.2.2.2.2.1 y.2.1.length y.2.2.2.2.2.2.1)), (4, .v (.string (bs y.2.2.2.1))), (8, .v (.pointer (some ⟨b8, 0, none⟩)))]) (fun y => []) (fun y => [⟨y.2.2.2.2.2.1, y.2.2.2.2.2.2.1, 1, encL sE y.2.1⟩]) (fun y => y.2.2.2.2.2.2.2) (fun y => y.1) (fun y => Option.bind (f48_l1 x0 y.1 y.2.1 y.2.2.1 y.2.2.2.1 y.2.2.2.2.1) K6 = some r ∧ y.2.2.2.2.2.2.2.get b8 = some (.iter (bs x0) y.2.2.2.2.1)) (k, ([] : List (List UInt8)), ([] : List UInt8), ([] : List UInt8), 0, none, 0, B1) rfl ⟨hp, it8⟩ (by exact ⟨rfl, rfl, rfl, rfl, trivial⟩) rfl rfl rfl ?_
    rintro ⟨n, l0, x2, x4, p0, a0, c0, B2⟩ ⟨hp, it8⟩ ih6
    show WJ _ _ _ B2 [⟨a0, c0, 1, encL sE l0⟩] _ _ ⟨[(2, .v (.string (bs x2))), (3, .v (.slice a0 l0.length c0)), (4, .v (.string (bs x4))), (8, .v (.pointer (some ⟨b8, 0, none⟩)))], [], true, 0⟩
    replace hp : Option.bind (f48_l1 x0 n l0 x2 x4 p0) K6 = some r := hp
    cases n with
    | zero => rw [f48_l1] at hp; exact (noS hp).elim
    | succ n =>
      rw [f48_l1] at hp
      refine WJ.nx 202 hp rfl rfl rfl rfl rfl rfl it8 h08 rfl rfl (fun hp B3 abB3 neB3 it_new => ?_) (fun hp => ?_)
      · replace it8 := it_new
        refine WJ.adv 14 rfl ?_
        obtain ⟨K7, hK7, hp⟩ : ∃ K, K = _ ∧ Option.bind _ K = some r := ⟨_, rfl, cutS hp⟩
        refine WJ.cut 3 (α := (List (List UInt8)) × (List UInt8) × (Option Addr) × Nat) (fun y => [(2, .v (.string (bs x2))), (3, .v (.slice y.2.2.1 y.1.length y.2.2.2)), (4, .v (.string (bs y.2.1))), (6, .v (.int .i32 (decL x0 p0))), (8, .v (.pointer (some ⟨b8, 0, none⟩)))]) (fun y => []) (fun y => [⟨y.2.2.1, y.2.2.2, 1, encL sE y.1⟩]) (fun y => B3) (fun y => K7 ((Sum.inr (y.1, y.2.1))) = some r) ?_ (fun j7 => ?_)
        · rintro ⟨l0_7, x4_7, a0_7, c0_7⟩ hp
          subst hK7
          show WJ _ _ _ B3 [⟨a0_7, c0_7, 1, encL sE l0_7⟩] _ _ ⟨[(2, .v (.string (bs x2))), (3, .v (.slice a0_7 l0_7.length c0_7)), (4, .v (.string (bs x4_7))), (6, .v (.int .i32 (decL x0 p0))), (8, .v (.pointer (some ⟨b8, 0, none⟩)))], [], true, 0⟩
          refine WJ.adv 4 rfl ?_
          rw [enc_eq]
          obtain ⟨s33, e33, hp⟩ := bindS hp
          refine WJ.hd (v := .string (bs s33)) 200 rfl rfl rfl rfl (fun ids H' fr => opD_bin rfl (evV_eq _ _ _ _ _ rfl) (evV_eq _ _ _ _ _ rfl) (bin_sadd e33)) rfl ?_
          exact WJ.ag 203 rfl (by exact ⟨rfl, rfl, rfl, rfl, trivial⟩) rfl rfl rfl (ih6 (n, l0_7, s33, x4_7, (p0 + decN x0 p0), a0_7, c0_7, B3) ⟨hp, it8⟩ (Nat.lt_succ_self _))
        · refine WJ.ci 202 hp rfl rfl rfl rfl rfl rfl rfl rfl rfl (fun hc14 hp => ?_) (fun hc14 hp => ?_)
          · refine WJ.ci 202 hp rfl rfl rfl rfl rfl rfl rfl rfl rfl (fun hc17 hp => ?_) (fun hc17 hp => ?_)
            · refine WJ.adv 9 rfl ?_
              rw [enc_eq]
              obtain ⟨s22, e22, hp⟩ := bindS hp
              refine WJ.hd (v := .string (bs s22)) 200 rfl rfl rfl rfl (fun ids H' fr => opD_bin rfl (evV_eq _ _ _ _ _ rfl) (evV_eq _ _ _ _ _ rfl) (bin_sadd e22)) rfl ?_
              subst hK7
              exact WJ.ag 203 rfl (by exact ⟨rfl, rfl, rfl, rfl, trivial⟩) rfl rfl rfl (ih6 (n, l0, x2, s22, (p0 + decN x0 p0), a0, c0, B3) ⟨hp, it8⟩ (Nat.lt_succ_self _))
            · refine WJ.cn 207 hp rfl rfl rfl rfl rfl rfl (opD_strne rfl rfl rfl) rfl rfl (fun hc25 hp => ?_) (fun hc25 hp => ?_)
              · refine WJ.bs (cs := encL sE ([x4] : List (List UInt8))) (sz := 1) (pl := [(0, .string (bs x4))]) 207 rfl rfl rfl rfl rfl (fun _ _ => rfl) (fun _ => by rfl) rfl rfl ?_
                intro b28
                refine ⟨_, rfl, ?_⟩
                obtain ⟨l29, e29, hp⟩ := bindS hp
                obtain ⟨bd29, rfl⟩ := apd_some e29
                refine WJ.ap (L := l0) (L2 := ([x4] : List (List UInt8))) 200 0 rfl rfl rfl rfl rfl rfl rfl rfl (el69 rfl) rfl (fun _ => rfl) (fun _ => rfl) rfl (fun ids H' fr => fr.srcOwn (enc := sE) (sz := 1) (j := 1) (fun _ => rfl) (by decide) rfl) bd29 ?_
                intro a29 c29
                refine ⟨_, rfl, ?_⟩
                refine WJ.pop [⟨a29, c29, 1, encL sE (l0 ++ ([x4] : List (List UInt8)))⟩] rfl ?_
                exact WJ.goto 6 (j7 ((l0 ++ ([x4] : List (List UInt8))), ([] : List UInt8), a29, c29) hp) rfl rfl (by exact ⟨rfl, rfl, rfl, rfl, rfl, trivial⟩) rfl rfl rfl
              · exact WJ.goto 5 (j7 (l0, x4, a0, c0) hp) rfl rfl (by exact ⟨rfl, rfl, rfl, rfl, rfl, trivial⟩) rfl rfl rfl
          · refine WJ.cn 210 hp rfl rfl rfl rfl rfl rfl (opD_strne rfl rfl rfl) rfl rfl (fun hc25 hp => ?_) (fun hc25 hp => ?_)
            · refine WJ.bs (cs := encL sE ([x4] : List (List UInt8))) (sz := 1) (pl := [(0, .string (bs x4))]) 207 rfl rfl rfl rfl rfl (fun _ _ => rfl) (fun _ => by rfl) rfl rfl ?_
              intro b28
              refine ⟨_, rfl, ?_⟩
              obtain ⟨l29, e29, hp⟩ := bindS hp
              obtain ⟨bd29, rfl⟩ := apd_some e29
              refine WJ.ap (L := l0) (L2 := ([x4] : List (List UInt8))) 200 0 rfl rfl rfl rfl rfl rfl rfl rfl (el69 rfl) rfl (fun _ => rfl) (fun _ => rfl) rfl (fun ids H' fr => fr.srcOwn (enc := sE) (sz := 1) (j := 1) (fun _ => rfl) (by decide) rfl) bd29 ?_
              intro a29 c29
              refine ⟨_, rfl, ?_⟩
              refine WJ.pop [⟨a29, c29, 1, encL sE (l0 ++ ([x4] : List (List UInt8)))⟩] rfl ?_
              exact WJ.goto 6 (j7 ((l0 ++ ([x4] : List (List UInt8))), ([] : List UInt8), a29, c29) hp) rfl rfl (by exact ⟨rfl, rfl, rfl, rfl, rfl, trivial⟩) rfl rfl rfl
            · exact WJ.goto 5 (j7 (l0, x4, a0, c0) hp) rfl rfl (by exact ⟨rfl, rfl, rfl, rfl, rfl, trivial⟩) rfl rfl rfl
      · exact WJ.goto 5 (j6 (l0, x2, x4, a0, c0, B2) hp) rfl rfl (by exact ⟨rfl, rfl, rfl, trivial⟩) rfl rfl rfl
/-! 17 tipstaff/call.Parse -/
def f17_l1 (t16_1 : List (List UInt8)) : Nat → (List Int) → Int → Option (((List Int)) ⊕ (CallT × Int))
  | 0, _, _ => none
  | n + 1, l0, x21 =>
    (some (decide (x21 < (t16_1.length : Int)))).bind fun t22 =>
    if t22 then
      (rd t16_1 x21).bind fun t23 =>
      (f49 t23).bind fun (t27_0, t27_1) =>
      if t27_1 then
        if (t23.length : Int) > 13 then
          some (Sum.inr (((CallT.mk 0 0 0 0), 3) : CallT × Int))
        else
          (f50 t27_0).bind fun t39 =>
          if t39 = t23 then
            (apd 8 l0 ([t27_0])).bind fun l47 =>
            f17_l1 t16_1 n l47 (IntKind.i64.wrap (x21 + 1))
          else
            some (Sum.inr (((CallT.mk 0 0 0 0), 3) : CallT × Int))
      else
        some (Sum.inr (((CallT.mk 0 0 0 0), 3) : CallT × Int))
    else
      some (Sum.inl l0)

def f17 (k : Nat) (x0 : List UInt8) : Option (CallT × Int) :=
  (f48 k x0).bind fun (t16_0, t16_1) =>
  (f17_l1 t16_1 k ([]) 0).bind fun s => match s with
    | .inl l0_9 => 
      (if t16_0 = ([99, 58, 64]) then
        if (l0_9.length : Int) = 3 then
          (rd l0_9 0).bind fun t58 =>
          (rd l0_9 1).bind fun t61 =>
          (rd l0_9 2).bind fun t64 =>
          (rd t16_1 0).bind fun t68 =>
          (scat ([99]) t68).bind fun s70 =>
          (scat s70 ([58])).bind fun s71 =>
          (rd t16_1 1).bind fun t73 =>
          (scat s71 t73).bind fun s75 =>
          (scat s75 ([64])).bind fun s76 =>
          (rd t16_1 2).bind fun t78 =>
          (scat s76 t78).bind fun s80 =>
          some (((3, t61, t58, t64, s80) : Int × Int × Int × Int × (List UInt8)))
        else
          if t16_0 = ([117, 64]) then
            if (l0_9.length : Int) = 2 then
              (rd l0_9 0).bind fun t94 =>
              (rd l0_9 1).bind fun t97 =>
              ((rd t16_0 0).bind fun b101 =>
              if ((b101.toNat : Nat) : Int) = 100 then
                some ((2 : Int))
              else
                some ((1 : Int))).bind fun v1_0_16 =>
                (sub t16_0 0 1).bind fun s105 =>
                (rd t16_1 0).bind fun t107 =>
                (scat s105 t107).bind fun s109 =>
                (scat s109 ([64])).bind fun s110 =>
                (rd t16_1 1).bind fun t112 =>
                (scat s110 t112).bind fun s114 =>
                some (((v1_0_16, t94, 0, t97, s114) : Int × Int × Int × Int × (List UInt8)))
            else
              some (((0, 0, 0, 0, ([] : List UInt8)) : Int × Int × Int × Int × (List UInt8)))
          else
            if t16_0 = ([100, 64]) then
              if (l0_9.length : Int) = 2 then
                (rd l0_9 0).bind fun t94 =>
                (rd l0_9 1).bind fun t97 =>
                ((rd t16_0 0).bind fun b101 =>
                if ((b101.toNat : Nat) : Int) = 100 then
                  some ((2 : Int))
                else
                  some ((1 : Int))).bind fun v1_0_18 =>
                  (sub t16_0 0 1).bind fun s105 =>
                  (rd t16_1 0).bind fun t107 =>
                  (scat s105 t107).bind fun s109 =>
                  (scat s109 ([64])).bind fun s110 =>
                  (rd t16_1 1).bind fun t112 =>
                  (scat s110 t112).bind fun s114 =>
                  some (((v1_0_18, t94, 0, t97, s114) : Int × Int × Int × Int × (List UInt8)))
              else
                some (((0, 0, 0, 0, ([] : List UInt8)) : Int × Int × Int × Int × (List UInt8)))
            else
              some (((0, 0, 0, 0, ([] : List UInt8)) : Int × Int × Int × Int × (List UInt8)))
      else
        if t16_0 = ([117, 64]) then
          if (l0_9.length : Int) = 2 then
            (rd l0_9 0).bind fun t94 =>
            (rd l0_9 1).bind fun t97 =>
            ((rd t16_0 0).bind fun b101 =>
            if ((b101.toNat : Nat) : Int) = 100 then
              some ((2 : Int))
            else
              some ((1 : Int))).bind fun v1_0_20 =>
              (sub t16_0 0 1).bind fun s105 =>
              (rd t16_1 0).bind fun t107 =>
              (scat s105 t107).bind fun s109 =>
              (scat s109 ([64])).bind fun s110 =>
              (rd t16_1 1).bind fun t112 =>
              (scat s110 t112).bind fun s114 =>
              some (((v1_0_20, t94, 0, t97, s114) : Int × Int × Int × Int × (List UInt8)))
          else
            some (((0, 0, 0, 0, ([] : List UInt8)) : Int × Int × Int × Int × (List UInt8)))
        else
          if t16_0 = ([100, 64]) then
            if (l0_9.length : Int) = 2 then
              (rd l0_9 0).bind fun t94 =>
              (rd l0_9 1).bind fun t97 =>
              ((rd t16_0 0).bind fun b101 =>
              if ((b101.toNat : Nat) : Int) = 100 then
                some ((2 : Int))
              else
                some ((1 : Int))).bind fun v1_0_22 =>
                (sub t16_0 0 1).bind fun s105 =>
                (rd t16_1 0).bind fun t107 =>
                (scat s105 t107).bind fun s109 =>
                (scat s109 ([64])).bind fun s110 =>
                (rd t16_1 1).bind fun t112 =>
                (scat s110 t112).bind fun s114 =>
                some (((v1_0_22, t94, 0, t97, s114) : Int × Int × Int × Int × (List UInt8)))
            else
              some (((0, 0, 0, 0, ([] : List UInt8)) : Int × Int × Int × Int × (List UInt8)))
          else
            some (((0, 0, 0, 0, ([] : List UInt8)) : Int × Int × Int × Int × (List UInt8)))).bind fun (v1_0_14, v1_1_14, v1_2_14, v1_3_14, x12_14) =>
        if x12_14 = ([] : List UInt8) then
          some ((CallT.mk 0 0 0 0), 3)
        else
          if x12_14 = x0 then
            (f27 (CallT.mk v1_0_14 v1_1_14 v1_2_14 v1_3_14)).bind fun t124 =>
            if t124 = 0 then
              some ((CallT.mk v1_0_14 v1_1_14 v1_2_14 v1_3_14), 0)
            else
              some ((CallT.mk 0 0 0 0), t124)
          else
            some ((CallT.mk 0 0 0 0), 3)
    | .inr st => some st
set_option maxRecDepth 20000 in
theorem f17_ok {k : Nat} {H : Hp} {x0 : List UInt8} {r : CallT × Int} (hp : f17 k x0 = some r) :
    SCall Tryd.prog 17 [.string (bs x0)] H (Ret fun v H' => Ext H H' ∧ R_31_25 r H.next H' v) := by
  unfold f17 at hp
  replace hp := topS hp
  refine SCall.g Tryd.func17 rfl rfl rfl rfl rfl (l := [(0, .v (.string (bs x0)))]) (fun _ => rfl) (fun B abB => ?_)
  obtain ⟨⟨t16_0, t16_1⟩, e16, hp⟩ := bindS hp
  refine WJ.cl 208 (R := R_9_69 ⟨t16_0, t16_1⟩) (fun hm h k => R_9_69.mono hm h k) rfl (fun ids H' fr => f48_ok e16) ?_
  rintro v B1 ⟨abB1, ivB1⟩ ⟨a_t16_1, c_t16_1, rfl, g_t16_1⟩
  refine ⟨_, rfl, ?_⟩
  refine WJ.adv 18 rfl ?_
  refine WJ.nw 1 ?_
  obtain ⟨K9, hK9, hp⟩ : ∃ K, K = _ ∧ Option.bind _ K = some r := ⟨_, rfl, cutS hp⟩
  refine WJ.cut 2 (α := (List Int) × (Option Addr) × Nat × Hp) (fun y => [(0, .v (.string (bs x0))), (2, .p 0 0), (4, .v (.string (bs t16_0))), (5, .v (.slice a_t16_1 t16_1.length c_t16_1)), (6, .v (.slice y.2.1 y.1.length y.2.2.1))]) (fun y => [[.int .i64 0, .int .i64 0, .int .i64 0, .int .i64 0]]) (fun y => [⟨y.2.1, y.2.2.1, 1, encL iE y.1⟩]) (fun y => y.2.2.2) (fun y => K9 (Sum.inl y.1) = some r ∧ SlF H.next y.2.2.2 strC a_t16_1 c_t16_1 t16_1) ?_ (fun j9 => ?_)
  · rintro ⟨l0_9, a0_9, c0_9, B5⟩ ⟨hp, g_t16_1⟩
    subst hK9
    show WJ _ _ _ B5 [⟨a0_9, c0_9, 1, encL iE l0_9⟩] _ _ ⟨[(0, .v (.string (bs x0))), (2, .p 0 0), (4, .v (.string (bs t16_0))), (5, .v (.slice a_t16_1 t16_1.length c_t16_1)), (6, .v (.slice a0_9 l0_9.length c0_9))], [[.int .i64 0, .int .i64 0, .int .i64 0, .int .i64 0]], true, 0⟩
    refine WJ.adv 11 rfl ?_
    obtain ⟨K14, hK14, hp⟩ : ∃ K, K = _ ∧ Option.bind _ K = some r := ⟨_, rfl, cutS hp⟩
    refine WJ.cut 3 (α := Int × Int × Int × Int × (List UInt8)) (fun y => [(0, .v (.string (bs x0))), (2, .p 0 0), (11, .p 1 0), (12, .v (.string (bs y.2.2.2.2)))]) (fun y => [[.int .i64 0, .int .i64 0, .int .i64 0, .int .i64 0], [.int .i64 y.1, .int .i64 y.2.1, .int .i64 y.2.2.1, .int .i64 y.2.2.2.1]]) (fun y => [⟨a0_9, c0_9, 1, encL iE l0_9⟩]) (fun y => B5) (fun y => K14 (((y.1, y.2.1, y.2.2.1, y.2.2.2.1, y.2.2.2.2))) = some r) ?_ (fun j14 => ?_)
    · rintro ⟨v1_0_14, v1_1_14, v1_2_14, v1_3_14, x12_14⟩ hp
      subst hK14
      show WJ _ _ _ B5 [⟨a0_9, c0_9, 1, encL iE l0_9⟩] _ _ ⟨[(0, .v (.string (bs x0))), (2, .p 0 0), (11, .p 1 0), (12, .v (.string (bs x12_14)))], [[.int .i64 0, .int .i64 0, .int .i64 0, .int .i64 0], [.int .i64 v1_0_14, .int .i64 v1_1_14, .int .i64 v1_2_14, .int .i64 v1_3_14]], true, 0⟩
      refine WJ.ci 204 hp rfl rfl rfl rfl rfl rfl (opD_streq rfl rfl rfl) rfl rfl (fun hc116 hp => ?_) (fun hc116 hp => ?_)
      · obtain rfl := endS (show some _ = some r from hp)
        exact WJ.rt 213 rfl rfl rfl (fun ids H' fr => ⟨fr.ext0, rfl⟩)
      · refine WJ.cn 203 hp rfl rfl rfl rfl rfl rfl (opD_strne rfl rfl rfl) rfl rfl (fun hc120 hp => ?_) (fun hc120 hp => ?_)
        · obtain rfl := endS (show some _ = some r from hp)
          exact WJ.rt 209 rfl rfl rfl (fun ids H' fr => ⟨fr.ext0, rfl⟩)
        · obtain ⟨t124, e124, hp⟩ := bindS hp
          refine WJ.cl 208 (R := R_25 t124) (fun hm h k => R_25.mono hm h k) rfl (fun ids H' fr => f27_ok (x0 := (CallT.mk v1_0_14 v1_1_14 v1_2_14 v1_3_14)) e124) ?_
          rintro v B6 ⟨abB6, ivB6⟩ rfl
          refine ⟨_, rfl, ?_⟩
          replace g_t16_1 := g_t16_1.mono (Nat.le_refl _) (abB6.le (Nat.zero_le _))
          refine WJ.cn 205 hp rfl rfl rfl rfl rfl rfl rfl rfl rfl (fun hc126 hp => ?_) (fun hc126 hp => ?_)
          · obtain rfl := endS (show some _ = some r from hp)
            exact WJ.rt 209 rfl rfl rfl (fun ids H' fr => ⟨fr.ext0, rfl⟩)
          · obtain rfl := endS (show some _ = some r from hp)
            exact WJ.rt 209 rfl rfl rfl (fun ids H' fr => ⟨fr.ext0, rfl⟩)
    · refine WJ.ci 202 hp rfl rfl rfl rfl rfl rfl (opD_streq rfl rfl rfl) rfl rfl (fun hc51 hp => ?_) (fun hc51 hp => ?_)
      · refine WJ.ci 203 hp rfl rfl rfl rfl rfl rfl rfl rfl rfl (fun hc55 hp => ?_) (fun hc55 hp => ?_)
        · refine WJ.dr 205 rfl gmix (by kernel_rfl) (by kernel_rfl) rfl ?_
          obtain ⟨t58, e58, hp⟩ := bindS hp
          refine WD.ownAddr (enc := iE) (sz := 1) 0 (fun _ => rfl) rfl rfl e58 (fun b58 hb58 => ?_)
          refine WD.hd (v := .pointer (some ⟨b58, (0 : Int).toNat * 1, none⟩)) rfl rfl rfl rfl (fun _ _ _ _ _ => side_no) (fun ids H' fr => opD_indexAddr rfl (evV_eq _ _ _ _ _ rfl) (evV_eq _ _ _ _ _ rfl) (ownIdx hb58 e58 u53 sz3)) rfl ?_
          refine WD.hd (v := .int .i64 t58) rfl rfl rfl rfl (fun _ _ _ _ _ => side_no) (fun ids H' fr => opD_load rfl (evV_eq _ _ _ _ _ rfl) ((fr.ownEl (enc := iE) (sz := 1) (j := 0) (fun _ => rfl) rfl hb58 e58).load (d := 0) ag3 rfl)) rfl ?_
          obtain ⟨t61, e61, hp⟩ := bindS hp
          refine WD.ownAddr (enc := iE) (sz := 1) 0 (fun _ => rfl) rfl rfl e61 (fun b61 hb61 => ?_)
          refine WD.hd (v := .pointer (some ⟨b61, (1 : Int).toNat * 1, none⟩)) rfl rfl rfl rfl (fun _ _ _ _ _ => side_no) (fun ids H' fr => opD_indexAddr rfl (evV_eq _ _ _ _ _ rfl) (evV_eq _ _ _ _ _ rfl) (ownIdx hb61 e61 u53 sz3)) rfl ?_
          refine WD.hd (v := .int .i64 t61) rfl rfl rfl rfl (fun _ _ _ _ _ => side_no) (fun ids H' fr => opD_load rfl (evV_eq _ _ _ _ _ rfl) ((fr.ownEl (enc := iE) (sz := 1) (j := 0) (fun _ => rfl) rfl hb61 e61).load (d := 0) ag3 rfl)) rfl ?_
          obtain ⟨t64, e64, hp⟩ := bindS hp
          refine WD.ownAddr (enc := iE) (sz := 1) 0 (fun _ => rfl) rfl rfl e64 (fun b64 hb64 => ?_)
          refine WD.hd (v := .pointer (some ⟨b64, (2 : Int).toNat * 1, none⟩)) rfl rfl rfl rfl (fun _ _ _ _ _ => side_no) (fun ids H' fr => opD_indexAddr rfl (evV_eq _ _ _ _ _ rfl) (evV_eq _ _ _ _ _ rfl) (ownIdx hb64 e64 u53 sz3)) rfl ?_
          refine WD.hd (v := .int .i64 t64) rfl rfl rfl rfl (fun _ _ _ _ _ => side_no) (fun ids H' fr => opD_load rfl (evV_eq _ _ _ _ _ rfl) ((fr.ownEl (enc := iE) (sz := 1) (j := 0) (fun _ => rfl) rfl hb64 e64).load (d := 0) ag3 rfl)) rfl ?_
          refine WD.done rfl ?_
          refine WJ.dr 200 rfl gmix (by kernel_rfl) (by kernel_rfl) rfl ?_
          obtain ⟨t68, e68, hp⟩ := bindS hp
          obtain ⟨b68, o68, cs68, i68, rfl, p68⟩ := g_t16_1.at e68 u69 sz9
          refine WD.hd (v := .pointer (some ⟨b68, o68, none⟩)) rfl rfl rfl rfl (fun _ _ _ _ _ => side_no) (fun ids H' fr => opD_indexAddr rfl (evV_eq _ _ _ _ _ rfl) (evV_eq _ _ _ _ _ rfl) (i68 _)) rfl ?_
          refine WD.hd (v := .string (bs t68)) rfl rfl rfl rfl (fun _ _ _ _ _ => side_no) (fun ids H' fr => opD_load rfl (evV_eq _ _ _ _ _ rfl) ((p68.mono (Nat.zero_le _) (fr.abv.le (Nat.zero_le _))).load (d := 0) ag9 rfl)) rfl ?_
          obtain ⟨s70, e70, hp⟩ := bindS hp
          refine WD.hd (v := .string (bs s70)) rfl rfl rfl rfl (fun _ _ _ _ _ => side_no) (fun ids H' fr => opD_bin rfl (evV_eq _ _ _ _ _ rfl) (evV_eq _ _ _ _ _ rfl) (bin_sadd e70)) rfl ?_
          obtain ⟨s71, e71, hp⟩ := bindS hp
          refine WD.hd (v := .string (bs s71)) rfl rfl rfl rfl (fun _ _ _ _ _ => side_no) (fun ids H' fr => opD_bin rfl (evV_eq _ _ _ _ _ rfl) (evV_eq _ _ _ _ _ rfl) (bin_sadd e71)) rfl ?_
          obtain ⟨t73, e73, hp⟩ := bindS hp
          obtain ⟨b73, o73, cs73, i73, rfl, p73⟩ := g_t16_1.at e73 u69 sz9
          refine WD.hd (v := .pointer (some ⟨b73, o73, none⟩)) rfl rfl rfl rfl (fun _ _ _ _ _ => side_no) (fun ids H' fr => opD_indexAddr rfl (evV_eq _ _ _ _ _ rfl) (evV_eq _ _ _ _ _ rfl) (i73 _)) rfl ?_
          refine WD.hd (v := .string (bs t73)) rfl rfl rfl rfl (fun _ _ _ _ _ => side_no) (fun ids H' fr => opD_load rfl (evV_eq _ _ _ _ _ rfl) ((p73.mono (Nat.zero_le _) (fr.abv.le (Nat.zero_le _))).load (d := 0) ag9 rfl)) rfl ?_
          obtain ⟨s75, e75, hp⟩ := bindS hp
          refine WD.hd (v := .string (bs s75)) rfl rfl rfl rfl (fun _ _ _ _ _ => side_no) (fun ids H' fr => opD_bin rfl (evV_eq _ _ _ _ _ rfl) (evV_eq _ _ _ _ _ rfl) (bin_sadd e75)) rfl ?_
          obtain ⟨s76, e76, hp⟩ := bindS hp
          refine WD.hd (v := .string (bs s76)) rfl rfl rfl rfl (fun _ _ _ _ _ => side_no) (fun ids H' fr => opD_bin rfl (evV_eq _ _ _ _ _ rfl) (evV_eq _ _ _ _ _ rfl) (bin_sadd e76)) rfl ?_
          obtain ⟨t78, e78, hp⟩ := bindS hp
          obtain ⟨b78, o78, cs78, i78, rfl, p78⟩ := g_t16_1.at e78 u69 sz9
          refine WD.hd (v := .pointer (some ⟨b78, o78, none⟩)) rfl rfl rfl rfl (fun _ _ _ _ _ => side_no) (fun ids H' fr => opD_indexAddr rfl (evV_eq _ _ _ _ _ rfl) (evV_eq _ _ _ _ _ rfl) (i78 _)) rfl ?_
          refine WD.hd (v := .string (bs t78)) rfl rfl rfl rfl (fun _ _ _ _ _ => side_no) (fun ids H' fr => opD_load rfl (evV_eq _ _ _ _ _ rfl) ((p78.mono (Nat.zero_le _) (fr.abv.le (Nat.zero_le _))).load (d := 0) ag9 rfl)) rfl ?_
          obtain ⟨s80, e80, hp⟩ := bindS hp
          refine WD.hd (v := .string (bs s80)) rfl rfl rfl rfl (fun _ _ _ _ _ => side_no) (fun ids H' fr => opD_bin rfl (evV_eq _ _ _ _ _ rfl) (evV_eq _ _ _ _ _ rfl) (bin_sadd e80)) rfl ?_
          refine WD.done rfl ?_
          exact WJ.goto 1 (j14 (3, t61, t58, t64, s80) hp) rfl rfl (by exact ⟨rfl, rfl, rfl, rfl, trivial⟩) rfl rfl rfl
        · refine WJ.ci 207 hp rfl rfl rfl rfl rfl rfl (opD_streq rfl rfl rfl) rfl rfl (fun hc83 hp => ?_) (fun hc83 hp => ?_)
          · refine WJ.ci 207 hp rfl rfl rfl rfl rfl rfl rfl rfl rfl (fun hc91 hp => ?_) (fun hc91 hp => ?_)
            · refine WJ.dr 205 rfl gmix (by kernel_rfl) (by kernel_rfl) rfl ?_
              obtain ⟨t94, e94, hp⟩ := bindS hp
              refine WD.ownAddr (enc := iE) (sz := 1) 0 (fun _ => rfl) rfl rfl e94 (fun b94 hb94 => ?_)
              refine WD.hd (v := .pointer (some ⟨b94, (0 : Int).toNat * 1, none⟩)) rfl rfl rfl rfl (fun _ _ _ _ _ => side_no) (fun ids H' fr => opD_indexAddr rfl (evV_eq _ _ _ _ _ rfl) (evV_eq _ _ _ _ _ rfl) (ownIdx hb94 e94 u53 sz3)) rfl ?_
              refine WD.hd (v := .int .i64 t94) rfl rfl rfl rfl (fun _ _ _ _ _ => side_no) (fun ids H' fr => opD_load rfl (evV_eq _ _ _ _ _ rfl) ((fr.ownEl (enc := iE) (sz := 1) (j := 0) (fun _ => rfl) rfl hb94 e94).load (d := 0) ag3 rfl)) rfl ?_
              obtain ⟨t97, e97, hp⟩ := bindS hp
              refine WD.ownAddr (enc := iE) (sz := 1) 0 (fun _ => rfl) rfl rfl e97 (fun b97 hb97 => ?_)
              refine WD.hd (v := .pointer (some ⟨b97, (1 : Int).toNat * 1, none⟩)) rfl rfl rfl rfl (fun _ _ _ _ _ => side_no) (fun ids H' fr => opD_indexAddr rfl (evV_eq _ _ _ _ _ rfl) (evV_eq _ _ _ _ _ rfl) (ownIdx hb97 e97 u53 sz3)) rfl ?_
              refine WD.hd (v := .int .i64 t97) rfl rfl rfl rfl (fun _ _ _ _ _ => side_no) (fun ids H' fr => opD_load rfl (evV_eq _ _ _ _ _ rfl) ((fr.ownEl (enc := iE) (sz := 1) (j := 0) (fun _ => rfl) rfl hb97 e97).load (d := 0) ag3 rfl)) rfl ?_
              refine WD.done rfl ?_
              refine WJ.adv 2 rfl ?_
              obtain ⟨K16, hK16, hp⟩ : ∃ K, K = _ ∧ Option.bind _ K = some r := ⟨_, rfl, cutS hp⟩
              refine WJ.cut 2 (α := Int) (fun y => [(0, .v (.string (bs x0))), (2, .p 0 0), (4, .v (.string (bs t16_0))), (5, .v (.slice a_t16_1 t16_1.length c_t16_1)), (11, .p 1 0)]) (fun y => [[.int .i64 0, .int .i64 0, .int .i64 0, .int .i64 0], [.int .i64 y, .int .i64 t94, .int .i64 0, .int .i64 t97]]) (fun y => [⟨a0_9, c0_9, 1, encL iE l0_9⟩]) (fun y => B5) (fun y => K16 ((y)) = some r) ?_ (fun j16 => ?_)
              · rintro v1_0_16 hp
                subst hK16
                show WJ _ _ _ B5 [⟨a0_9, c0_9, 1, encL iE l0_9⟩] _ _ ⟨[(0, .v (.string (bs x0))), (2, .p 0 0), (4, .v (.string (bs t16_0))), (5, .v (.slice a_t16_1 t16_1.length c_t16_1)), (11, .p 1 0)], [[.int .i64 0, .int .i64 0, .int .i64 0, .int .i64 0], [.int .i64 v1_0_16, .int .i64 t94, .int .i64 0, .int .i64 t97]], true, 0⟩
                refine WJ.dr 200 rfl gmix (by kernel_rfl) (by kernel_rfl) rfl ?_
                obtain ⟨s105, e105, hp⟩ := bindS hp
                refine WD.hd (v := .string (bs s105)) rfl rfl rfl rfl (fun _ _ _ _ _ => side_no) (fun ids H' fr => opD_sh rfl (evV_eq _ _ _ _ _ rfl) (evV_eq _ _ _ _ _ rfl) (sliceD_h us9 e105)) rfl ?_
                obtain ⟨t107, e107, hp⟩ := bindS hp
                obtain ⟨b107, o107, cs107, i107, rfl, p107⟩ := g_t16_1.at e107 u69 sz9
                refine WD.hd (v := .pointer (some ⟨b107, o107, none⟩)) rfl rfl rfl rfl (fun _ _ _ _ _ => side_no) (fun ids H' fr => opD_indexAddr rfl (evV_eq _ _ _ _ _ rfl) (evV_eq _ _ _ _ _ rfl) (i107 _)) rfl ?_
                refine WD.hd (v := .string (bs t107)) rfl rfl rfl rfl (fun _ _ _ _ _ => side_no) (fun ids H' fr => opD_load rfl (evV_eq _ _ _ _ _ rfl) ((p107.mono (Nat.zero_le _) (fr.abv.le (Nat.zero_le _))).load (d := 0) ag9 rfl)) rfl ?_
                obtain ⟨s109, e109, hp⟩ := bindS hp
                refine WD.hd (v := .string (bs s109)) rfl rfl rfl rfl (fun _ _ _ _ _ => side_no) (fun ids H' fr => opD_bin rfl (evV_eq _ _ _ _ _ rfl) (evV_eq _ _ _ _ _ rfl) (bin_sadd e109)) rfl ?_
                obtain ⟨s110, e110, hp⟩ := bindS hp
                refine WD.hd (v := .string (bs s110)) rfl rfl rfl rfl (fun _ _ _ _ _ => side_no) (fun ids H' fr => opD_bin rfl (evV_eq _ _ _ _ _ rfl) (evV_eq _ _ _ _ _ rfl) (bin_sadd e110)) rfl ?_
                obtain ⟨t112, e112, hp⟩ := bindS hp
                obtain ⟨b112, o112, cs112, i112, rfl, p112⟩ := g_t16_1.at e112 u69 sz9
                refine WD.hd (v := .pointer (some ⟨b112, o112, none⟩)) rfl rfl rfl rfl (fun _ _ _ _ _ => side_no) (fun ids H' fr => opD_indexAddr rfl (evV_eq _ _ _ _ _ rfl) (evV_eq _ _ _ _ _ rfl) (i112 _)) rfl ?_
                refine WD.hd (v := .string (bs t112)) rfl rfl rfl rfl (fun _ _ _ _ _ => side_no) (fun ids H' fr => opD_load rfl (evV_eq _ _ _ _ _ rfl) ((p112.mono (Nat.zero_le _) (fr.abv.le (Nat.zero_le _))).load (d := 0) ag9 rfl)) rfl ?_
                obtain ⟨s114, e114, hp⟩ := bindS hp
                refine WD.hd (v := .string (bs s114)) rfl rfl rfl rfl (fun _ _ _ _ _ => side_no) (fun ids H' fr => opD_bin rfl (evV_eq _ _ _ _ _ rfl) (evV_eq _ _ _ _ _ rfl) (bin_sadd e114)) rfl ?_
                refine WD.done rfl ?_
                exact WJ.goto 1 (j14 (v1_0_16, t94, 0, t97, s114) hp) rfl rfl (by exact ⟨rfl, rfl, rfl, rfl, trivial⟩) rfl rfl rfl
              · obtain ⟨b101, e101, hp⟩ := bindS hp
                refine WJ.hd (v := .int .u8 ((b101.toNat : Nat) : Int)) 202 rfl rfl rfl rfl (fun ids H' fr => opD_index rfl (evV_eq _ _ _ _ _ rfl) (evV_eq _ _ _ _ _ rfl) (sidx us9 e101)) rfl ?_
                refine WJ.ci 200 hp rfl rfl rfl rfl rfl rfl rfl rfl rfl (fun hc102 hp => ?_) (fun hc102 hp => ?_)
                · exact WJ.goto 6 (j16 2 hp) rfl rfl (by exact ⟨rfl, rfl, rfl, rfl, rfl, trivial⟩) rfl rfl rfl
                · exact WJ.goto 3 (j16 1 hp) rfl rfl (by exact ⟨rfl, rfl, rfl, rfl, rfl, trivial⟩) rfl rfl rfl
            · exact WJ.goto 6 (j14 (0, 0, 0, 0, ([] : List UInt8)) hp) rfl rfl (by exact ⟨rfl, rfl, rfl, rfl, trivial⟩) rfl rfl rfl
          · refine WJ.ci 202 hp rfl rfl rfl rfl rfl rfl (opD_streq rfl rfl rfl) rfl rfl (fun hc86 hp => ?_) (fun hc86 hp => ?_)
            · refine WJ.ci 204 hp rfl rfl rfl rfl rfl rfl rfl rfl rfl (fun hc91 hp => ?_) (fun hc91 hp => ?_)
              · refine WJ.dr 205 rfl gmix (by kernel_rfl) (by kernel_rfl) rfl ?_
                obtain ⟨t94, e94, hp⟩ := bindS hp
                refine WD.ownAddr (enc := iE) (sz := 1) 0 (fun _ => rfl) rfl rfl e94 (fun b94 hb94 => ?_)
                refine WD.hd (v := .pointer (some ⟨b94, (0 : Int).toNat * 1, none⟩)) rfl rfl rfl rfl (fun _ _ _ _ _ => side_no) (fun ids H' fr => opD_indexAddr rfl (evV_eq _ _ _ _ _ rfl) (evV_eq _ _ _ _ _ rfl) (ownIdx hb94 e94 u53 sz3)) rfl ?_
                refine WD.hd (v := .int .i64 t94) rfl rfl rfl rfl (fun _ _ _ _ _ => side_no) (fun ids H' fr => opD_load rfl (evV_eq _ _ _ _ _ rfl) ((fr.ownEl (enc := iE) (sz := 1) (j := 0) (fun _ => rfl) rfl hb94 e94).load (d := 0) ag3 rfl)) rfl ?_
                obtain ⟨t97, e97, hp⟩ := bindS hp
                refine WD.ownAddr (enc := iE) (sz := 1) 0 (fun _ => rfl) rfl rfl e97 (fun b97 hb97 => ?_)
                refine WD.hd (v := .pointer (some ⟨b97, (1 : Int).toNat * 1, none⟩)) rfl rfl rfl rfl (fun _ _ _ _ _ => side_no) (fun ids H' fr => opD_indexAddr rfl (evV_eq _ _ _ _ _ rfl) (evV_eq _ _ _ _ _ rfl) (ownIdx hb97 e97 u53 sz3)) rfl ?_
                refine WD.hd (v := .int .i64 t97) rfl rfl rfl rfl (fun _ _ _ _ _ => side_no) (fun ids H' fr => opD_load rfl (evV_eq _ _ _ _ _ rfl) ((fr.ownEl (enc := iE) (sz := 1) (j := 0) (fun _ => rfl) rfl hb97 e97).load (d := 0) ag3 rfl)) rfl ?_
                refine WD.done rfl ?_
                refine WJ.adv 2 rfl ?_
                obtain ⟨K18, hK18, hp⟩ : ∃ K, K = _ ∧ Option.bind _ K = some r := ⟨_, rfl, cutS hp⟩
                refine WJ.cut 2 (α := Int) (fun y => [(0, .v (.string (bs x0))), (2, .p 0 0), (4, .v (.string (bs t16_0))), (5, .v (.slice a_t16_1 t16_1.length c_t16_1)), (11, .p 1 0)]) (fun y => [[.int .i64 0, .int .i64 0, .int .i64 0, .int .i64 0], [.int .i64 y, .int .i64 t94, .int .i64 0, .int .i64 t97]]) (fun y => [⟨a0_9, c0_9, 1, encL iE l0_9⟩]) (fun y => B5) (fun y => K18 ((y)) = some r) ?_ (fun j18 => ?_)
                · rintro v1_0_18 hp
                  subst hK18
                  show WJ _ _ _ B5 [⟨a0_9, c0_9, 1, encL iE l0_9⟩] _ _ ⟨[(0, .v (.string (bs x0))), (2, .p 0 0), (4, .v (.string (bs t16_0))), (5, .v (.slice a_t16_1 t16_1.length c_t16_1)), (11, .p 1 0)], [[.int .i64 0, .int .i64 0, .int .i64 0, .int .i64 0], [.int .i64 v1_0_18, .int .i64 t94, .int .i64 0, .int .i64 t97]], true, 0⟩
                  refine WJ.dr 200 rfl gmix (by kernel_rfl) (by kernel_rfl) rfl ?_
                  obtain ⟨s105, e105, hp⟩ := bindS hp
                  refine WD.hd (v := .string (bs s105)) rfl rfl rfl rfl (fun _ _ _ _ _ => side_no) (fun ids H' fr => opD_sh rfl (evV_eq _ _ _ _ _ rfl) (evV_eq _ _ _ _ _ rfl) (sliceD_h us9 e105)) rfl ?_
                  obtain ⟨t107, e107, hp⟩ := bindS hp
                  obtain ⟨b107, o107, cs107, i107, rfl, p107⟩ := g_t16_1.at e107 u69 sz9
                  refine WD.hd (v := .pointer (some ⟨b107, o107, none⟩)) rfl rfl rfl rfl (fun _ _ _ _ _ => side_no) (fun ids H' fr => opD_indexAddr rfl (evV_eq _ _ _ _ _ rfl) (evV_eq _ _ _ _ _ rfl) (i107 _)) rfl ?_
                  refine WD.hd (v := .string (bs t107)) rfl rfl rfl rfl (fun _ _ _ _ _ => side_no) (fun ids H' fr => opD_load rfl (evV_eq _ _ _ _ _ rfl) ((p107.mono (Nat.zero_le _) (fr.abv.le (Nat.zero_le _))).load (d := 0) ag9 rfl)) rfl ?_
                  obtain ⟨s109, e109, hp⟩ := bindS hp
                  refine WD.hd (v := .string (bs s109)) rfl rfl rfl rfl (fun _ _ _ _ _ => side_no) (fun ids H' fr => opD_bin rfl (evV_eq _ _ _ _ _ rfl) (evV_eq _ _ _ _ _ rfl) (bin_sadd e109)) rfl ?_
                  obtain ⟨s110, e110, hp⟩ := bindS hp
                  refine WD.hd (v := .string (bs s110)) rfl rfl rfl rfl (fun _ _ _ _ _ => side_no) (fun ids H' fr => opD_bin rfl (evV_eq _ _ _ _ _ rfl) (evV_eq _ _ _ _ _ rfl) (bin_sadd e110)) rfl ?_
                  obtain ⟨t112, e112, hp⟩ := bindS hp
                  obtain ⟨b112, o112, cs112, i112, rfl, p112⟩ := g_t16_1.at e112 u69 sz9
                  refine WD.hd (v := .pointer (some ⟨b112, o112, none⟩)) rfl rfl rfl rfl (fun _ _ _ _ _ => side_no) (fun ids H' fr => opD_indexAddr rfl (evV_eq _ _ _ _ _ rfl) (evV_eq _ _ _ _ _ rfl) (i112 _)) rfl ?_
                  refine WD.hd (v := .string (bs t112)) rfl rfl rfl rfl (fun _ _ _ _ _ => side_no) (fun ids H' fr => opD_load rfl (evV_eq _ _ _ _ _ rfl) ((p112.mono (Nat.zero_le _) (fr.abv.le (Nat.zero_le _))).load (d := 0) ag9 rfl)) rfl ?_
                  obtain ⟨s114, e114, hp⟩ := bindS hp
                  refine WD.hd (v := .string (bs s114)) rfl rfl rfl rfl (fun _ _ _ _ _ => side_no) (fun ids H' fr => opD_bin rfl (evV_eq _ _ _ _ _ rfl) (evV_eq _ _ _ _ _ rfl) (bin_sadd e114)) rfl ?_
                  refine WD.done rfl ?_
                  exact WJ.goto 1 (j14 (v1_0_18, t94, 0, t97, s114) hp) rfl rfl (by exact ⟨rfl, rfl, rfl, rfl, trivial⟩) rfl rfl rfl
                · obtain ⟨b101, e101, hp⟩ := bindS hp
                  refine WJ.hd (v := .int .u8 ((b101.toNat : Nat) : Int)) 202 rfl rfl rfl rfl (fun ids H' fr => opD_index rfl (evV_eq _ _ _ _ _ rfl) (evV_eq _ _ _ _ _ rfl) (sidx us9 e101)) rfl ?_
                  refine WJ.ci 200 hp rfl rfl rfl rfl rfl rfl rfl rfl rfl (fun hc102 hp => ?_) (fun hc102 hp => ?_)
                  · exact WJ.goto 6 (j18 2 hp) rfl rfl (by exact ⟨rfl, rfl, rfl, rfl, rfl, trivial⟩) rfl rfl rfl
                  · exact WJ.goto 3 (j18 1 hp) rfl rfl (by exact ⟨rfl, rfl, rfl, rfl, rfl, trivial⟩) rfl rfl rfl
              · exact WJ.goto 6 (j14 (0, 0, 0, 0, ([] : List UInt8)) hp) rfl rfl (by exact ⟨rfl, rfl, rfl, rfl, trivial⟩) rfl rfl rfl
            · exact WJ.goto 11 (j14 (0, 0, 0, 0, ([] : List UInt8)) hp) rfl rfl (by exact ⟨rfl, rfl, rfl, rfl, trivial⟩) rfl rfl rfl
      · refine WJ.ci 211 hp rfl rfl rfl rfl rfl rfl (opD_streq rfl rfl rfl) rfl rfl (fun hc83 hp => ?_) (fun hc83 hp => ?_)
        · refine WJ.ci 207 hp rfl rfl rfl rfl rfl rfl rfl rfl rfl (fun hc91 hp => ?_) (fun hc91 hp => ?_)
          · refine WJ.dr 205 rfl gmix (by kernel_rfl) (by kernel_rfl) rfl ?_
            obtain ⟨t94, e94, hp⟩ := bindS hp
            refine WD.ownAddr (enc := iE) (sz := 1) 0 (fun _ => rfl) rfl rfl e94 (fun b94 hb94 => ?_)
            refine WD.hd (v := .pointer (some ⟨b94, (0 : Int).toNat * 1, none⟩)) rfl rfl rfl rfl (fun _ _ _ _ _ => side_no) (fun ids H' fr => opD_indexAddr rfl (evV_eq _ _ _ _ _ rfl) (evV_eq _ _ _ _ _ rfl) (ownIdx hb94 e94 u53 sz3)) rfl ?_
            refine WD.hd (v := .int .i64 t94) rfl rfl rfl rfl (fun _ _ _ _ _ => side_no) (fun ids H' fr => opD_load rfl (evV_eq _ _ _ _ _ rfl) ((fr.ownEl (enc := iE) (sz := 1) (j := 0) (fun _ => rfl) rfl hb94 e94).load (d := 0) ag3 rfl)) rfl ?_
            obtain ⟨t97, e97, hp⟩ := bindS hp
            refine WD.ownAddr (enc := iE) (sz := 1) 0 (fun _ => rfl) rfl rfl e97 (fun b97 hb97 => ?_)
            refine WD.hd (v := .pointer (some ⟨b97, (1 : Int).toNat * 1, none⟩)) rfl rfl rfl rfl (fun _ _ _ _ _ => side_no) (fun ids H' fr => opD_indexAddr rfl (evV_eq _ _ _ _ _ rfl) (evV_eq _ _ _ _ _ rfl) (ownIdx hb97 e97 u53 sz3)) rfl ?_
            refine WD.hd (v := .int .i64 t97) rfl rfl rfl rfl (fun _ _ _ _ _ => side_no) (fun ids H' fr => opD_load rfl (evV_eq _ _ _ _ _ rfl) ((fr.ownEl (enc := iE) (sz := 1) (j := 0) (fun _ => rfl) rfl hb97 e97).load (d := 0) ag3 rfl)) rfl ?_
            refine WD.done rfl ?_
            refine WJ.adv 2 rfl ?_
            obtain ⟨K20, hK20, hp⟩ : ∃ K, K = _ ∧ Option.bind _ K = some r := ⟨_, rfl, cutS hp⟩
            refine WJ.cut 2 (α := Int) (fun y => [(0, .v (.string (bs x0))), (2, .p 0 0), (4, .v (.string (bs t16_0))), (5, .v (.slice a_t16_1 t16_1.length c_t16_1)), (11, .p 1 0)]) (fun y => [[.int .i64 0, .int .i64 0, .int .i64 0, .int .i64 0], [.int .i64 y, .int .i64 t94, .int .i64 0, .int .i64 t97]]) (fun y => [⟨a0_9, c0_9, 1, encL iE l0_9⟩]) (fun y => B5) (fun y => K20 ((y)) = some r) ?_ (fun j20 => ?_)
            · rintro v1_0_20 hp
              subst hK20
              show WJ _ _ _ B5 [⟨a0_9, c0_9, 1, encL iE l0_9⟩] _ _ ⟨[(0, .v (.string (bs x0))), (2, .p 0 0), (4, .v (.string (bs t16_0))), (5, .v (.slice a_t16_1 t16_1.length c_t16_1)), (11, .p 1 0)], [[.int .i64 0, .int .i64 0, .int .i64 0, .int .i64 0], [.int .i64 v1_0_20, .int .i64 t94, .int .i64 0, .int .i64 t97]], true, 0⟩
              refine WJ.dr 200 rfl gmix (by kernel_rfl) (by kernel_rfl) rfl ?_
              obtain ⟨s105, e105, hp⟩ := bindS hp
              refine WD.hd (v := .string (bs s105)) rfl rfl rfl rfl (fun _ _ _ _ _ => side_no) (fun ids H' fr => opD_sh rfl (evV_eq _ _ _ _ _ rfl) (evV_eq _ _ _ _ _ rfl) (sliceD_h us9 e105)) rfl ?_
              obtain ⟨t107, e107, hp⟩ := bindS hp
              obtain ⟨b107, o107, cs107, i107, rfl, p107⟩ := g_t16_1.at e107 u69 sz9
              refine WD.hd (v := .pointer (some ⟨b107, o107, none⟩)) rfl rfl rfl rfl (fun _ _ _ _ _ => side_no) (fun ids H' fr => opD_indexAddr rfl (evV_eq _ _ _ _ _ rfl) (evV_eq _ _ _ _ _ rfl) (i107 _)) rfl ?_
              refine WD.hd (v := .string (bs t107)) rfl rfl rfl rfl (fun _ _ _ _ _ => side_no) (fun ids H' fr => opD_load rfl (evV_eq _ _ _ _ _ rfl) ((p107.mono (Nat.zero_le _) (fr.abv.le (Nat.zero_le _))).load (d := 0) ag9 rfl)) rfl ?_
              obtain ⟨s109, e109, hp⟩ := bindS hp
              refine WD.hd (v := .string (bs s109)) rfl rfl rfl rfl (fun _ _ _ _ _ => side_no) (fun ids H' fr => opD_bin rfl (evV_eq _ _ _ _ _ rfl) (evV_eq _ _ _ _ _ rfl) (bin_sadd e109)) rfl ?_
              obtain ⟨s110, e110, hp⟩ := bindS hp
              refine WD.hd (v := .string (bs s110)) rfl rfl rfl rfl (fun _ _ _ _ _ => side_no) (fun ids H' fr => opD_bin rfl (evV_eq _ _ _ _ _ rfl) (evV_eq _ _ _ _ _ rfl) (bin_sadd e110)) rfl ?_
              obtain ⟨t112, e112, hp⟩ := bindS hp
              obtain ⟨b112, o112, cs112, i112, rfl, p112⟩ := g_t16_1.at e112 u69 sz9
              refine WD.hd (v := .pointer (some ⟨b112, o112, none⟩)) rfl rfl rfl rfl (fun _ _ _ _ _ => side_no) (fun ids H' fr => opD_indexAddr rfl (evV_eq _ _ _ _ _ rfl) (evV_eq _ _ _ _ _ rfl) (i112 _)) rfl ?_
              refine WD.hd (v := .string (bs t112)) rfl rfl rfl rfl (fun _ _ _ _ _ => side_no) (fun ids H' fr => opD_load rfl (evV_eq _ _ _ _ _ rfl) ((p112.mono (Nat.zero_le _) (fr.abv.le (Nat.zero_le _))).load (d := 0) ag9 rfl)) rfl ?_
              obtain ⟨s114, e114, hp⟩ := bindS hp
              refine WD.hd (v := .string (bs s114)) rfl rfl rfl rfl (fun _ _ _ _ _ => side_no) (fun ids H' fr => opD_bin rfl (evV_eq _ _ _ _ _ rfl) (evV_eq _ _ _ _ _ rfl) (bin_sadd e114)) rfl ?_
              refine WD.done rfl ?_
              exact WJ.goto 1 (j14 (v1_0_20, t94, 0, t97, s114) hp) rfl rfl (by exact ⟨rfl, rfl, rfl, rfl, trivial⟩) rfl rfl rfl
            · obtain ⟨b101, e101, hp⟩ := bindS hp
              refine WJ.hd (v := .int .u8 ((b101.toNat : Nat) : Int)) 202 rfl rfl rfl rfl (fun ids H' fr => opD_index rfl (evV_eq _ _ _ _ _ rfl) (evV_eq _ _ _ _ _ rfl) (sidx us9 e101)) rfl ?_
              refine WJ.ci 200 hp rfl rfl rfl rfl rfl rfl rfl rfl rfl (fun hc102 hp => ?_) (fun hc102 hp => ?_)
              · exact WJ.goto 6 (j20 2 hp) rfl rfl (by exact ⟨rfl, rfl, rfl, rfl, rfl, trivial⟩) rfl rfl rfl
              · exact WJ.goto 3 (j20 1 hp) rfl rfl (by exact ⟨rfl, rfl, rfl, rfl, rfl, trivial⟩) rfl rfl rfl
          · exact WJ.goto 6 (j14 (0, 0, 0, 0, ([] : List UInt8)) hp) rfl rfl (by exact ⟨rfl, rfl, rfl, rfl, trivial⟩) rfl rfl rfl
        · refine WJ.ci 202 hp rfl rfl rfl rfl rfl rfl (opD_streq rfl rfl rfl) rfl rfl (fun hc86 hp => ?_) (fun hc86 hp => ?_)
          · refine WJ.ci 204 hp rfl rfl rfl rfl rfl rfl rfl rfl rfl (fun hc91 hp => ?_) (fun hc91 hp => ?_)
            · refine WJ.dr 205 rfl gmix (by kernel_rfl) (by kernel_rfl) rfl ?_
              obtain ⟨t94, e94, hp⟩ := bindS hp
              refine WD.ownAddr (enc := iE) (sz := 1) 0 (fun _ => rfl) rfl rfl e94 (fun b94 hb94 => ?_)
              refine WD.hd (v := .pointer (some ⟨b94, (0 : Int).toNat * 1, none⟩)) rfl rfl rfl rfl (fun _ _ _ _ _ => side_no) (fun ids H' fr => opD_indexAddr rfl (evV_eq _ _ _ _ _ rfl) (evV_eq _ _ _ _ _ rfl) (ownIdx hb94 e94 u53 sz3)) rfl ?_
              refine WD.hd (v := .int .i64 t94) rfl rfl rfl rfl (fun _ _ _ _ _ => side_no) (fun ids H' fr => opD_load rfl (evV_eq _ _ _ _ _ rfl) ((fr.ownEl (enc := iE) (sz := 1) (j := 0) (fun _ => rfl) rfl hb94 e94).load (d := 0) ag3 rfl)) rfl ?_
              obtain ⟨t97, e97, hp⟩ := bindS hp
              refine WD.ownAddr (enc := iE) (sz := 1) 0 (fun _ => rfl) rfl rfl e97 (fun b97 hb97 => ?_)
              refine WD.hd (v := .pointer (some ⟨b97, (1 : Int).toNat * 1, none⟩)) rfl rfl rfl rfl (fun _ _ _ _ _ => side_no) (fun ids H' fr => opD_indexAddr rfl (evV_eq _ _ _ _ _ rfl) (evV_eq _ _ _ _ _ rfl) (ownIdx hb97 e97 u53 sz3)) rfl ?_
              refine WD.hd (v := .int .i64 t97) rfl rfl rfl rfl (fun _ _ _ _ _ => side_no) (fun ids H' fr => opD_load rfl (evV_eq _ _ _ _ _ rfl) ((fr.ownEl (enc := iE) (sz := 1) (j := 0) (fun _ => rfl) rfl hb97 e97).load (d := 0) ag3 rfl)) rfl ?_
              refine WD.done rfl ?_
              refine WJ.adv 2 rfl ?_
              obtain ⟨K22, hK22, hp⟩ : ∃ K, K = _ ∧ Option.bind _ K = some r := ⟨_, rfl, cutS hp⟩
              refine WJ.cut 2 (α := Int) (fun y => [(0, .v (.string (bs x0))), (2, .p 0 0), (4, .v (.string (bs t16_0))), (5, .v (.slice a_t16_1 t16_1.length c_t16_1)), (11, .p 1 0)]) (fun y => [[.int .i64 0, .int .i64 0, .int .i64 0, .int .i64 0], [.int .i64 y, .int .i64 t94, .int .i64 0, .int .i64 t97]]) (fun y => [⟨a0_9, c0_9, 1, encL iE l0_9⟩]) (fun y => B5) (fun y => K22 ((y)) = some r) ?_ (fun j22 => ?_)
              · rintro v1_0_22 hp
                subst hK22
                show WJ _ _ _ B5 [⟨a0_9, c0_9, 1, encL iE l0_9⟩] _ _ ⟨[(0, .v (.string (bs x0))), (2, .p 0 0), (4, .v (.string (bs t16_0))), (5, .v (.slice a_t16_1 t16_1.length c_t16_1)), (11, .p 1 0)], [[.int .i64 0, .int .i64 0, .int .i64 0, .int .i64 0], [.int .i64 v1_0_22, .int .i64 t94, .int .i64 0, .int .i64 t97]], true, 0⟩
                refine WJ.dr 200 rfl gmix (by kernel_rfl) (by kernel_rfl) rfl ?_
                obtain ⟨s105, e105, hp⟩ := bindS hp
                refine WD.hd (v := .string (bs s105)) rfl rfl rfl rfl (fun _ _ _ _ _ => side_no) (fun ids H' fr => opD_sh rfl (evV_eq _ _ _ _ _ rfl) (evV_eq _ _ _ _ _ rfl) (sliceD_h us9 e105)) rfl ?_
                obtain ⟨t107, e107, hp⟩ := bindS hp
                obtain ⟨b107, o107, cs107, i107, rfl, p107⟩ := g_t16_1.at e107 u69 sz9
                refine WD.hd (v := .pointer (some ⟨b107, o107, none⟩)) rfl rfl rfl rfl (fun _ _ _ _ _ => side_no) (fun ids H' fr => opD_indexAddr rfl (evV_eq _ _ _ _ _ rfl) (evV_eq _ _ _ _ _ rfl) (i107 _)) rfl ?_
                refine WD.hd (v := .string (bs t107)) rfl rfl rfl rfl (fun _ _ _ _ _ => side_no) (fun ids H' fr => opD_load rfl (evV_eq _ _ _ _ _ rfl) ((p107.mono (Nat.zero_le _) (fr.abv.le (Nat.zero_le _))).load (d := 0) ag9 rfl)) rfl ?_
                obtain ⟨s109, e109, hp⟩ := bindS hp
                refine WD.hd (v := .string (bs s109)) rfl rfl rfl rfl (fun _ _ _ _ _ => side_no) (fun ids H' fr => opD_bin rfl (evV_eq _ _ _ _ _ rfl) (evV_eq _ _ _ _ _ rfl) (bin_sadd e109)) rfl ?_
                obtain ⟨s110, e110, hp⟩ := bindS hp
                refine WD.hd (v := .string (bs s110)) rfl rfl rfl rfl (fun _ _ _ _ _ => side_no) (fun ids H' fr => opD_bin rfl (evV_eq _ _ _ _ _ rfl) (evV_eq _ _ _ _ _ rfl) (bin_sadd e110)) rfl ?_
                obtain ⟨t112, e112, hp⟩ := bindS hp
                obtain ⟨b112, o112, cs112, i112, rfl, p112⟩ := g_t16_1.at e112 u69 sz9
                refine WD.hd (v := .pointer (some ⟨b112, o112, none⟩)) rfl rfl rfl rfl (fun _ _ _ _ _ => side_no) (fun ids H' fr => opD_indexAddr rfl (evV_eq _ _ _ _ _ rfl) (evV_eq _ _ _ _ _ rfl) (i112 _)) rfl ?_
                refine WD.hd (v := .string (bs t112)) rfl rfl rfl rfl (fun _ _ _ _ _ => side_no) (fun ids H' fr => opD_load rfl (evV_eq _ _ _ _ _ rfl) ((p112.mono (Nat.zero_le _) (fr.abv.le (Nat.zero_le _))).load (d := 0) ag9 rfl)) rfl ?_
                obtain ⟨s114, e114, hp⟩ := bindS hp
                refine WD.hd (v := .string (bs s114)) rfl rfl rfl rfl (fun _ _ _ _ _ => side_no) (fun ids H' fr => opD_bin rfl (evV_eq _ _ _ _ _ rfl) (evV_eq _ _ _ _ _ rfl) (bin_sadd e114)) rfl ?_
                refine WD.done rfl ?_
                exact WJ.goto 1 (j14 (v1_0_22, t94, 0, t97, s114) hp) rfl rfl (by exact ⟨rfl, rfl, rfl, rfl, trivial⟩) rfl rfl rfl
              · obtain ⟨b101, e101, hp⟩ := bindS hp
                refine WJ.hd (v := .int .u8 ((b101.toNat : Nat) : Int)) 202 rfl rfl rfl rfl (fun ids H' fr => opD_index rfl (evV_eq _ _ _ _ _ rfl) (evV_eq _ _ _ _ _ rfl) (sidx us9 e101)) rfl ?_
                refine WJ.ci 200 hp rfl rfl rfl rfl rfl rfl rfl rfl rfl (fun hc102 hp => ?_) (fun hc102 hp => ?_)
                · exact WJ.goto 6 (j22 2 hp) rfl rfl (by exact ⟨rfl, rfl, rfl, rfl, rfl, trivial⟩) rfl rfl rfl
                · exact WJ.goto 3 (j22 1 hp) rfl rfl (by exact ⟨rfl, rfl, rfl, rfl, rfl, trivial⟩) rfl rfl rfl
            · exact WJ.goto 6 (j14 (0, 0, 0, 0, ([] : List UInt8)) hp) rfl rfl (by exact ⟨rfl, rfl, rfl, rfl, trivial⟩) rfl rfl rfl
          · exact WJ.goto 11 (j14 (0, 0, 0, 0, ([] : List UInt8)) hp) rfl rfl (by exact ⟨rfl, rfl, rfl, rfl, trivial⟩) rfl rfl rfl
  · refine WJ.lp 200 (α := Nat × (List Int) × Int × (Option Addr) × Nat × Hp) (fun y => [(0, .v (.string (bs x0))), (2, .p 0 0), (4, .v (.string (bs t16_0))), (5, .v (.slice a_t16_1 t16_1.length c_t16_1)), (6, .v (.slice y.2.2.2.1 y.2.1.length y.2.2.2.2.1)), (19, .v (.slice a_t16_1 t16_1.length c_t16_1)), (20, .v (.int .i64 ((t16_1.length : Nat) : Int))), (21, .v (.int .i64 y.2.2.1))]) (fun y => [[.int .i64 0, .int .i64 0, .int .i64 0, .int .i64 0]]) (fun y => [⟨y.2.2.2.1, y.2.2.2.2.1, 1, encL iE y.2.1⟩]) (fun y => y.2.2.2.2.2) (fun y => y.1) (fun y => Option.bind (f17_l1 t16_1 y.1 y.2.1 y.2.2.1) K9 = some r ∧ SlF H.next y.2.2.2.2.2 strC a_t16_1 c_t16_1 t16_1) (k, ([] : List Int), 0, none, 0, B1) rfl ⟨hp, g_t16_1⟩ (by exact ⟨rfl, rfl, rfl, rfl, rfl, rfl, rfl, rfl, trivial⟩) rfl rfl rfl ?_
    rintro ⟨n, l0, x21, a0, c0, B2⟩ ⟨hp, g_t16_1⟩ ih9
    show WJ _ _ _ B2 [⟨a0, c0, 1, encL iE l0⟩] _ _ ⟨[(0, .v (.string (bs x0))), (2, .p 0 0), (4, .v (.string (bs t16_0))), (5, .v (.slice a_t16_1 t16_1.length c_t16_1)), (6, .v (.slice a0 l0.length c0)), (19, .v (.slice a_t16_1 t16_1.length c_t16_1)), (20, .v (.int .i64 ((t16_1.length : Nat) : Int))), (21, .v (.int .i64 x21))], [[.int .i64 0, .int .i64 0, .int .i64 0, .int .i64 0]], true, 0⟩
    replace hp : Option.bind (f17_l1 t16_1 n l0 x21) K9 = some r := hp
    cases n with
    | zero => rw [f17_l1] at hp; exact (noS hp).elim
    | succ n =>
      rw [f17_l1] at hp
      obtain ⟨t22, e22, hp⟩ := bindS hp
      refine WJ.cv 202 (b := t22) (H0 := ⟨.nil, 0, 0⟩) rfl rfl rfl rfl rfl rfl (by rw [← endS e22]; exact rfl) rfl ?_
      cases t22
      · replace hp := (itS hp).2 Bool.false_ne_true
        exact WJ.goto 4 (j9 (l0, a0, c0, B2) ⟨hp, g_t16_1⟩) rfl rfl (by exact ⟨rfl, rfl, rfl, rfl, rfl, trivial⟩) rfl rfl rfl
      · replace hp := (itS hp).1 rfl
        obtain ⟨t23, e23, hp⟩ := bindS hp
        obtain ⟨b23, o23, cs23, i23, rfl, p23⟩ := g_t16_1.at e23 u69 sz9
        refine WJ.hd (v := .pointer (some ⟨b23, o23, none⟩)) 208 rfl rfl rfl rfl (fun ids H' fr => opD_indexAddr rfl (evV_eq _ _ _ _ _ rfl) (evV_eq _ _ _ _ _ rfl) (i23 _)) rfl ?_
        refine WJ.hd (v := .string (bs t23)) 200 rfl rfl rfl rfl (fun ids H' fr => opD_load rfl (evV_eq _ _ _ _ _ rfl) ((p23.mono (Nat.zero_le _) (fr.abv.le (Nat.zero_le _))).load (d := 0) ag9 rfl)) rfl ?_
        obtain ⟨⟨t27_0, t27_1⟩, e27, hp⟩ := bindS hp
        refine WJ.cl 205 (R := R_3_73 ⟨t27_0, t27_1⟩) (fun hm h k => R_3_73.mono hm h k) rfl (fun ids H' fr => f49_ok e27) ?_
        rintro v B3 ⟨abB3, ivB3⟩ ⟨y27, rfl, hy27⟩
        refine ⟨_, rfl, ?_⟩
        replace g_t16_1 := g_t16_1.mono (Nat.le_refl _) (abB3.le (Nat.zero_le _))
        replace p23 := p23.mono (Nat.le_refl _) (abB3.le (Nat.zero_le _))
        cases t27_1
        · replace hp := (itS hp).2 Bool.false_ne_true
          obtain ⟨ty27, z27, rfl⟩ : ∃ t z, y27 = .iface t z := hy27
          refine WJ.cv 210 (b := true) (H0 := ⟨.nil, 0, 0⟩) rfl rfl rfl rfl rfl rfl (opD_ifN rfl rfl rfl ui73) rfl ?_
          subst hK9
          obtain rfl := endS (show some _ = some r from hp)
          exact WJ.rt 219 rfl rfl rfl (fun ids H' fr => ⟨fr.ext0, rfl⟩)
        · replace hp := (itS hp).1 rfl
          obtain rfl : y27 = .nilIface := hy27
          refine WJ.cv 210 (b := false) (H0 := ⟨.nil, 0, 0⟩) rfl rfl rfl rfl rfl rfl (opD_nnN rfl rfl rfl ui73) rfl ?_
          refine WJ.ci 203 hp rfl rfl rfl rfl rfl rfl rfl rfl rfl (fun hc35 hp => ?_) (fun hc35 hp => ?_)
          · subst hK9
            obtain rfl := endS (show some _ = some r from hp)
            exact WJ.rt 215 rfl rfl rfl (fun ids H' fr => ⟨fr.ext0, rfl⟩)
          · obtain ⟨t39, e39, hp⟩ := bindS hp
            refine WJ.cl 203 (R := R_9 t39) (fun hm h k => R_9.mono hm h k) rfl (fun ids H' fr => f50_ok e39) ?_
            rintro v B4 ⟨abB4, ivB4⟩ rfl
            refine ⟨_, rfl, ?_⟩
            replace g_t16_1 := g_t16_1.mono (Nat.le_refl _) (abB4.le (Nat.zero_le _))
            replace p23 := p23.mono (Nat.le_refl _) (abB4.le (Nat.zero_le _))
            refine WJ.cn 201 hp rfl rfl rfl rfl rfl rfl (opD_strne rfl rfl rfl) rfl rfl (fun hc41 hp => ?_) (fun hc41 hp => ?_)
            · subst hK9
              obtain rfl := endS (show some _ = some r from hp)
              exact WJ.rt 209 rfl rfl rfl (fun ids H' fr => ⟨fr.ext0, rfl⟩)
            · refine WJ.bs (cs := encL iE [t27_0]) (sz := 1) (pl := [(0, .int .i64 t27_0)]) 207 rfl rfl rfl rfl rfl (fun _ _ => rfl) (fun _ => by rfl) rfl rfl ?_
              intro b46
              refine ⟨_, rfl, ?_⟩
              obtain ⟨l47, e47, hp⟩ := bindS hp
              obtain ⟨bd47, rfl⟩ := apd_some e47
              refine WJ.ap (L := l0) (L2 := [t27_0]) 200 0 rfl rfl rfl rfl rfl rfl rfl rfl (el53 rfl) rfl (fun _ => rfl) (fun _ => rfl) rfl (fun ids H' fr => fr.srcOwn (enc := iE) (sz := 1) (j := 1) (fun _ => rfl) (by decide) rfl) bd47 ?_
              intro a47 c47
              refine ⟨_, rfl, ?_⟩
              refine WJ.pop [⟨a47, c47, 1, encL iE (l0 ++ ([t27_0]))⟩] rfl ?_
              exact WJ.ag 207 rfl (by exact ⟨rfl, rfl, rfl, rfl, rfl, rfl, rfl, rfl, trivial⟩) rfl rfl rfl (ih9 (n, (l0 ++ ([t27_0])), IntKind.i64.wrap (x21 + 1), a47, c47, B4) ⟨hp, g_t16_1⟩ (Nat.lt_succ_self _))
/-! 24 tipstaff/call.Serves -/
def f24 (x0 : CallT) (x1 : Int) (x2 : Int) : Option (Bool × Int) :=
  (f27 (CallT.mk x0.Kind x0.Floor x0.Car x0.At)).bind fun t10 =>
  if t10 = 0 then
    if x1 < 0 then
      some (false, 2)
    else
      if x1 ≥ 64 then
        some (false, 2)
      else
        if x2 < 1 then
          some (false, 2)
        else
          if x2 > 8 then
            some (false, 2)
          else
            if x0.Floor = x1 then
              if x0.Kind = 3 then
                (some (x0.Car == x2)).bind fun t40 =>
                some (t40, 0)
              else
                some (true, 0)
            else
              some (false, 0)
  else
    some (false, t10)
set_option maxRecDepth 20000 in
theorem f24_ok {H : Hp} {x0 : CallT} {x1 : Int} {x2 : Int} {r : Bool × Int} (hp : f24 x0 x1 x2 = some r) :
    SCall Tryd.prog 24 [.agg ⟨[.int .i64 x0.Kind, .int .i64 x0.Floor, .int .i64 x0.Car, .int .i64 x0.At]⟩, .int .i64 x1, .int .i64 x2] H (Ret fun v H' => Ext H H' ∧ R_4_25 r H.next H' v) := by
  obtain ⟨x0_Kind, x0_Floor, x0_Car, x0_At⟩ := x0
  unfold f24 at hp
  replace hp := topS hp
  refine SCall.g Tryd.func24 rfl rfl rfl rfl rfl (l := [(0, .v (.agg ⟨[.int .i64 x0_Kind, .int .i64 x0_Floor, .int .i64 x0_Car, .int .i64 x0_At]⟩)), (1, .v (.int .i64 x1)), (2, .v (.int .i64 x2))]) (fun _ => rfl) (fun B abB => ?_)
  obtain ⟨t10, e10, hp⟩ := bindS hp
  refine WJ.cl 210 (R := R_25 t10) (fun hm h k => R_25.mono hm h k) rfl (fun ids H' fr => f27_ok (x0 := (CallT.mk x0_Kind x0_Floor x0_Car x0_At)) e10) ?_
  rintro v B1 ⟨abB1, ivB1⟩ rfl
  refine ⟨_, rfl, ?_⟩
  refine WJ.cn 205 hp rfl rfl rfl rfl rfl rfl rfl rfl rfl (fun hc12 hp => ?_) (fun hc12 hp => ?_)
  · obtain rfl := endS (show some _ = some r from hp)
    exact WJ.rt 208 rfl rfl rfl (fun ids H' fr => ⟨fr.ext0, rfl⟩)
  · refine WJ.ci 207 hp rfl rfl rfl rfl rfl rfl rfl rfl rfl (fun hc15 hp => ?_) (fun hc15 hp => ?_)
    · obtain rfl := endS (show some _ = some r from hp)
      exact WJ.rt 219 rfl rfl rfl (fun ids H' fr => ⟨fr.ext0, rfl⟩)
    · refine WJ.ci 202 hp rfl rfl rfl rfl rfl rfl rfl rfl rfl (fun hc18 hp => ?_) (fun hc18 hp => ?_)
      · obtain rfl := endS (show some _ = some r from hp)
        exact WJ.rt 216 rfl rfl rfl (fun ids H' fr => ⟨fr.ext0, rfl⟩)
      · refine WJ.ci 203 hp rfl rfl rfl rfl rfl rfl rfl rfl rfl (fun hc22 hp => ?_) (fun hc22 hp => ?_)
        · obtain rfl := endS (show some _ = some r from hp)
          exact WJ.rt 212 rfl rfl rfl (fun ids H' fr => ⟨fr.ext0, rfl⟩)
        · refine WJ.ci 203 hp rfl rfl rfl rfl rfl rfl rfl rfl rfl (fun hc26 hp => ?_) (fun hc26 hp => ?_)
          · obtain rfl := endS (show some _ = some r from hp)
            exact WJ.rt 208 rfl rfl rfl (fun ids H' fr => ⟨fr.ext0, rfl⟩)
          · refine WJ.ci 209 hp rfl rfl rfl rfl rfl rfl rfl rfl rfl (fun hc31 hp => ?_) (fun hc31 hp => ?_)
            · refine WJ.cn 203 hp rfl rfl rfl rfl rfl rfl rfl rfl rfl (fun hc35 hp => ?_) (fun hc35 hp => ?_)
              · obtain rfl := endS (show some _ = some r from hp)
                exact WJ.rt 210 rfl rfl rfl (fun ids H' fr => ⟨fr.ext0, rfl⟩)
              · obtain ⟨t40, e40, hp⟩ := bindS hp
                refine WJ.cv 204 (b := t40) (H0 := ⟨.nil, 0, 0⟩) rfl rfl rfl rfl rfl rfl (by rw [← endS e40]; exact rfl) rfl ?_
                obtain rfl := endS (show some _ = some r from hp)
                exact WJ.rt 205 rfl rfl rfl (fun ids H' fr => ⟨fr.ext0, rfl⟩)
            · obtain rfl := endS (show some _ = some r from hp)
              exact WJ.rt 214 rfl rfl rfl (fun ids H' fr => ⟨fr.ext0, rfl⟩)
/-! 25 tipstaff/call.Age -/
def f25 (x0 : CallT) (x1 : Int) : Option (Int × Int) :=
  (f27 (CallT.mk x0.Kind x0.Floor x0.Car x0.At)).bind fun t8 =>
  if t8 = 0 then
    if x1 < 0 then
      some (0, 2)
    else
      if x1 > 1099511627776 then
        some (0, 2)
      else
        if x1 < x0.At then
          some (0, 8)
        else
          some (IntKind.i64.wrap (x1 - x0.At), 0)
  else
    some (0, t8)
set_option maxRecDepth 20000 in
theorem f25_ok {H : Hp} {x0 : CallT} {x1 : Int} {r : Int × Int} (hp : f25 x0 x1 = some r) :
    SCall Tryd.prog 25 [.agg ⟨[.int .i64 x0.Kind, .int .i64 x0.Floor, .int .i64 x0.Car, .int .i64 x0.At]⟩, .int .i64 x1] H (Ret fun v H' => Ext H H' ∧ R_3_25 r H.next H' v) := by
  obtain ⟨x0_Kind, x0_Floor, x0_Car, x0_At⟩ := x0
  unfold f25 at hp
  replace hp := topS hp
  refine SCall.g Tryd.func25 rfl rfl rfl rfl rfl (l := [(0, .v (.agg ⟨[.int .i64 x0_Kind, .int .i64 x0_Floor, .int .i64 x0_Car, .int .i64 x0_At]⟩)), (1, .v (.int .i64 x1))]) (fun _ => rfl) (fun B abB => ?_)
  obtain ⟨t8, e8, hp⟩ := bindS hp
  refine WJ.cl 209 (R := R_25 t8) (fun hm h k => R_25.mono hm h k) rfl (fun ids H' fr => f27_ok (x0 := (CallT.mk x0_Kind x0_Floor x0_Car x0_At)) e8) ?_
  rintro v B1 ⟨abB1, ivB1⟩ rfl
  refine ⟨_, rfl, ?_⟩
  refine WJ.cn 207 hp rfl rfl rfl rfl rfl rfl rfl rfl rfl (fun hc11 hp => ?_) (fun hc11 hp => ?_)
  · obtain rfl := endS (show some _ = some r from hp)
    exact WJ.rt 209 rfl rfl rfl (fun ids H' fr => ⟨fr.ext0, rfl⟩)
  · refine WJ.ci 206 hp rfl rfl rfl rfl rfl rfl rfl rfl rfl (fun hc15 hp => ?_) (fun hc15 hp => ?_)
    · obtain rfl := endS (show some _ = some r from hp)
      exact WJ.rt 212 rfl rfl rfl (fun ids H' fr => ⟨fr.ext0, rfl⟩)
    · refine WJ.ci 202 hp rfl rfl rfl rfl rfl rfl rfl rfl rfl (fun hc18 hp => ?_) (fun hc18 hp => ?_)
      · obtain rfl := endS (show some _ = some r from hp)
        exact WJ.rt 209 rfl rfl rfl (fun ids H' fr => ⟨fr.ext0, rfl⟩)
      · refine WJ.ci 209 hp rfl rfl rfl rfl rfl rfl rfl rfl rfl (fun hc24 hp => ?_) (fun hc24 hp => ?_)
        · obtain rfl := endS (show some _ = some r from hp)
          exact WJ.rt 208 rfl rfl rfl (fun ids H' fr => ⟨fr.ext0, rfl⟩)
        · obtain rfl := endS (show some _ = some r from hp)
          exact WJ.rt 214 rfl rfl rfl (fun ids H' fr => ⟨fr.ext0, rfl⟩)
/-! 6 tipstaff/tipstafflaw20.CallTexts -/
def f6 (k : Nat) (x0 : Int) (x1 : Int) (x2 : Int) (x3 : Int) : Option Bool :=
  (f5).bind fun t25 =>
  (f28 x0).bind fun t27 =>
  (f28 x1).bind fun t29 =>
  (f29 (CallT.mk t27.Kind t27.Floor t27.Car t27.At)).bind fun (t32_0, t32_1) =>
  (f29 (CallT.mk t29.Kind t29.Floor t29.Car t29.At)).bind fun (t37_0, t37_1) =>
  (f17 k t32_0).bind fun (t42_0, t42_1) =>
  (f30 x2 8).bind fun t46 =>
  (f24 (CallT.mk t27.Kind t27.Floor t27.Car t27.At) t27.Floor (IntKind.i64.wrap (1 + t46))).bind fun (t53_0, t53_1) =>
  (f30 x3 1000).bind fun t59 =>
  (f25 (CallT.mk t27.Kind t27.Floor t27.Car t27.At) (IntKind.i64.wrap (t27.At + t59))).bind fun (t64_0, t64_1) =>
  (f25 (CallT.mk t27.Kind t27.Floor t27.Car t27.At) (IntKind.i64.wrap ((IntKind.i64.wrap (t27.At + t59)) + 1))).bind fun (t71_0, t71_1) =>
  if t32_1 = 0 then
    if t37_1 = 0 then
      if t42_1 = 0 then
        if t53_1 = 0 then
          if t64_1 = 0 then
            if t71_1 = 0 then
              if t71_0 = (IntKind.i64.wrap (t64_0 + 1)) then
                if t64_0 = (IntKind.i64.wrap ((IntKind.i64.wrap (t27.At + t59)) - t27.At)) then
                  if t25 then
                    if (CallT.mk t42_0.Kind t42_0.Floor t42_0.Car t42_0.At) = (CallT.mk t27.Kind t27.Floor t27.Car t27.At) then
                      (some (decide (t32_0 = t37_0))).bind fun t119 =>
                      (some (decide ((CallT.mk t27.Kind t27.Floor t27.Car t27.At) = (CallT.mk t29.Kind t29.Floor t29.Car t29.At)))).bind fun t122 =>
                      (some (t119 == t122)).bind fun t123 =>
                      if t123 then
                        if t27.Kind = 3 then
                          (some (t27.Car == (IntKind.i64.wrap (1 + t46)))).bind fun t134 =>
                          (some (t53_0 == t134)).bind fun t136 =>
                          some t136
                        else
                          (some (t53_0 == true)).bind fun t136 =>
                          some t136
                      else
                        some false
                    else
                      some false
                  else
                    some false
                else
                  some false
              else
                some false
            else
              some false
          else
            some false
        else
          some false
      else
        some false
    else
      some false
  else
    some false
set_option maxRecDepth 20000 in
theorem f6_ok {k : Nat} {H : Hp} {x0 : Int} {x1 : Int} {x2 : Int} {x3 : Int} {r : Bool} (hp : f6 k x0 x1 x2 x3 = some r) :
    SCall Tryd.prog 6 [.int .i64 x0, .int .i64 x1, .int .i64 x2, .int .i64 x3] H (Ret fun v H' => Ext H H' ∧ R_4 r H.next H' v) := by
  unfold f6 at hp
  replace hp := topS hp
  refine SCall.g Tryd.func6 rfl rfl rfl rfl rfl (l := [(0, .v (.int .i64 x0)), (1, .v (.int .i64 x1)), (2, .v (.int .i64 x2)), (3, .v (.int .i64 x3))]) (fun _ => rfl) (fun B abB => ?_)
  obtain ⟨t25, e25, hp⟩ := bindS hp
  refine WJ.cl 206 (R := R_4 t25) (fun hm h k => R_4.mono hm h k) rfl (fun ids H' fr => f5_ok e25) ?_
  rintro v B1 ⟨abB1, ivB1⟩ rfl
  refine ⟨_, rfl, ?_⟩
  obtain ⟨⟨t27_Kind, t27_Floor, t27_Car, t27_At⟩, e27, hp⟩ := bindS hp
  refine WJ.cl 205 (R := R_31 ⟨t27_Kind, t27_Floor, t27_Car, t27_At⟩) (fun hm h k => R_31.mono hm h k) rfl (fun ids H' fr => f28_ok e27) ?_
  rintro v B2 ⟨abB2, ivB2⟩ rfl
  refine ⟨_, rfl, ?_⟩
  obtain ⟨⟨t29_Kind, t29_Floor, t29_Car, t29_At⟩, e29, hp⟩ := bindS hp
  refine WJ.cl 201 (R := R_31 ⟨t29_Kind, t29_Floor, t29_Car, t29_At⟩) (fun hm h k => R_31.mono hm h k) rfl (fun ids H' fr => f28_ok e29) ?_
  rintro v B3 ⟨abB3, ivB3⟩ rfl
  refine ⟨_, rfl, ?_⟩
  obtain ⟨⟨t32_0, t32_1⟩, e32, hp⟩ := bindS hp
  refine WJ.cl 208 (R := R_9_25 ⟨t32_0, t32_1⟩) (fun hm h k => R_9_25.mono hm h k) rfl (fun ids H' fr => f29_ok (x0 := (CallT.mk t27_Kind t27_Floor t27_Car t27_At)) e32) ?_
  rintro v B4 ⟨abB4, ivB4⟩ rfl
  refine ⟨_, rfl, ?_⟩
  obtain ⟨⟨t37_0, t37_1⟩, e37, hp⟩ := bindS hp
  refine WJ.cl 209 (R := R_9_25 ⟨t37_0, t37_1⟩) (fun hm h k => R_9_25.mono hm h k) rfl (fun ids H' fr => f29_ok (x0 := (CallT.mk t29_Kind t29_Floor t29_Car t29_At)) e37) ?_
  rintro v B5 ⟨abB5, ivB5⟩ rfl
  refine ⟨_, rfl, ?_⟩
  obtain ⟨⟨⟨t42_0_Kind, t42_0_Floor, t42_0_Car, t42_0_At⟩, t42_1⟩, e42, hp⟩ := bindS hp
  refine WJ.cl 209 (R := R_31_25 ⟨⟨t42_0_Kind, t42_0_Floor, t42_0_Car, t42_0_At⟩, t42_1⟩) (fun hm h k => R_31_25.mono hm h k) rfl (fun ids H' fr => f17_ok e42) ?_
  rintro v B6 ⟨abB6, ivB6⟩ rfl
  refine ⟨_, rfl, ?_⟩
  obtain ⟨t46, e46, hp⟩ := bindS hp
  refine WJ.cl 210 (R := R_3 t46) (fun hm h k => R_3.mono hm h k) rfl (fun ids H' fr => f30_ok e46) ?_
  rintro v B7 ⟨abB7, ivB7⟩ rfl
  refine ⟨_, rfl, ?_⟩
  obtain ⟨⟨t53_0, t53_1⟩, e53, hp⟩ := bindS hp
  refine WJ.cl 209 (R := R_4_25 ⟨t53_0, t53_1⟩) (fun hm h k => R_4_25.mono hm h k) rfl (fun ids H' fr => f24_ok (x0 := (CallT.mk t27_Kind t27_Floor t27_Car t27_At)) e53) ?_
  rintro v B8 ⟨abB8, ivB8⟩ rfl
  refine ⟨_, rfl, ?_⟩
  refine WJ.drF 207 rfl gmix (by kernel_rfl) (by kernel_rfl) rfl (fun D9 eD9 abD9 => ?_)
  obtain ⟨t59, e59, hp⟩ := bindS hp
  refine WD.cl (R := R_3 t59) (fun hm h k => R_3.mono hm h k) rfl (fun ids H' fr => f30_ok e59) ?_
  rintro v B10 ⟨abB10, ivB10⟩ rfl
  refine ⟨_, rfl, ?_⟩
  refine WD.done rfl ?_
  obtain ⟨⟨t64_0, t64_1⟩, e64, hp⟩ := bindS hp
  refine WJ.cl 204 (R := R_3_25 ⟨t64_0, t64_1⟩) (fun hm h k => R_3_25.mono hm h k) rfl (fun ids H' fr => f25_ok (x0 := (CallT.mk t27_Kind t27_Floor t27_Car t27_At)) e64) ?_
  rintro v B11 ⟨abB11, ivB11⟩ rfl
  refine ⟨_, rfl, ?_⟩
  obtain ⟨⟨t71_0, t71_1⟩, e71, hp⟩ := bindS hp
  refine WJ.cl 211 (R := R_3_25 ⟨t71_0, t71_1⟩) (fun hm h k => R_3_25.mono hm h k) rfl (fun ids H' fr => f25_ok (x0 := (CallT.mk t27_Kind t27_Floor t27_Car t27_At)) e71) ?_
  rintro v B12 ⟨abB12, ivB12⟩ rfl
  refine ⟨_, rfl, ?_⟩
  refine WJ.cn 210 hp rfl rfl rfl rfl rfl rfl rfl rfl rfl (fun hc75 hp => ?_) (fun hc75 hp => ?_)
  · obtain rfl := endS (show some _ = some r from hp)
    exact WJ.rt 240 rfl rfl rfl (fun ids H' fr => ⟨fr.ext0, rfl⟩)
  · refine WJ.cn 202 hp rfl rfl rfl rfl rfl rfl rfl rfl rfl (fun hc78 hp => ?_) (fun hc78 hp => ?_)
    · obtain rfl := endS (show some _ = some r from hp)
      exact WJ.rt 237 rfl rfl rfl (fun ids H' fr => ⟨fr.ext0, rfl⟩)
    · refine WJ.cn 203 hp rfl rfl rfl rfl rfl rfl rfl rfl rfl (fun hc82 hp => ?_) (fun hc82 hp => ?_)
      · obtain rfl := endS (show some _ = some r from hp)
        exact WJ.rt 233 rfl rfl rfl (fun ids H' fr => ⟨fr.ext0, rfl⟩)
      · refine WJ.cn 203 hp rfl rfl rfl rfl rfl rfl rfl rfl rfl (fun hc86 hp => ?_) (fun hc86 hp => ?_)
        · obtain rfl := endS (show some _ = some r from hp)
          exact WJ.rt 229 rfl rfl rfl (fun ids H' fr => ⟨fr.ext0, rfl⟩)
        · refine WJ.cn 203 hp rfl rfl rfl rfl rfl rfl rfl rfl rfl (fun hc90 hp => ?_) (fun hc90 hp => ?_)
          · obtain rfl := endS (show some _ = some r from hp)
            exact WJ.rt 225 rfl rfl rfl (fun ids H' fr => ⟨fr.ext0, rfl⟩)
          · refine WJ.cn 203 hp rfl rfl rfl rfl rfl rfl rfl rfl rfl (fun hc94 hp => ?_) (fun hc94 hp => ?_)
            · obtain rfl := endS (show some _ = some r from hp)
              exact WJ.rt 221 rfl rfl rfl (fun ids H' fr => ⟨fr.ext0, rfl⟩)
            · refine WJ.cn 205 hp rfl rfl rfl rfl rfl rfl rfl rfl rfl (fun hc100 hp => ?_) (fun hc100 hp => ?_)
              · obtain rfl := endS (show some _ = some r from hp)
                exact WJ.rt 215 rfl rfl rfl (fun ids H' fr => ⟨fr.ext0, rfl⟩)
              · refine WJ.cn 207 hp rfl rfl rfl rfl rfl rfl rfl rfl rfl (fun hc108 hp => ?_) (fun hc108 hp => ?_)
                · obtain rfl := endS (show some _ = some r from hp)
                  exact WJ.rt 207 rfl rfl rfl (fun ids H' fr => ⟨fr.ext0, rfl⟩)
                · cases t25
                  · replace hp := (itS hp).2 Bool.false_ne_true
                    obtain rfl := endS (show some _ = some r from hp)
                    exact WJ.rt 236 rfl rfl rfl (fun ids H' fr => ⟨fr.ext0, rfl⟩)
                  · replace hp := (itS hp).1 rfl
                    refine WJ.ci 210 hp rfl rfl rfl rfl rfl rfl (opD_eqS rfl rfl rfl rfl gd31 (eq31 t42_0_Kind t42_0_Floor t42_0_Car t42_0_At t27_Kind t27_Floor t27_Car t27_At)) rfl rfl (fun hc114 hp => ?_) (fun hc114 hp => ?_)
                    · obtain ⟨t119, e119, hp⟩ := bindS hp
                      refine WJ.cv 204 (b := t119) (H0 := ⟨.nil, 0, 0⟩) rfl rfl rfl rfl rfl rfl (by rw [← endS e119]; exact (opD_streq rfl rfl rfl)) rfl ?_
                      obtain ⟨t122, e122, hp⟩ := bindS hp
                      refine WJ.cv 202 (b := t122) (H0 := ⟨.nil, 0, 0⟩) rfl rfl rfl rfl rfl rfl (by rw [← endS e122]; exact (opD_eqS rfl rfl rfl rfl gd31 (eq31 t27_Kind t27_Floor t27_Car t27_At t29_Kind t29_Floor t29_Car t29_At))) rfl ?_
                      obtain ⟨t123, e123, hp⟩ := bindS hp
                      refine WJ.cv 200 (b := t123) (H0 := ⟨.nil, 0, 0⟩) rfl rfl rfl rfl rfl rfl (by rw [← endS e123]; exact rfl) rfl ?_
                      cases t123
                      · replace hp := (itS hp).2 Bool.false_ne_true
                        obtain rfl := endS (show some _ = some r from hp)
                        exact WJ.rt 216 rfl rfl rfl (fun ids H' fr => ⟨fr.ext0, rfl⟩)
                      · replace hp := (itS hp).1 rfl
                        refine WJ.cn 205 hp rfl rfl rfl rfl rfl rfl rfl rfl rfl (fun hc129 hp => ?_) (fun hc129 hp => ?_)
                        · obtain ⟨t136, e136, hp⟩ := bindS hp
                          refine WJ.cv 206 (b := t136) (H0 := ⟨.nil, 0, 0⟩) rfl rfl rfl rfl rfl rfl (by rw [← endS e136]; exact rfl) rfl ?_
                          obtain rfl := endS (show some _ = some r from hp)
                          exact WJ.rt 203 rfl rfl rfl (fun ids H' fr => ⟨fr.ext0, rfl⟩)
                        · obtain ⟨t134, e134, hp⟩ := bindS hp
                          refine WJ.cv 204 (b := t134) (H0 := ⟨.nil, 0, 0⟩) rfl rfl rfl rfl rfl rfl (by rw [← endS e134]; exact rfl) rfl ?_
                          obtain ⟨t136, e136, hp⟩ := bindS hp
                          refine WJ.cv 201 (b := t136) (H0 := ⟨.nil, 0, 0⟩) rfl rfl rfl rfl rfl rfl (by rw [← endS e136]; exact rfl) rfl ?_
                          obtain rfl := endS (show some _ = some r from hp)
                          exact WJ.rt 203 rfl rfl rfl (fun ids H' fr => ⟨fr.ext0, rfl⟩)
                    · obtain rfl := endS (show some _ = some r from hp)
                      exact WJ.rt 225 rfl rfl rfl (fun ids H' fr => ⟨fr.ext0, rfl⟩)
/-! 51 tipstaff/tipstaffref20.number -/
def f51_l1 (x0 : List UInt8) : Nat → Int → Int → Option (Int × Int)
  | 0, _, _ => none
  | n + 1, x7, x8 =>
    if x7 < (x0.length : Int) then
      (rd x0 x7).bind fun b16 =>
      if ((b16.toNat : Nat) : Int) ≥ 48 then
        (rd x0 x7).bind fun b22 =>
        if ((b22.toNat : Nat) : Int) ≤ 57 then
          if x7 < 14 then
            (rd x0 x7).bind fun b33 =>
            f51_l1 x0 n (IntKind.i64.wrap (x7 + 1)) (IntKind.i64.wrap ((IntKind.i64.wrap (10 * x8)) + (IntKind.i64.wrap (IntKind.u8.wrap (((b33.toNat : Nat) : Int) - 48)))))
          else
            some ((x7, x8))
        else
          some ((x7, x8))
      else
        some ((x7, x8))
    else
      some ((x7, x8))

def f51 (k : Nat) (x0 : List UInt8) (x1 : Int) : Option (Int × (List UInt8) × Bool) :=
  (f51_l1 x0 k 0 0).bind fun (x7_23, x8_23) =>
    (if x7_23 = 0 then
      some (Sum.inl ((0, ([] : List UInt8), false) : Int × (List UInt8) × Bool))
    else
      if x7_23 > 13 then
        some (Sum.inl ((0, ([] : List UInt8), false) : Int × (List UInt8) × Bool))
      else
        if x7_23 > 1 then
          (rd x0 0).bind fun b50 =>
          if ((b50.toNat : Nat) : Int) = 48 then
            some (Sum.inl ((0, ([] : List UInt8), false) : Int × (List UInt8) × Bool))
          else
            some (Sum.inr ())
        else
          some (Sum.inr ())).bind fun s => match s with
      | .inl st => some st
      | .inr _ => 
        if x1 = 0 then
          (some (x7_23 == (x0.length : Int))).bind fun t60 =>
          some (x8_23, ([] : List UInt8), t60)
        else
          if x7_23 ≥ (x0.length : Int) then
            some (0, ([] : List UInt8), false)
          else
            (rd x0 x7_23).bind fun b68 =>
            if ((b68.toNat : Nat) : Int) = x1 then
              (sub x0 (IntKind.i64.wrap (x7_23 + 1)) (x0.length : Int)).bind fun s76 =>
              some (x8_23, s76, true)
            else
              some (0, ([] : List UInt8), false)
set_option maxRecDepth 20000 in
theorem f51_ok {k : Nat} {H : Hp} {x0 : List UInt8} {x1 : Int} {r : Int × (List UInt8) × Bool} (hp : f51 k x0 x1 = some r) :
    SCall Tryd.prog 51 [.string (bs x0), .int .u8 x1] H (Ret fun v H' => Ext H H' ∧ R_3_9_4 r H.next H' v) := by
  unfold f51 at hp
  replace hp := topS hp
  refine SCall.g Tryd.func51 rfl rfl rfl rfl rfl (l := [(0, .v (.string (bs x0))), (1, .v (.int .u8 x1))]) (fun _ => rfl) (fun B abB => ?_)
  refine WJ.adv 13 rfl ?_
  obtain ⟨K23, hK23, hp⟩ : ∃ K, K = _ ∧ Option.bind _ K = some r := ⟨_, rfl, cutS hp⟩
  refine WJ.cut 2 (α := Int × Int) (fun y => [(0, .v (.string (bs x0))), (1, .v (.int .u8 x1)), (7, .v (.int .i64 y.1)), (8, .v (.int .i64 y.2))]) (fun y => []) (fun y => []) (fun y => B) (fun y => K23 ((y.1, y.2)) = some r) ?_ (fun j23 => ?_)
  · rintro ⟨x7_23, x8_23⟩ hp
    subst hK23
    show WJ _ _ _ B [] _ _ ⟨[(0, .v (.string (bs x0))), (1, .v (.int .u8 x1)), (7, .v (.int .i64 x7_23)), (8, .v (.int .i64 x8_23))], [], true, 0⟩
    refine WJ.adv 2 rfl ?_
    obtain ⟨K24, hK24, hp⟩ : ∃ K, K = _ ∧ Option.bind _ K = some r := ⟨_, rfl, cutS hp⟩
    refine WJ.cut 2 (α := Unit) (fun y => [(0, .v (.string (bs x0))), (1, .v (.int .u8 x1)), (7, .v (.int .i64 x7_23)), (8, .v (.int .i64 x8_23))]) (fun y => []) (fun y => []) (fun y => B) (fun y => K24 ((Sum.inr ())) = some r) ?_ (fun j24 => ?_)
    · rintro u hp
      subst hK24
      show WJ _ _ _ B [] _ _ ⟨[(0, .v (.string (bs x0))), (1, .v (.int .u8 x1)), (7, .v (.int .i64 x7_23)), (8, .v (.int .i64 x8_23))], [], true, 0⟩
      refine WJ.ci 204 hp rfl rfl rfl rfl rfl rfl rfl rfl rfl (fun hc55 hp => ?_) (fun hc55 hp => ?_)
      · obtain ⟨t60, e60, hp⟩ := bindS hp
        refine WJ.cv 208 (b := t60) (H0 := ⟨.nil, 0, 0⟩) rfl rfl rfl rfl rfl rfl (by rw [← endS e60]; exact rfl) rfl ?_
        obtain rfl := endS (show some _ = some r from hp)
        exact WJ.rt 204 rfl rfl rfl (fun ids H' fr => ⟨fr.ext0, rfl⟩)
      · refine WJ.ci 209 hp rfl rfl rfl rfl rfl rfl rfl rfl rfl (fun hc64 hp => ?_) (fun hc64 hp => ?_)
        · obtain rfl := endS (show some _ = some r from hp)
          exact WJ.rt 215 rfl rfl rfl (fun ids H' fr => ⟨fr.ext0, rfl⟩)
        · obtain ⟨b68, e68, hp⟩ := bindS hp
          refine WJ.hd (v := .int .u8 ((b68.toNat : Nat) : Int)) 203 rfl rfl rfl rfl (fun ids H' fr => opD_index rfl (evV_eq _ _ _ _ _ rfl) (evV_eq _ _ _ _ _ rfl) (sidx us9 e68)) rfl ?_
          refine WJ.cn 201 hp rfl rfl rfl rfl rfl rfl rfl rfl rfl (fun hc70 hp => ?_) (fun hc70 hp => ?_)
          · obtain rfl := endS (show some _ = some r from hp)
            exact WJ.rt 209 rfl rfl rfl (fun ids H' fr => ⟨fr.ext0, rfl⟩)
          · refine WJ.dr 205 rfl gmix (by kernel_rfl) (by kernel_rfl) rfl ?_
            obtain ⟨s76, e76, hp⟩ := bindS hp
            refine WD.hd (v := .string (bs s76)) rfl rfl rfl rfl (fun _ _ _ _ _ => side_no) (fun ids H' fr => opD_sl rfl (evV_eq _ _ _ _ _ rfl) (evV_eq _ _ _ _ _ rfl) (sliceD_l us9 e76)) rfl ?_
            refine WD.done rfl ?_
            obtain rfl := endS (show some _ = some r from hp)
            exact WJ.rt 200 rfl rfl rfl (fun ids H' fr => ⟨fr.ext0, rfl⟩)
    · refine WJ.ci 202 hp rfl rfl rfl rfl rfl rfl rfl rfl rfl (fun hc40 hp => ?_) (fun hc40 hp => ?_)
      · subst hK24
        obtain rfl := endS (show some _ = some r from hp)
        exact WJ.rt 221 rfl rfl rfl (fun ids H' fr => ⟨fr.ext0, rfl⟩)
      · refine WJ.ci 202 hp rfl rfl rfl rfl rfl rfl rfl rfl rfl (fun hc43 hp => ?_) (fun hc43 hp => ?_)
        · subst hK24
          obtain rfl := endS (show some _ = some r from hp)
          exact WJ.rt 218 rfl rfl rfl (fun ids H' fr => ⟨fr.ext0, rfl⟩)
        · refine WJ.ci 203 hp rfl rfl rfl rfl rfl rfl rfl rfl rfl (fun hc47 hp => ?_) (fun hc47 hp => ?_)
          · obtain ⟨b50, e50, hp⟩ := bindS hp
            refine WJ.hd (v := .int .u8 ((b50.toNat : Nat) : Int)) 202 rfl rfl rfl rfl (fun ids H' fr => opD_index rfl (evV_eq _ _ _ _ _ rfl) (evV_eq _ _ _ _ _ rfl) (sidx us9 e50)) rfl ?_
            refine WJ.ci 200 hp rfl rfl rfl rfl rfl rfl rfl rfl rfl (fun hc51 hp => ?_) (fun hc51 hp => ?_)
            · subst hK24
              obtain rfl := endS (show some _ = some r from hp)
              exact WJ.rt 210 rfl rfl rfl (fun ids H' fr => ⟨fr.ext0, rfl⟩)
            · exact WJ.goto 5 (j24 () hp) rfl rfl (by exact ⟨rfl, rfl, rfl, rfl, trivial⟩) rfl rfl rfl
          · exact WJ.goto 9 (j24 () hp) rfl rfl (by exact ⟨rfl, rfl, rfl, rfl, trivial⟩) rfl rfl rfl
  · refine WJ.lp 200 (α := Nat × Int × Int) (fun y => [(0, .v (.string (bs x0))), (1, .v (.int .u8 x1)), (7, .v (.int .i64 y.2.1)), (8, .v (.int .i64 y.2.2))]) (fun y => []) (fun y => []) (fun y => B) (fun y => y.1) (fun y => Option.bind (f51_l1 x0 y.1 y.2.1 y.2.2) K23 = some r) (k, 0, 0) rfl hp (by exact ⟨rfl, rfl, rfl, rfl, trivial⟩) rfl rfl rfl ?_
    rintro ⟨n, x7, x8⟩ hp ih23
    show WJ _ _ _ B [] _ _ ⟨[(0, .v (.string (bs x0))), (1, .v (.int .u8 x1)), (7, .v (.int .i64 x7)), (8, .v (.int .i64 x8))], [], true, 0⟩
    replace hp : Option.bind (f51_l1 x0 n x7 x8) K23 = some r := hp
    cases n with
    | zero => rw [f51_l1] at hp; exact (noS hp).elim
    | succ n =>
      rw [f51_l1] at hp
      refine WJ.ci 206 hp rfl rfl rfl rfl rfl rfl rfl rfl rfl (fun hc12 hp => ?_) (fun hc12 hp => ?_)
      · obtain ⟨b16, e16, hp⟩ := bindS hp
        refine WJ.hd (v := .int .u8 ((b16.toNat : Nat) : Int)) 203 rfl rfl rfl rfl (fun ids H' fr => opD_index rfl (evV_eq _ _ _ _ _ rfl) (evV_eq _ _ _ _ _ rfl) (sidx us9 e16)) rfl ?_
        refine WJ.ci 200 hp rfl rfl rfl rfl rfl rfl rfl rfl rfl (fun hc17 hp => ?_) (fun hc17 hp => ?_)
        · obtain ⟨b22, e22, hp⟩ := bindS hp
          refine WJ.hd (v := .int .u8 ((b22.toNat : Nat) : Int)) 204 rfl rfl rfl rfl (fun ids H' fr => opD_index rfl (evV_eq _ _ _ _ _ rfl) (evV_eq _ _ _ _ _ rfl) (sidx us9 e22)) rfl ?_
          refine WJ.ci 200 hp rfl rfl rfl rfl rfl rfl rfl rfl rfl (fun hc23 hp => ?_) (fun hc23 hp => ?_)
          · refine WJ.ci 203 hp rfl rfl rfl rfl rfl rfl rfl rfl rfl (fun hc27 hp => ?_) (fun hc27 hp => ?_)
            · obtain ⟨b33, e33, hp⟩ := bindS hp
              refine WJ.hd (v := .int .u8 ((b33.toNat : Nat) : Int)) 211 rfl rfl rfl rfl (fun ids H' fr => opD_index rfl (evV_eq _ _ _ _ _ rfl) (evV_eq _ _ _ _ _ rfl) (sidx us9 e33)) rfl ?_
              exact WJ.ag 211 rfl (by exact ⟨rfl, rfl, rfl, rfl, trivial⟩) rfl rfl rfl (ih23 (n, IntKind.i64.wrap (x7 + 1), IntKind.i64.wrap ((IntKind.i64.wrap (10 * x8)) + (IntKind.i64.wrap (IntKind.u8.wrap (((b33.toNat : Nat) : Int) - 48))))) hp (Nat.lt_succ_self _))
            · exact WJ.goto 4 (j23 (x7, x8) hp) rfl rfl (by exact ⟨rfl, rfl, rfl, rfl, trivial⟩) rfl rfl rfl
          · exact WJ.goto 8 (j23 (x7, x8) hp) rfl rfl (by exact ⟨rfl, rfl, rfl, rfl, trivial⟩) rfl rfl rfl
        · exact WJ.goto 14 (j23 (x7, x8) hp) rfl rfl (by exact ⟨rfl, rfl, rfl, rfl, trivial⟩) rfl rfl rfl
      · exact WJ.goto 19 (j23 (x7, x8) hp) rfl rfl (by exact ⟨rfl, rfl, rfl, rfl, trivial⟩) rfl rfl rfl
/-! 31 tipstaff/tipstaffref20.Check -/
def f31 (x0 : CallT) : Option Int :=
  if x0.Kind < 1 then
    some 11
  else
    if x0.Kind > 3 then
      some 11
    else
      if x0.Floor < 0 then
        some 2
      else
        if x0.Floor ≥ 64 then
          some 2
        else
          if x0.At < 0 then
            some 2
          else
            if x0.At > 1099511627776 then
              some 2
            else
              (if x0.Kind = 3 then
                if x0.Car < 1 then
                  some (Sum.inl (2 : Int))
                else
                  if x0.Car > 8 then
                    some (Sum.inl (2 : Int))
                  else
                    if x0.Kind = 3 then
                      some (Sum.inr ())
                    else
                      if x0.Car = 0 then
                        some (Sum.inr ())
                      else
                        some (Sum.inl (2 : Int))
              else
                if x0.Kind = 3 then
                  some (Sum.inr ())
                else
                  if x0.Car = 0 then
                    some (Sum.inr ())
                  else
                    some (Sum.inl (2 : Int))).bind fun s => match s with
                | .inl st => some st
                | .inr _ => 
                  some 0
set_option maxRecDepth 20000 in
theorem f31_ok {H : Hp} {x0 : CallT} {r : Int} (hp : f31 x0 = some r) :
    SCall Tryd.prog 31 [.agg ⟨[.int .i64 x0.Kind, .int .i64 x0.Floor, .int .i64 x0.Car, .int .i64 x0.At]⟩] H (Ret fun v H' => Ext H H' ∧ R_25 r H.next H' v) := by
  obtain ⟨x0_Kind, x0_Floor, x0_Car, x0_At⟩ := x0
  unfold f31 at hp
  replace hp := topS hp
  refine SCall.g Tryd.func31 rfl rfl rfl rfl rfl (l := [(0, .v (.agg ⟨[.int .i64 x0_Kind, .int .i64 x0_Floor, .int .i64 x0_Car, .int .i64 x0_At]⟩))]) (fun _ => rfl) (fun B abB => ?_)
  refine WJ.ci 210 hp rfl rfl rfl rfl rfl rfl rfl rfl rfl (fun hc5 hp => ?_) (fun hc5 hp => ?_)
  · obtain rfl := endS (show some _ = some r from hp)
    exact WJ.rt 211 rfl rfl rfl (fun ids H' fr => ⟨fr.ext0, rfl⟩)
  · refine WJ.ci 203 hp rfl rfl rfl rfl rfl rfl rfl rfl rfl (fun hc9 hp => ?_) (fun hc9 hp => ?_)
    · obtain rfl := endS (show some _ = some r from hp)
      exact WJ.rt 207 rfl rfl rfl (fun ids H' fr => ⟨fr.ext0, rfl⟩)
    · refine WJ.ci 209 hp rfl rfl rfl rfl rfl rfl rfl rfl rfl (fun hc13 hp => ?_) (fun hc13 hp => ?_)
      · obtain rfl := endS (show some _ = some r from hp)
        exact WJ.rt 221 rfl rfl rfl (fun ids H' fr => ⟨fr.ext0, rfl⟩)
      · refine WJ.ci 203 hp rfl rfl rfl rfl rfl rfl rfl rfl rfl (fun hc17 hp => ?_) (fun hc17 hp => ?_)
        · obtain rfl := endS (show some _ = some r from hp)
          exact WJ.rt 217 rfl rfl rfl (fun ids H' fr => ⟨fr.ext0, rfl⟩)
        · refine WJ.ci 204 hp rfl rfl rfl rfl rfl rfl rfl rfl rfl (fun hc22 hp => ?_) (fun hc22 hp => ?_)
          · obtain rfl := endS (show some _ = some r from hp)
            exact WJ.rt 212 rfl rfl rfl (fun ids H' fr => ⟨fr.ext0, rfl⟩)
          · refine WJ.ci 204 hp rfl rfl rfl rfl rfl rfl rfl rfl rfl (fun hc27 hp => ?_) (fun hc27 hp => ?_)
            · obtain rfl := endS (show some _ = some r from hp)
              exact WJ.rt 207 rfl rfl rfl (fun ids H' fr => ⟨fr.ext0, rfl⟩)
            · refine WJ.adv 6 rfl ?_
              obtain ⟨K25, hK25, hp⟩ : ∃ K, K = _ ∧ Option.bind _ K = some r := ⟨_, rfl, cutS hp⟩
              refine WJ.cut 2 (α := Unit) (fun y => []) (fun y => [[.int .i64 x0_Kind, .int .i64 x0_Floor, .int .i64 x0_Car, .int .i64 x0_At]]) (fun y => []) (fun y => B) (fun y => K25 ((Sum.inr ())) = some r) ?_ (fun j25 => ?_)
              · rintro u hp
                subst hK25
                show WJ _ _ _ B [] _ _ ⟨[], [[.int .i64 x0_Kind, .int .i64 x0_Floor, .int .i64 x0_Car, .int .i64 x0_At]], true, 0⟩
                obtain rfl := endS (show some _ = some r from hp)
                exact WJ.rt 204 rfl rfl rfl (fun ids H' fr => ⟨fr.ext0, rfl⟩)
              · refine WJ.ci 203 hp rfl rfl rfl rfl rfl rfl rfl rfl rfl (fun hc31 hp => ?_) (fun hc31 hp => ?_)
                · refine WJ.ci 203 hp rfl rfl rfl rfl rfl rfl rfl rfl rfl (fun hc35 hp => ?_) (fun hc35 hp => ?_)
                  · subst hK25
                    obtain rfl := endS (show some _ = some r from hp)
                    exact WJ.rt 222 rfl rfl rfl (fun ids H' fr => ⟨fr.ext0, rfl⟩)
                  · refine WJ.ci 203 hp rfl rfl rfl rfl rfl rfl rfl rfl rfl (fun hc39 hp => ?_) (fun hc39 hp => ?_)
                    · subst hK25
                      obtain rfl := endS (show some _ = some r from hp)
                      exact WJ.rt 218 rfl rfl rfl (fun ids H' fr => ⟨fr.ext0, rfl⟩)
                    · refine WJ.cn 205 hp rfl rfl rfl rfl rfl rfl rfl rfl rfl (fun hc45 hp => ?_) (fun hc45 hp => ?_)
                      · refine WJ.cn 203 hp rfl rfl rfl rfl rfl rfl rfl rfl rfl (fun hc49 hp => ?_) (fun hc49 hp => ?_)
                        · subst hK25
                          obtain rfl := endS (show some _ = some r from hp)
                          exact WJ.rt 208 rfl rfl rfl (fun ids H' fr => ⟨fr.ext0, rfl⟩)
                        · exact WJ.goto 5 (j25 () hp) rfl rfl (by exact trivial) rfl rfl rfl
                      · exact WJ.goto 9 (j25 () hp) rfl rfl (by exact trivial) rfl rfl rfl
                · refine WJ.cn 213 hp rfl rfl rfl rfl rfl rfl rfl rfl rfl (fun hc45 hp => ?_) (fun hc45 hp => ?_)
                  · refine WJ.cn 203 hp rfl rfl rfl rfl rfl rfl rfl rfl rfl (fun hc49 hp => ?_) (fun hc49 hp => ?_)
                    · subst hK25
                      obtain rfl := endS (show some _ = some r from hp)
                      exact WJ.rt 208 rfl rfl rfl (fun ids H' fr => ⟨fr.ext0, rfl⟩)
                    · exact WJ.goto 5 (j25 () hp) rfl rfl (by exact trivial) rfl rfl rfl
                  · exact WJ.goto 9 (j25 () hp) rfl rfl (by exact trivial) rfl rfl rfl
/-! 18 tipstaff/tipstaffref20.Parse -/
def f18 (k : Nat) (x0 : List UInt8) : Option (CallT × Int) :=
  if x0 = ([] : List UInt8) then
    some ((CallT.mk 0 0 0 0), 3)
  else
    (sub x0 1 (x0.length : Int)).bind fun s12 =>
    (rd x0 0).bind fun b14 =>
    (if ((b14.toNat : Nat) : Int) = 117 then
      some (((1, 0, s12, true) : Int × Int × (List UInt8) × Bool))
    else
      if ((b14.toNat : Nat) : Int) = 100 then
        some (((2, 0, s12, true) : Int × Int × (List UInt8) × Bool))
      else
        if ((b14.toNat : Nat) : Int) = 99 then
          (f51 k s12 58).bind fun (t26_0, t26_1, t26_2) =>
          some (((3, t26_0, t26_1, t26_2) : Int × Int × (List UInt8) × Bool))
        else
          some (((0, 0, s12, false) : Int × Int × (List UInt8) × Bool))).bind fun (v1_0_28, v1_2_28, x5_28, x6_28) =>
      if x6_28 then
        (f51 k x5_28 64).bind fun (t36_0, t36_1, t36_2) =>
        if t36_2 then
          (f51 k t36_1 0).bind fun (t46_0, t46_1, t46_2) =>
          if t46_2 then
            (f31 (CallT.mk v1_0_28 t36_0 v1_2_28 t46_0)).bind fun t55 =>
            if t55 = 0 then
              some ((CallT.mk v1_0_28 t36_0 v1_2_28 t46_0), 0)
            else
              some ((CallT.mk 0 0 0 0), t55)
          else
            some ((CallT.mk 0 0 0 0), 3)
        else
          some ((CallT.mk 0 0 0 0), 3)
      else
        some ((CallT.mk 0 0 0 0), 3)
set_option maxRecDepth 20000 in
theorem f18_ok {k : Nat} {H : Hp} {x0 : List UInt8} {r : CallT × Int} (hp : f18 k x0 = some r) :
    SCall Tryd.prog 18 [.string (bs x0)] H (Ret fun v H' => Ext H H' ∧ R_31_25 r H.next H' v) := by
  unfold f18 at hp
  replace hp := topS hp
  refine SCall.g Tryd.func18 rfl rfl rfl rfl rfl (l := [(0, .v (.string (bs x0)))]) (fun _ => rfl) (fun B abB => ?_)
  refine WJ.ci 209 hp rfl rfl rfl rfl rfl rfl (opD_streq rfl rfl rfl) rfl rfl (fun hc9 hp => ?_) (fun hc9 hp => ?_)
  · obtain rfl := endS (show some _ = some r from hp)
    exact WJ.rt 208 rfl rfl rfl (fun ids H' fr => ⟨fr.ext0, rfl⟩)
  · obtain ⟨s12, e12, hp⟩ := bindS hp
    refine WJ.hd (v := .string (bs s12)) 210 rfl rfl rfl rfl (fun ids H' fr => opD_sl rfl (evV_eq _ _ _ _ _ rfl) (evV_eq _ _ _ _ _ rfl) (sliceD_l us9 e12)) rfl ?_
    obtain ⟨b14, e14, hp⟩ := bindS hp
    refine WJ.hd (v := .int .u8 ((b14.toNat : Nat) : Int)) 207 rfl rfl rfl rfl (fun ids H' fr => opD_index rfl (evV_eq _ _ _ _ _ rfl) (evV_eq _ _ _ _ _ rfl) (sidx us9 e14)) rfl ?_
    refine WJ.adv 3 rfl ?_
    obtain ⟨K28, hK28, hp⟩ : ∃ K, K = _ ∧ Option.bind _ K = some r := ⟨_, rfl, cutS hp⟩
    refine WJ.cut 3 (α := Int × Int × (List UInt8) × Bool × Hp) (fun y => [(2, .p 0 0), (4, .p 1 0), (5, .v (.string (bs y.2.2.1))), (6, .v (.bool y.2.2.2.1))]) (fun y => [[.int .i64 0, .int .i64 0, .int .i64 0, .int .i64 0], [.int .i64 y.1, .int .i64 0, .int .i64 y.2.1, .int .i64 0]]) (fun y => []) (fun y => y.2.2.2.2) (fun y => K28 (((y.1, y.2.1, y.2.2.1, y.2.2.2.1))) = some r) ?_ (fun j28 => ?_)
    · rintro ⟨v1_0_28, v1_2_28, x5_28, x6_28, B2⟩ hp
      subst hK28
      show WJ _ _ _ B2 [] _ _ ⟨[(2, .p 0 0), (4, .p 1 0), (5, .v (.string (bs x5_28))), (6, .v (.bool x6_28))], [[.int .i64 0, .int .i64 0, .int .i64 0, .int .i64 0], [.int .i64 v1_0_28, .int .i64 0, .int .i64 v1_2_28, .int .i64 0]], true, 0⟩
      cases x6_28
      · replace hp := (itS hp).2 Bool.false_ne_true
        obtain rfl := endS (show some _ = some r from hp)
        exact WJ.rt 213 rfl rfl rfl (fun ids H' fr => ⟨fr.ext0, rfl⟩)
      · replace hp := (itS hp).1 rfl
        obtain ⟨⟨t36_0, t36_1, t36_2⟩, e36, hp⟩ := bindS hp
        refine WJ.cl 211 (R := R_3_9_4 ⟨t36_0, t36_1, t36_2⟩) (fun hm h k => R_3_9_4.mono hm h k) rfl (fun ids H' fr => f51_ok e36) ?_
        rintro v B3 ⟨abB3, ivB3⟩ rfl
        refine ⟨_, rfl, ?_⟩
        cases t36_2
        · replace hp := (itS hp).2 Bool.false_ne_true
          obtain rfl := endS (show some _ = some r from hp)
          exact WJ.rt 222 rfl rfl rfl (fun ids H' fr => ⟨fr.ext0, rfl⟩)
        · replace hp := (itS hp).1 rfl
          obtain ⟨⟨t46_0, t46_1, t46_2⟩, e46, hp⟩ := bindS hp
          refine WJ.cl 220 (R := R_3_9_4 ⟨t46_0, t46_1, t46_2⟩) (fun hm h k => R_3_9_4.mono hm h k) rfl (fun ids H' fr => f51_ok e46) ?_
          rintro v B4 ⟨abB4, ivB4⟩ rfl
          refine ⟨_, rfl, ?_⟩
          cases t46_2
          · replace hp := (itS hp).2 Bool.false_ne_true
            obtain rfl := endS (show some _ = some r from hp)
            exact WJ.rt 221 rfl rfl rfl (fun ids H' fr => ⟨fr.ext0, rfl⟩)
          · replace hp := (itS hp).1 rfl
            obtain ⟨t55, e55, hp⟩ := bindS hp
            refine WJ.cl 219 (R := R_25 t55) (fun hm h k => R_25.mono hm h k) rfl (fun ids H' fr => f31_ok (x0 := (CallT.mk v1_0_28 t36_0 v1_2_28 t46_0)) e55) ?_
            rintro v B5 ⟨abB5, ivB5⟩ rfl
            refine ⟨_, rfl, ?_⟩
            refine WJ.cn 206 hp rfl rfl rfl rfl rfl rfl rfl rfl rfl (fun hc57 hp => ?_) (fun hc57 hp => ?_)
            · obtain rfl := endS (show some _ = some r from hp)
              exact WJ.rt 209 rfl rfl rfl (fun ids H' fr => ⟨fr.ext0, rfl⟩)
            · obtain rfl := endS (show some _ = some r from hp)
              exact WJ.rt 209 rfl rfl rfl (fun ids H' fr => ⟨fr.ext0, rfl⟩)
    · refine WJ.ci 201 hp rfl rfl rfl rfl rfl rfl rfl rfl rfl (fun hc16 hp => ?_) (fun hc16 hp => ?_)
      · exact WJ.goto 8 (j28 (1, 0, s12, true, B) hp) rfl rfl (by exact ⟨rfl, rfl, rfl, rfl, trivial⟩) rfl rfl rfl
      · refine WJ.ci 205 hp rfl rfl rfl rfl rfl rfl rfl rfl rfl (fun hc19 hp => ?_) (fun hc19 hp => ?_)
        · exact WJ.goto 8 (j28 (2, 0, s12, true, B) hp) rfl rfl (by exact ⟨rfl, rfl, rfl, rfl, trivial⟩) rfl rfl rfl
        · refine WJ.ci 205 hp rfl rfl rfl rfl rfl rfl rfl rfl rfl (fun hc22 hp => ?_) (fun hc22 hp => ?_)
          · obtain ⟨⟨t26_0, t26_1, t26_2⟩, e26, hp⟩ := bindS hp
            refine WJ.cl 210 (R := R_3_9_4 ⟨t26_0, t26_1, t26_2⟩) (fun hm h k => R_3_9_4.mono hm h k) rfl (fun ids H' fr => f51_ok e26) ?_
            rintro v B1 ⟨abB1, ivB1⟩ rfl
            refine ⟨_, rfl, ?_⟩
            exact WJ.goto 10 (j28 (3, t26_0, t26_1, t26_2, B1) hp) rfl rfl (by exact ⟨rfl, rfl, rfl, rfl, trivial⟩) rfl rfl rfl
          · exact WJ.goto 7 (j28 (0, 0, s12, false, B) hp) rfl rfl (by exact ⟨rfl, rfl, rfl, rfl, trivial⟩) rfl rfl rfl
/-! 4 tipstaff/tipstafflaw20.CallParses -/
def f4 (k : Nat) (x0 : List UInt8) : Option Bool :=
  if (x0.length : Int) > 100 then
    (f10).bind fun t10 =>
    some t10
  else
    (f17 k x0).bind fun (t13_0, t13_1) =>
    (f18 k x0).bind fun (t18_0, t18_1) =>
    if (CallT.mk t13_0.Kind t13_0.Floor t13_0.Car t13_0.At) = (CallT.mk t18_0.Kind t18_0.Floor t18_0.Car t18_0.At) then
      if t13_1 = t18_1 then
        (f10).bind fun t30 =>
        some t30
      else
        some false
    else
      some false
set_option maxRecDepth 20000 in
theorem f4_ok {k : Nat} {H : Hp} {x0 : List UInt8} {r : Bool} (hp : f4 k x0 = some r) :
    SCall Tryd.prog 4 [.string (bs x0)] H (Ret fun v H' => Ext H H' ∧ R_4 r H.next H' v) := by
  unfold f4 at hp
  replace hp := topS hp
  refine SCall.g Tryd.func4 rfl rfl rfl rfl rfl (l := [(0, .v (.string (bs x0)))]) (fun _ => rfl) (fun B abB => ?_)
  refine WJ.ci 209 hp rfl rfl rfl rfl rfl rfl rfl rfl rfl (fun hc9 hp => ?_) (fun hc9 hp => ?_)
  · obtain ⟨t10, e10, hp⟩ := bindS hp
    refine WJ.cl 204 (R := R_4 t10) (fun hm h k => R_4.mono hm h k) rfl (fun ids H' fr => f10_ok e10) ?_
    rintro v B1 ⟨abB1, ivB1⟩ rfl
    refine ⟨_, rfl, ?_⟩
    obtain rfl := endS (show some _ = some r from hp)
    exact WJ.rt 202 rfl rfl rfl (fun ids H' fr => ⟨fr.ext0, rfl⟩)
  · obtain ⟨⟨⟨t13_0_Kind, t13_0_Floor, t13_0_Car, t13_0_At⟩, t13_1⟩, e13, hp⟩ := bindS hp
    refine WJ.cl 206 (R := R_31_25 ⟨⟨t13_0_Kind, t13_0_Floor, t13_0_Car, t13_0_At⟩, t13_1⟩) (fun hm h k => R_31_25.mono hm h k) rfl (fun ids H' fr => f17_ok e13) ?_
    rintro v B2 ⟨abB2, ivB2⟩ rfl
    refine ⟨_, rfl, ?_⟩
    obtain ⟨⟨⟨t18_0_Kind, t18_0_Floor, t18_0_Car, t18_0_At⟩, t18_1⟩, e18, hp⟩ := bindS hp
    refine WJ.cl 210 (R := R_31_25 ⟨⟨t18_0_Kind, t18_0_Floor, t18_0_Car, t18_0_At⟩, t18_1⟩) (fun hm h k => R_31_25.mono hm h k) rfl (fun ids H' fr => f18_ok e18) ?_
    rintro v B3 ⟨abB3, ivB3⟩ rfl
    refine ⟨_, rfl, ?_⟩
    refine WJ.ci 211 hp rfl rfl rfl rfl rfl rfl (opD_eqS rfl rfl rfl rfl gd31 (eq31 t13_0_Kind t13_0_Floor t13_0_Car t13_0_At t18_0_Kind t18_0_Floor t18_0_Car t18_0_At)) rfl rfl (fun hc23 hp => ?_) (fun hc23 hp => ?_)
    · refine WJ.ci 203 hp rfl rfl rfl rfl rfl rfl rfl rfl rfl (fun hc27 hp => ?_) (fun hc27 hp => ?_)
      · obtain ⟨t30, e30, hp⟩ := bindS hp
        refine WJ.cl 202 (R := R_4 t30) (fun hm h k => R_4.mono hm h k) rfl (fun ids H' fr => f10_ok e30) ?_
        rintro v B4 ⟨abB4, ivB4⟩ rfl
        refine ⟨_, rfl, ?_⟩
        obtain rfl := endS (show some _ = some r from hp)
        exact WJ.rt 203 rfl rfl rfl (fun ids H' fr => ⟨fr.ext0, rfl⟩)
      · obtain rfl := endS (show some _ = some r from hp)
        exact WJ.rt 206 rfl rfl rfl (fun ids H' fr => ⟨fr.ext0, rfl⟩)
    · obtain rfl := endS (show some _ = some r from hp)
      exact WJ.rt 210 rfl rfl rfl (fun ids H' fr => ⟨fr.ext0, rfl⟩)
/-! 33 tipstaff/tipstaffref20.Same -/
def f33 (x0 : CallT) (x1 : CallT) : Option Bool :=
  if x0.Kind = x1.Kind then
    if x0.Floor = x1.Floor then
      (some (x0.Car == x1.Car)).bind fun t22 =>
      some t22
    else
      some false
  else
    some false
set_option maxRecDepth 20000 in
theorem f33_ok {H : Hp} {x0 : CallT} {x1 : CallT} {r : Bool} (hp : f33 x0 x1 = some r) :
    SCall Tryd.prog 33 [.agg ⟨[.int .i64 x0.Kind, .int .i64 x0.Floor, .int .i64 x0.Car, .int .i64 x0.At]⟩, .agg ⟨[.int .i64 x1.Kind, .int .i64 x1.Floor, .int .i64 x1.Car, .int .i64 x1.At]⟩] H (Ret fun v H' => Ext H H' ∧ R_4 r H.next H' v) := by
  obtain ⟨x0_Kind, x0_Floor, x0_Car, x0_At⟩ := x0
  obtain ⟨x1_Kind, x1_Floor, x1_Car, x1_At⟩ := x1
  unfold f33 at hp
  replace hp := topS hp
  refine SCall.g Tryd.func33 rfl rfl rfl rfl rfl (l := [(0, .v (.agg ⟨[.int .i64 x0_Kind, .int .i64 x0_Floor, .int .i64 x0_Car, .int .i64 x0_At]⟩)), (1, .v (.agg ⟨[.int .i64 x1_Kind, .int .i64 x1_Floor, .int .i64 x1_Car, .int .i64 x1_At]⟩))]) (fun _ => rfl) (fun B abB => ?_)
  refine WJ.ci 212 hp rfl rfl rfl rfl rfl rfl rfl rfl rfl (fun hc9 hp => ?_) (fun hc9 hp => ?_)
  · refine WJ.ci 205 hp rfl rfl rfl rfl rfl rfl rfl rfl rfl (fun hc15 hp => ?_) (fun hc15 hp => ?_)
    · obtain ⟨t22, e22, hp⟩ := bindS hp
      refine WJ.cv 206 (b := t22) (H0 := ⟨.nil, 0, 0⟩) rfl rfl rfl rfl rfl rfl (by rw [← endS e22]; exact rfl) rfl ?_
      obtain rfl := endS (show some _ = some r from hp)
      exact WJ.rt 203 rfl rfl rfl (fun ids H' fr => ⟨fr.ext0, rfl⟩)
    · obtain rfl := endS (show some _ = some r from hp)
      exact WJ.rt 210 rfl rfl rfl (fun ids H' fr => ⟨fr.ext0, rfl⟩)
  · obtain rfl := endS (show some _ = some r from hp)
    exact WJ.rt 216 rfl rfl rfl (fun ids H' fr => ⟨fr.ext0, rfl⟩)
/-! 35 tipstaff/tipstaffref20.Serves -/
def f35 (x0 : CallT) (x1 : Int) (x2 : Int) : Option (Bool × Int) :=
  (f31 (CallT.mk x0.Kind x0.Floor x0.Car x0.At)).bind fun t10 =>
  (if t10 = 0 then
    if x1 < 0 then
      some ((2 : Int))
    else
      if x1 ≥ 64 then
        some ((2 : Int))
      else
        if x2 < 1 then
          some ((2 : Int))
        else
          if x2 > 8 then
            some ((2 : Int))
          else
            some (t10)
  else
    some (t10)).bind fun x8_29 =>
    if x8_29 = 0 then
      if x0.Floor = x1 then
        if x0.Kind = 3 then
          (some (x0.Car == x2)).bind fun t44 =>
          some (t44, 0)
        else
          some (true, 0)
      else
        some (false, 0)
    else
      some (false, x8_29)
set_option maxRecDepth 20000 in
theorem f35_ok {H : Hp} {x0 : CallT} {x1 : Int} {x2 : Int} {r : Bool × Int} (hp : f35 x0 x1 x2 = some r) :
    SCall Tryd.prog 35 [.agg ⟨[.int .i64 x0.Kind, .int .i64 x0.Floor, .int .i64 x0.Car, .int .i64 x0.At]⟩, .int .i64 x1, .int .i64 x2] H (Ret fun v H' => Ext H H' ∧ R_4_25 r H.next H' v) := by
  obtain ⟨x0_Kind, x0_Floor, x0_Car, x0_At⟩ := x0
  unfold f35 at hp
  replace hp := topS hp
  refine SCall.g Tryd.func35 rfl rfl rfl rfl rfl (l := [(0, .v (.agg ⟨[.int .i64 x0_Kind, .int .i64 x0_Floor, .int .i64 x0_Car, .int .i64 x0_At]⟩)), (1, .v (.int .i64 x1)), (2, .v (.int .i64 x2))]) (fun _ => rfl) (fun B abB => ?_)
  obtain ⟨t10, e10, hp⟩ := bindS hp
  refine WJ.cl 209 (R := R_25 t10) (fun hm h k => R_25.mono hm h k) rfl (fun ids H' fr => f31_ok (x0 := (CallT.mk x0_Kind x0_Floor x0_Car x0_At)) e10) ?_
  rintro v B1 ⟨abB1, ivB1⟩ rfl
  refine ⟨_, rfl, ?_⟩
  refine WJ.adv 4 rfl ?_
  obtain ⟨K29, hK29, hp⟩ : ∃ K, K = _ ∧ Option.bind _ K = some r := ⟨_, rfl, cutS hp⟩
  refine WJ.cut 2 (α := Int) (fun y => [(1, .v (.int .i64 x1)), (2, .v (.int .i64 x2)), (3, .p 0 0), (8, .v (.int .i64 y))]) (fun y => [[.int .i64 x0_Kind, .int .i64 x0_Floor, .int .i64 x0_Car, .int .i64 x0_At]]) (fun y => []) (fun y => B1) (fun y => K29 ((y)) = some r) ?_ (fun j29 => ?_)
  · rintro x8_29 hp
    subst hK29
    show WJ _ _ _ B1 [] _ _ ⟨[(1, .v (.int .i64 x1)), (2, .v (.int .i64 x2)), (3, .p 0 0), (8, .v (.int .i64 x8_29))], [[.int .i64 x0_Kind, .int .i64 x0_Floor, .int .i64 x0_Car, .int .i64 x0_At]], true, 0⟩
    refine WJ.cn 204 hp rfl rfl rfl rfl rfl rfl rfl rfl rfl (fun hc30 hp => ?_) (fun hc30 hp => ?_)
    · obtain rfl := endS (show some _ = some r from hp)
      exact WJ.rt 208 rfl rfl rfl (fun ids H' fr => ⟨fr.ext0, rfl⟩)
    · refine WJ.ci 208 hp rfl rfl rfl rfl rfl rfl rfl rfl rfl (fun hc35 hp => ?_) (fun hc35 hp => ?_)
      · refine WJ.cn 203 hp rfl rfl rfl rfl rfl rfl rfl rfl rfl (fun hc39 hp => ?_) (fun hc39 hp => ?_)
        · obtain rfl := endS (show some _ = some r from hp)
          exact WJ.rt 210 rfl rfl rfl (fun ids H' fr => ⟨fr.ext0, rfl⟩)
        · obtain ⟨t44, e44, hp⟩ := bindS hp
          refine WJ.cv 204 (b := t44) (H0 := ⟨.nil, 0, 0⟩) rfl rfl rfl rfl rfl rfl (by rw [← endS e44]; exact rfl) rfl ?_
          obtain rfl := endS (show some _ = some r from hp)
          exact WJ.rt 205 rfl rfl rfl (fun ids H' fr => ⟨fr.ext0, rfl⟩)
      · obtain rfl := endS (show some _ = some r from hp)
        exact WJ.rt 214 rfl rfl rfl (fun ids H' fr => ⟨fr.ext0, rfl⟩)
  · refine WJ.ci 202 hp rfl rfl rfl rfl rfl rfl rfl rfl rfl (fun hc12 hp => ?_) (fun hc12 hp => ?_)
    · refine WJ.ci 202 hp rfl rfl rfl rfl rfl rfl rfl rfl rfl (fun hc15 hp => ?_) (fun hc15 hp => ?_)
      · exact WJ.goto 18 (j29 2 hp) rfl rfl (by exact ⟨rfl, rfl, rfl, rfl, trivial⟩) rfl rfl rfl
      · refine WJ.ci 202 hp rfl rfl rfl rfl rfl rfl rfl rfl rfl (fun hc18 hp => ?_) (fun hc18 hp => ?_)
        · exact WJ.goto 15 (j29 2 hp) rfl rfl (by exact ⟨rfl, rfl, rfl, rfl, trivial⟩) rfl rfl rfl
        · refine WJ.ci 203 hp rfl rfl rfl rfl rfl rfl rfl rfl rfl (fun hc22 hp => ?_) (fun hc22 hp => ?_)
          · exact WJ.goto 11 (j29 2 hp) rfl rfl (by exact ⟨rfl, rfl, rfl, rfl, trivial⟩) rfl rfl rfl
          · refine WJ.ci 203 hp rfl rfl rfl rfl rfl rfl rfl rfl rfl (fun hc26 hp => ?_) (fun hc26 hp => ?_)
            · exact WJ.goto 7 (j29 2 hp) rfl rfl (by exact ⟨rfl, rfl, rfl, rfl, trivial⟩) rfl rfl rfl
            · exact WJ.goto 5 (j29 t10 hp) rfl rfl (by exact ⟨rfl, rfl, rfl, rfl, trivial⟩) rfl rfl rfl
    · exact WJ.goto 19 (j29 t10 hp) rfl rfl (by exact ⟨rfl, rfl, rfl, rfl, trivial⟩) rfl rfl rfl
/-! 36 tipstaff/tipstaffref20.Age -/
def f36 (x0 : CallT) (x1 : Int) : Option (Int × Int) :=
  (f31 (CallT.mk x0.Kind x0.Floor x0.Car x0.At)).bind fun t8 =>
  (if t8 = 0 then
    if x1 < 0 then
      some ((2 : Int))
    else
      if x1 > 1099511627776 then
        some ((2 : Int))
      else
        some (t8)
  else
    some (t8)).bind fun x6_30 =>
    (if x6_30 = 0 then
      if x1 < x0.At then
        some ((8 : Int))
      else
        some (x6_30)
    else
      some (x6_30)).bind fun x6_31 =>
      if x6_31 = 0 then
        some (IntKind.i64.wrap (x1 - x0.At), 0)
      else
        some (0, x6_31)
set_option maxRecDepth 20000 in
theorem f36_ok {H : Hp} {x0 : CallT} {x1 : Int} {r : Int × Int} (hp : f36 x0 x1 = some r) :
    SCall Tryd.prog 36 [.agg ⟨[.int .i64 x0.Kind, .int .i64 x0.Floor, .int .i64 x0.Car, .int .i64 x0.At]⟩, .int .i64 x1] H (Ret fun v H' => Ext H H' ∧ R_3_25 r H.next H' v) := by
  obtain ⟨x0_Kind, x0_Floor, x0_Car, x0_At⟩ := x0
  unfold f36 at hp
  replace hp := topS hp
  refine SCall.g Tryd.func36 rfl rfl rfl rfl rfl (l := [(0, .v (.agg ⟨[.int .i64 x0_Kind, .int .i64 x0_Floor, .int .i64 x0_Car, .int .i64 x0_At]⟩)), (1, .v (.int .i64 x1))]) (fun _ => rfl) (fun B abB => ?_)
  obtain ⟨t8, e8, hp⟩ := bindS hp
  refine WJ.cl 209 (R := R_25 t8) (fun hm h k => R_25.mono hm h k) rfl (fun ids H' fr => f31_ok (x0 := (CallT.mk x0_Kind x0_Floor x0_Car x0_At)) e8) ?_
  rintro v B1 ⟨abB1, ivB1⟩ rfl
  refine ⟨_, rfl, ?_⟩
  refine WJ.adv 4 rfl ?_
  obtain ⟨K30, hK30, hp⟩ : ∃ K, K = _ ∧ Option.bind _ K = some r := ⟨_, rfl, cutS hp⟩
  refine WJ.cut 2 (α := Int) (fun y => [(1, .v (.int .i64 x1)), (2, .p 0 0), (6, .v (.int .i64 y))]) (fun y => [[.int .i64 x0_Kind, .int .i64 x0_Floor, .int .i64 x0_Car, .int .i64 x0_At]]) (fun y => []) (fun y => B1) (fun y => K30 ((y)) = some r) ?_ (fun j30 => ?_)
  · rintro x6_30 hp
    subst hK30
    show WJ _ _ _ B1 [] _ _ ⟨[(1, .v (.int .i64 x1)), (2, .p 0 0), (6, .v (.int .i64 x6_30))], [[.int .i64 x0_Kind, .int .i64 x0_Floor, .int .i64 x0_Car, .int .i64 x0_At]], true, 0⟩
    refine WJ.adv 2 rfl ?_
    obtain ⟨K31, hK31, hp⟩ : ∃ K, K = _ ∧ Option.bind _ K = some r := ⟨_, rfl, cutS hp⟩
    refine WJ.cut 2 (α := Int) (fun y => [(1, .v (.int .i64 x1)), (2, .p 0 0), (6, .v (.int .i64 y))]) (fun y => [[.int .i64 x0_Kind, .int .i64 x0_Floor, .int .i64 x0_Car, .int .i64 x0_At]]) (fun y => []) (fun y => B1) (fun y => K31 ((y)) = some r) ?_ (fun j31 => ?_)
    · rintro x6_31 hp
      subst hK31
      show WJ _ _ _ B1 [] _ _ ⟨[(1, .v (.int .i64 x1)), (2, .p 0 0), (6, .v (.int .i64 x6_31))], [[.int .i64 x0_Kind, .int .i64 x0_Floor, .int .i64 x0_Car, .int .i64 x0_At]], true, 0⟩
      refine WJ.cn 204 hp rfl rfl rfl rfl rfl rfl rfl rfl rfl (fun hc28 hp => ?_) (fun hc28 hp => ?_)
      · obtain rfl := endS (show some _ = some r from hp)
        exact WJ.rt 208 rfl rfl rfl (fun ids H' fr => ⟨fr.ext0, rfl⟩)
      · obtain rfl := endS (show some _ = some r from hp)
        exact WJ.rt 212 rfl rfl rfl (fun ids H' fr => ⟨fr.ext0, rfl⟩)
    · refine WJ.ci 202 hp rfl rfl rfl rfl rfl rfl rfl rfl rfl (fun hc20 hp => ?_) (fun hc20 hp => ?_)
      · refine WJ.ci 204 hp rfl rfl rfl rfl rfl rfl rfl rfl rfl (fun hc25 hp => ?_) (fun hc25 hp => ?_)
        · exact WJ.goto 6 (j31 8 hp) rfl rfl (by exact ⟨rfl, rfl, rfl, trivial⟩) rfl rfl rfl
        · exact WJ.goto 4 (j31 x6_30 hp) rfl rfl (by exact ⟨rfl, rfl, rfl, trivial⟩) rfl rfl rfl
      · exact WJ.goto 9 (j31 x6_30 hp) rfl rfl (by exact ⟨rfl, rfl, rfl, trivial⟩) rfl rfl rfl
  · refine WJ.ci 202 hp rfl rfl rfl rfl rfl rfl rfl rfl rfl (fun hc10 hp => ?_) (fun hc10 hp => ?_)
    · refine WJ.ci 202 hp rfl rfl rfl rfl rfl rfl rfl rfl rfl (fun hc13 hp => ?_) (fun hc13 hp => ?_)
      · exact WJ.goto 10 (j30 2 hp) rfl rfl (by exact ⟨rfl, rfl, rfl, trivial⟩) rfl rfl rfl
      · refine WJ.ci 202 hp rfl rfl rfl rfl rfl rfl rfl rfl rfl (fun hc16 hp => ?_) (fun hc16 hp => ?_)
        · exact WJ.goto 7 (j30 2 hp) rfl rfl (by exact ⟨rfl, rfl, rfl, trivial⟩) rfl rfl rfl
        · exact WJ.goto 5 (j30 t8 hp) rfl rfl (by exact ⟨rfl, rfl, rfl, trivial⟩) rfl rfl rfl
    · exact WJ.goto 11 (j30 t8 hp) rfl rfl (by exact ⟨rfl, rfl, rfl, trivial⟩) rfl rfl rfl
/-! 54 tipstaff/tipstaffref20.decimal -/
def f54_l1 : Nat → Int → (List UInt8) → Option ((List UInt8))
  | 0, _, _ => none
  | n + 1, x0, x3 =>
    (if x0 > 0 then
      some (Sum.inl ())
    else
      if x3 = ([] : List UInt8) then
        some (Sum.inl ())
      else
        some (Sum.inr x3)).bind fun s => match s with
      | .inl _ => 
        (scat (b8 ([IntKind.u8.wrap (IntKind.i64.wrap (48 + (x0.tmod 10)))])) x3).bind fun s17 =>
        f54_l1 n (IntKind.i64.wrap (x0.tdiv 10)) s17
      | .inr st => some (st)

def f54 (k : Nat) (x0 : Int) : Option (List UInt8) :=
  (f54_l1 k x0 ([] : List UInt8)).bind fun x3_32 =>
    some x3_32
set_option maxRecDepth 20000 in
theorem f54_ok {k : Nat} {H : Hp} {x0 : Int} {r : List UInt8} (hp : f54 k x0 = some r) :
    SCall Tryd.prog 54 [.int .i64 x0] H (Ret fun v H' => Ext H H' ∧ R_9 r H.next H' v) := by
  unfold f54 at hp
  replace hp := topS hp
  refine SCall.g Tryd.func54 rfl rfl rfl rfl rfl (l := [(0, .v (.int .i64 x0))]) (fun _ => rfl) (fun B abB => ?_)
  refine WJ.adv 10 rfl ?_
  obtain ⟨K32, hK32, hp⟩ : ∃ K, K = _ ∧ Option.bind _ K = some r := ⟨_, rfl, cutS hp⟩
  refine WJ.cut 2 (α := (List UInt8)) (fun y => [(3, .v (.string (bs y)))]) (fun y => []) (fun y => []) (fun y => B) (fun y => K32 (y) = some r) ?_ (fun j32 => ?_)
  · rintro x3_32 hp
    subst hK32
    show WJ _ _ _ B [] _ _ ⟨[(3, .v (.string (bs x3_32)))], [], true, 0⟩
    obtain rfl := endS (show some _ = some r from hp)
    exact WJ.rt 205 rfl rfl rfl (fun ids H' fr => ⟨fr.ext0, rfl⟩)
  · refine WJ.lp 200 (α := Nat × Int × (List UInt8)) (fun y => [(0, .v (.int .i64 y.2.1)), (3, .v (.string (bs y.2.2)))]) (fun y => []) (fun y => []) (fun y => B) (fun y => y.1) (fun y => Option.bind (f54_l1 y.1 y.2.1 y.2.2) K32 = some r) (k, x0, ([] : List UInt8)) rfl hp (by exact ⟨rfl, rfl, trivial⟩) rfl rfl rfl ?_
    rintro ⟨n, x0, x3⟩ hp ih32
    show WJ _ _ _ B [] _ _ ⟨[(0, .v (.int .i64 x0)), (3, .v (.string (bs x3)))], [], true, 0⟩
    replace hp : Option.bind (f54_l1 n x0 x3) K32 = some r := hp
    cases n with
    | zero => rw [f54_l1] at hp; exact (noS hp).elim
    | succ n =>
      rw [f54_l1] at hp
      refine WJ.adv 2 rfl ?_
      obtain ⟨K33, hK33, hp⟩ : ∃ K, K = _ ∧ Option.bind _ K = some r := ⟨_, rfl, cutS hp⟩
      refine WJ.cut 2 (α := Unit) (fun y => [(0, .v (.int .i64 x0)), (3, .v (.string (bs x3)))]) (fun y => []) (fun y => []) (fun y => B) (fun y => K33 ((Sum.inl ())) = some r) ?_ (fun j33 => ?_)
      · rintro u hp
        subst hK33
        show WJ _ _ _ B [] _ _ ⟨[(0, .v (.int .i64 x0)), (3, .v (.string (bs x3)))], [], true, 0⟩
        refine WJ.hd (v := .int .i64 (x0.tmod 10)) 204 rfl rfl rfl rfl (fun ids H' fr => opD_bin rfl (evV_eq _ _ _ _ _ rfl) (evV_eq _ _ _ _ _ rfl) (bin_rem (by decide))) rfl ?_
        refine WJ.bs (cs := encL (kE .u8) [IntKind.u8.wrap (IntKind.i64.wrap (48 + (x0.tmod 10)))]) (sz := 1) (pl := [(0, .int .u8 (IntKind.u8.wrap (IntKind.i64.wrap (48 + (x0.tmod 10)))))]) 202 rfl rfl rfl rfl rfl (fun _ _ => rfl) (fun _ => by rfl) rfl rfl ?_
        intro b14
        refine ⟨_, rfl, ?_⟩
        refine WJ.hd (v := .string (bs (b8 ([IntKind.u8.wrap (IntKind.i64.wrap (48 + (x0.tmod 10)))])))) 200 rfl rfl rfl rfl (fun ids H' fr => opD_conv rfl (evV_eq _ _ _ _ _ rfl) (fr.convOwn (j := 0) rfl u87 us9 u8_5)) rfl ?_
        obtain ⟨s17, e17, hp⟩ := bindS hp
        refine WJ.hd (v := .string (bs s17)) 201 rfl rfl rfl rfl (fun ids H' fr => opD_bin rfl (evV_eq _ _ _ _ _ rfl) (evV_eq _ _ _ _ _ rfl) (bin_sadd e17)) rfl ?_
        refine WJ.hd (v := .int .i64 (IntKind.i64.wrap (x0.tdiv 10))) 204 rfl rfl rfl rfl (fun ids H' fr => opD_bin rfl (evV_eq _ _ _ _ _ rfl) (evV_eq _ _ _ _ _ rfl) (bin_quo (by decide))) rfl ?_
        exact WJ.ag 203 rfl (by exact ⟨rfl, rfl, trivial⟩) rfl rfl rfl (ih32 (n, IntKind.i64.wrap (x0.tdiv 10), s17) hp (Nat.lt_succ_self _))
      · refine WJ.ci 202 hp rfl rfl rfl rfl rfl rfl rfl rfl rfl (fun hc5 hp => ?_) (fun hc5 hp => ?_)
        · exact WJ.goto 7 (j33 () hp) rfl rfl (by exact ⟨rfl, rfl, trivial⟩) rfl rfl rfl
        · refine WJ.ci 202 hp rfl rfl rfl rfl rfl rfl (opD_streq rfl rfl rfl) rfl rfl (fun hc8 hp => ?_) (fun hc8 hp => ?_)
          · exact WJ.goto 4 (j33 () hp) rfl rfl (by exact ⟨rfl, rfl, trivial⟩) rfl rfl rfl
          · subst hK33
            exact WJ.goto 4 (j32 x3 hp) rfl rfl (by exact ⟨rfl, trivial⟩) rfl rfl rfl
/-! 37 tipstaff/tipstaffref20.Text -/
def f37 (k : Nat) (x0 : CallT) : Option ((List UInt8) × Int) :=
  (f31 (CallT.mk x0.Kind x0.Floor x0.Car x0.At)).bind fun t7 =>
  if t7 = 0 then
    (if x0.Kind = 3 then
      (f54 k x0.Car).bind fun t16 =>
      (scat ([99]) t16).bind fun s17 =>
      (scat s17 ([58])).bind fun s18 =>
      some (s18)
    else
      (sub ([117, 100]) (IntKind.i64.wrap (x0.Kind - 1)) x0.Kind).bind fun s25 =>
      some (s25)).bind fun x5_34 =>
      (f54 k x0.Floor).bind fun t29 =>
      (scat x5_34 t29).bind fun s30 =>
      (scat s30 ([64])).bind fun s31 =>
      (f54 k x0.At).bind fun t34 =>
      (scat s31 t34).bind fun s35 =>
      some (s35, 0)
  else
    some (([] : List UInt8), t7)
set_option maxRecDepth 20000 in
theorem f37_ok {k : Nat} {H : Hp} {x0 : CallT} {r : (List UInt8) × Int} (hp : f37 k x0 = some r) :
    SCall Tryd.prog 37 [.agg ⟨[.int .i64 x0.Kind, .int .i64 x0.Floor, .int .i64 x0.Car, .int .i64 x0.At]⟩] H (Ret fun v H' => Ext H H' ∧ R_9_25 r H.next H' v) := by
  obtain ⟨x0_Kind, x0_Floor, x0_Car, x0_At⟩ := x0
  unfold f37 at hp
  replace hp := topS hp
  refine SCall.g Tryd.func37 rfl rfl rfl rfl rfl (l := [(0, .v (.agg ⟨[.int .i64 x0_Kind, .int .i64 x0_Floor, .int .i64 x0_Car, .int .i64 x0_At]⟩))]) (fun _ => rfl) (fun B abB => ?_)
  obtain ⟨t7, e7, hp⟩ := bindS hp
  refine WJ.cl 209 (R := R_25 t7) (fun hm h k => R_25.mono hm h k) rfl (fun ids H' fr => f31_ok (x0 := (CallT.mk x0_Kind x0_Floor x0_Car x0_At)) e7) ?_
  rintro v B1 ⟨abB1, ivB1⟩ rfl
  refine ⟨_, rfl, ?_⟩
  refine WJ.cn 206 hp rfl rfl rfl rfl rfl rfl rfl rfl rfl (fun hc9 hp => ?_) (fun hc9 hp => ?_)
  · obtain rfl := endS (show some _ = some r from hp)
    exact WJ.rt 208 rfl rfl rfl (fun ids H' fr => ⟨fr.ext0, rfl⟩)
  · refine WJ.adv 9 rfl ?_
    obtain ⟨K34, hK34, hp⟩ : ∃ K, K = _ ∧ Option.bind _ K = some r := ⟨_, rfl, cutS hp⟩
    refine WJ.cut 2 (α := (List UInt8) × Hp) (fun y => [(1, .p 0 0), (5, .v (.string (bs y.1)))]) (fun y => [[.int .i64 x0_Kind, .int .i64 x0_Floor, .int .i64 x0_Car, .int .i64 x0_At]]) (fun y => []) (fun y => y.2) (fun y => K34 ((y.1)) = some r) ?_ (fun j34 => ?_)
    · rintro ⟨x5_34, B3⟩ hp
      subst hK34
      show WJ _ _ _ B3 [] _ _ ⟨[(1, .p 0 0), (5, .v (.string (bs x5_34)))], [[.int .i64 x0_Kind, .int .i64 x0_Floor, .int .i64 x0_Car, .int .i64 x0_At]], true, 0⟩
      refine WJ.drF 201 rfl gmix (by kernel_rfl) (by kernel_rfl) rfl (fun D4 eD4 abD4 => ?_)
      obtain ⟨t29, e29, hp⟩ := bindS hp
      refine WD.cl (R := R_9 t29) (fun hm h k => R_9.mono hm h k) rfl (fun ids H' fr => f54_ok e29) ?_
      rintro v B5 ⟨abB5, ivB5⟩ rfl
      refine ⟨_, rfl, ?_⟩
      obtain ⟨s30, e30, hp⟩ := bindS hp
      refine WD.hd (v := .string (bs s30)) rfl rfl rfl rfl (fun ids H' s0 h0 f => side_pure rfl rfl h0 f) (fun ids H' fr => opD_bin rfl (evV_eq _ _ _ _ _ rfl) (evV_eq _ _ _ _ _ rfl) (bin_sadd e30)) rfl ?_
      obtain ⟨s31, e31, hp⟩ := bindS hp
      refine WD.hd (v := .string (bs s31)) rfl rfl rfl rfl (fun ids H' s0 h0 f => side_pure rfl rfl h0 f) (fun ids H' fr => opD_bin rfl (evV_eq _ _ _ _ _ rfl) (evV_eq _ _ _ _ _ rfl) (bin_sadd e31)) rfl ?_
      obtain ⟨t34, e34, hp⟩ := bindS hp
      refine WD.cl (R := R_9 t34) (fun hm h k => R_9.mono hm h k) rfl (fun ids H' fr => f54_ok e34) ?_
      rintro v B6 ⟨abB6, ivB6⟩ rfl
      refine ⟨_, rfl, ?_⟩
      obtain ⟨s35, e35, hp⟩ := bindS hp
      refine WD.hd (v := .string (bs s35)) rfl rfl rfl rfl (fun ids H' s0 h0 f => side_pure rfl rfl h0 f) (fun ids H' fr => opD_bin rfl (evV_eq _ _ _ _ _ rfl) (evV_eq _ _ _ _ _ rfl) (bin_sadd e35)) rfl ?_
      refine WD.done rfl ?_
      obtain rfl := endS (show some _ = some r from hp)
      exact WJ.rt 200 rfl rfl rfl (fun ids H' fr => ⟨fr.ext0, rfl⟩)
    · refine WJ.ci 203 hp rfl rfl rfl rfl rfl rfl rfl rfl rfl (fun hc13 hp => ?_) (fun hc13 hp => ?_)
      · obtain ⟨t16, e16, hp⟩ := bindS hp
        refine WJ.cl 205 (R := R_9 t16) (fun hm h k => R_9.mono hm h k) rfl (fun ids H' fr => f54_ok e16) ?_
        rintro v B2 ⟨abB2, ivB2⟩ rfl
        refine ⟨_, rfl, ?_⟩
        obtain ⟨s17, e17, hp⟩ := bindS hp
        refine WJ.hd (v := .string (bs s17)) 200 rfl rfl rfl rfl (fun ids H' fr => opD_bin rfl (evV_eq _ _ _ _ _ rfl) (evV_eq _ _ _ _ _ rfl) (bin_sadd e17)) rfl ?_
        obtain ⟨s18, e18, hp⟩ := bindS hp
        refine WJ.hd (v := .string (bs s18)) 200 rfl rfl rfl rfl (fun ids H' fr => opD_bin rfl (evV_eq _ _ _ _ _ rfl) (evV_eq _ _ _ _ _ rfl) (bin_sadd e18)) rfl ?_
        exact WJ.goto 2 (j34 (s18, B2) hp) rfl rfl (by exact ⟨rfl, rfl, trivial⟩) rfl rfl rfl
      · obtain ⟨s25, e25, hp⟩ := bindS hp
        refine WJ.hd (v := .string (bs s25)) 209 rfl rfl rfl rfl (fun ids H' fr => opD_slh rfl (evV_eq _ _ _ _ _ rfl) (evV_eq _ _ _ _ _ rfl) (evV_eq _ _ _ _ _ rfl) (sliceD_lh us9 e25)) rfl ?_
        exact WJ.goto 2 (j34 (s25, B1) hp) rfl rfl (by exact ⟨rfl, rfl, trivial⟩) rfl rfl rfl
end
end Go.Proofs.YtbdndhodggdhkaaDoor
