import Derived.Test.YtenddpplfdgcfaaSb
set_option linter.unusedVariables false
set_option linter.unusedSimpArgs false
namespace Go.Proofs.Ytenddpplfdgcfaa
open Go Go.Det Go.RowKit
noncomputable section
/-! 8 tipstaff/tipstaffkit.OwnInts -/
def f8 (x0 : List Int) : Option (List Int) :=
  (apd 8 ([] : List Int) x0).bind fun l5 =>
  some l5
set_option maxRecDepth 20000 in
theorem f8_ok {H : Hp} {a_x0 : Option Addr} {c_x0 : Nat} {x0 : List Int} {r : List Int} (g_x0 : SlF 0 H intC a_x0 c_x0 x0) (hp : f8 x0 = some r) :
    SCall Try.prog 8 [.slice a_x0 x0.length c_x0] H (Ret fun v H' => Ext H H' ∧ R_22 r H.next H' v) := by
  unfold f8 at hp
  replace hp := topS hp
  refine SCall.g Try.func8 rfl rfl rfl rfl rfl (l := [(0, .v (.slice a_x0 x0.length c_x0))]) (fun _ => rfl) (fun B abB => ?_)
  refine WJ.bs (cs := encL iE ([] : List Int)) (sz := 1) (pl := []) 206 rfl rfl rfl rfl rfl (fun _ _ => rfl) (fun _ => by rfl) rfl rfl ?_
  intro b3
  refine ⟨_, rfl, ?_⟩
  obtain ⟨l5, e5, hp⟩ := bindS hp
  obtain ⟨bd5, rfl⟩ := apd_some e5
  refine WJ.ap (L := ([] : List Int)) (L2 := x0) 201 0 rfl rfl rfl rfl rfl rfl rfl rfl (el22 rfl) rfl (fun _ => rfl) (fun _ => rfl) rfl (fun ids H' fr => (g_x0.mono (Nat.zero_le _) fr.ext0.abv).srcF) bd5 ?_
  intro a5 c5
  refine ⟨_, rfl, ?_⟩
  obtain rfl := endS (show some _ = some r from hp)
  exact WJ.rt 202 rfl rfl rfl (fun ids H' fr => ⟨fr.ext0, ⟨_, _, rfl, (fr.slOwn (j := 0) rfl rfl (Nat.le_refl _))⟩⟩)
/-! 9 tipstaff/scrub.All -/
def f9_l2 (x0 : List Int) (x1 : Int) (x2 : List Shown) : Nat → (List Sight) → Int → Option ((List Sight))
  | 0, _, _ => none
  | n + 1, l0, x45 =>
    (some (decide (x45 < (x2.length : Int)))).bind fun t46 =>
    if t46 then
      (rd x2 x45).bind fun t47 =>
      (f26 x0 x1 (Shown.mk t47.d t47.sv t47.fa t47.ho t47.at_ t47.pa)).bind fun t53 =>
      (apd 24 l0 ([t53])).bind fun l55 =>
      f9_l2 x0 x1 x2 n l55 (IntKind.i64.wrap (x45 + 1))
    else
      some (l0)

def f9_l1 (x0 : List Int) (x2 : List Shown) : Nat → Int → Option ((Unit) ⊕ ((List Sight) × Int))
  | 0, _ => none
  | n + 1, x26 =>
    (some (decide (x26 < (x2.length : Int)))).bind fun t27 =>
    if t27 then
      (rd x2 x26).bind fun t28 =>
      (f14 x0 (Shown.mk t28.d t28.sv t28.fa t28.ho t28.at_ t28.pa)).bind fun t32 =>
      if t32 = 0 then
        f9_l1 x0 x2 n (IntKind.i64.wrap (x26 + 1))
      else
        some (Sum.inr ([], t32))
    else
      some (Sum.inl ())

def f9 (k : Nat) (x0 : List Int) (x1 : Int) (x2 : List Shown) : Option ((List Sight) × Int) :=
  (f25 x0).bind fun t18 =>
  if t18.1 = 0 then
    (f9_l1 x0 x2 k 0).bind fun s => match s with
      | .inl _ => 
        if x1 < 1 then
          some ([], 2)
        else
          if x1 > 3 then
            some ([], 2)
          else
            (f9_l2 x0 x1 x2 k ([]) 0).bind fun l0_2 =>
              some (l0_2, 0)
      | .inr st => some st
  else
    some ([], t18.1)
set_option maxRecDepth 20000 in
theorem f9_ok {k : Nat} {H : Hp} {a_x0 : Option Addr} {c_x0 : Nat} {a_x2 : Option Addr} {c_x2 : Nat} {x0 : List Int} {x1 : Int} {x2 : List Shown} {r : (List Sight) × Int} (g_x0 : SlF 0 H intC a_x0 c_x0 x0) (g_x2 : SlF 0 H ShownC a_x2 c_x2 x2) (hp : f9 k x0 x1 x2 = some r) :
    SCall Try.prog 9 [.slice a_x0 x0.length c_x0, .int .i64 x1, .slice a_x2 x2.length c_x2] H (Ret fun v H' => Ext H H' ∧ R_26_27 r H.next H' v) := by
  unfold f9 at hp
  replace hp := topS hp
  refine SCall.g Try.func9 rfl rfl rfl rfl rfl (l := [(0, .v (.slice a_x0 x0.length c_x0)), (1, .v (.int .i64 x1)), (2, .v (.slice a_x2 x2.length c_x2))]) (fun _ => rfl) (fun B abB => ?_)
  obtain ⟨⟨t18_0, t18_1⟩, e18, hp⟩ := bindS hp
  refine WJ.cl 209 (R := R_27_3 ⟨t18_0, t18_1⟩) (fun hm h k => R_27_3.mono hm h k) rfl (fun ids H' fr => f25_ok (g_x0.mono (Nat.zero_le _) fr.ext0.abv) e18) ?_
  rintro v B1 abB1 rfl
  refine ⟨_, rfl, ?_⟩
  refine WJ.cn 209 hp rfl rfl rfl rfl rfl rfl rfl rfl rfl (fun hc22 hp => ?_) (fun hc22 hp => ?_)
  · obtain rfl := endS (show some _ = some r from hp)
    exact WJ.rt 208 rfl rfl rfl (fun ids H' fr => ⟨fr.ext0, ⟨_, _, rfl, SlF.nil⟩⟩)
  · refine WJ.adv 11 rfl ?_
    obtain ⟨K1, hK1, hp⟩ : ∃ K, K = _ ∧ Option.bind _ K = some r := ⟨_, rfl, cutS hp⟩
    refine WJ.cut 2 (α := Hp) (fun y => [(0, .v (.slice a_x0 x0.length c_x0)), (1, .v (.int .i64 x1)), (2, .v (.slice a_x2 x2.length c_x2))]) (fun y => []) (fun y => []) (fun y => y) (fun y => K1 (Sum.inl ()) = some r) ?_ (fun j1 => ?_)
    · rintro B4 hp
      subst hK1
      show WJ _ _ _ B4 [] _ _ ⟨[(0, .v (.slice a_x0 x0.length c_x0)), (1, .v (.int .i64 x1)), (2, .v (.slice a_x2 x2.length c_x2))], [], true, 0⟩
      refine WJ.ci 204 hp rfl rfl rfl rfl rfl rfl rfl rfl rfl (fun hc38 hp => ?_) (fun hc38 hp => ?_)
      · obtain rfl := endS (show some _ = some r from hp)
        exact WJ.rt 211 rfl rfl rfl (fun ids H' fr => ⟨fr.ext0, ⟨_, _, rfl, SlF.nil⟩⟩)
      · refine WJ.ci 202 hp rfl rfl rfl rfl rfl rfl rfl rfl rfl (fun hc41 hp => ?_) (fun hc41 hp => ?_)
        · obtain rfl := endS (show some _ = some r from hp)
          exact WJ.rt 208 rfl rfl rfl (fun ids H' fr => ⟨fr.ext0, ⟨_, _, rfl, SlF.nil⟩⟩)
        · refine WJ.adv 16 rfl ?_
          refine WJ.nw 3 ?_
          obtain ⟨K2, hK2, hp⟩ : ∃ K, K = _ ∧ Option.bind _ K = some r := ⟨_, rfl, cutS hp⟩
          refine WJ.cut 2 (α := (List Sight) × (Option Addr) × Nat × Hp) (fun y => [(13, .v (.slice y.2.1 y.1.length y.2.2.1))]) (fun y => []) (fun y => [⟨y.2.1, y.2.2.1, 3, encL Sight.cs y.1⟩]) (fun y => y.2.2.2) (fun y => K2 (y.1) = some r) ?_ (fun j2 => ?_)
          · rintro ⟨l0_2, a0_2, c0_2, B7⟩ hp
            subst hK2
            show WJ _ _ _ B7 [⟨a0_2, c0_2, 3, encL Sight.cs l0_2⟩] _ _ ⟨[(13, .v (.slice a0_2 l0_2.length c0_2))], [], true, 0⟩
            obtain rfl := endS (show some _ = some r from hp)
            exact WJ.rt 206 rfl rfl rfl (fun ids H' fr => ⟨fr.ext0, ⟨_, _, rfl, (fr.slOwn (j := 0) rfl rfl (Nat.le_refl _))⟩⟩)
          · refine WJ.lp 200 (α := Nat × (List Sight) × Int × (Option Addr) × Nat × Hp) (fun y => [(0, .v (.slice a_x0 x0.length c_x0)), (1, .v (.int .i64 x1)), (13, .v (.slice y.2.2.2.1 y.2.1.length y.2.2.2.2.1)), (43, .v (.slice a_x2 x2.length c_x2)), (44, .v (.int .i64 ((x2.length : Nat) : Int))), (45, .v (.int .i64 y.2.2.1))]) (fun y => []) (fun y => [⟨y.2.2.2.1, y.2.2.2.2.1, 3, encL Sight.cs y.2.1⟩]) (fun y => y.2.2.2.2.2) (fun y => y.1) (fun y => Option.bind (f9_l2 x0 x1 x2 y.1 y.2.1 y.2.2.1) K2 = some r) (k, ([] : List Sight), 0, none, 0, B4) rfl hp (by exact ⟨rfl, rfl, rfl, rfl, rfl, rfl, trivial⟩) rfl rfl rfl ?_
            rintro ⟨n, l0, x45, a0, c0, B5⟩ hp ih2
            show WJ _ _ _ B5 [⟨a0, c0, 3, encL Sight.cs l0⟩] _ _ ⟨[(0, .v (.slice a_x0 x0.length c_x0)), (1, .v (.int .i64 x1)), (13, .v (.slice a0 l0.length c0)), (43, .v (.slice a_x2 x2.length c_x2)), (44, .v (.int .i64 ((x2.length : Nat) : Int))), (45, .v (.int .i64 x45))], [], true, 0⟩
            replace hp : Option.bind (f9_l2 x0 x1 x2 n l0 x45) K2 = some r := hp
            cases n with
            | zero => rw [f9_l2] at hp; exact (noS hp).elim
            | succ n =>
              rw [f9_l2] at hp
              obtain ⟨t46, e46, hp⟩ := bindS hp
              refine WJ.cv 202 (b := t46) (H0 := ⟨.nil, 0, 0⟩) rfl rfl rfl rfl rfl rfl (by rw [← endS e46]; exact rfl) rfl ?_
              cases t46
              · replace hp := (itS hp).2 Bool.false_ne_true
                exact WJ.goto 4 (j2 (l0, a0, c0, B5) hp) rfl rfl (by exact ⟨rfl, trivial⟩) rfl rfl rfl
              · replace hp := (itS hp).1 rfl
                obtain ⟨⟨t47_d, t47_sv, t47_fa, t47_ho, t47_at_, t47_pa⟩, e47, hp⟩ := bindS hp
                obtain ⟨b47, o47, cs47, i47, rfl, p47⟩ := g_x2.at e47 u23 sz36
                refine WJ.hd (v := .pointer (some ⟨b47, o47, none⟩)) 208 rfl rfl rfl rfl (fun ids H' fr => opD_indexAddr rfl (evV_eq _ _ _ _ _ rfl) (evV_eq _ _ _ _ _ rfl) (i47 _)) rfl ?_
                refine WJ.hd (v := .agg ⟨[.int .i64 t47_d, .bool t47_sv, .bool t47_fa, .bool t47_ho, .int .i64 t47_at_, .int .i64 t47_pa]⟩) 200 rfl rfl rfl rfl (fun ids H' fr => opD_load rfl (evV_eq _ _ _ _ _ rfl) ((p47.mono (Nat.zero_le _) fr.ext0.abv).loadN (d := 0) ag36 sz36 rfl rfl)) rfl ?_
                obtain ⟨⟨t53_floor, t53_panel, t53_out⟩, e53, hp⟩ := bindS hp
                refine WJ.cl 208 (R := R_32 ⟨t53_floor, t53_panel, t53_out⟩) (fun hm h k => R_32.mono hm h k) rfl (fun ids H' fr => f26_ok (x2 := (Shown.mk t47_d t47_sv t47_fa t47_ho t47_at_ t47_pa)) (g_x0.mono (Nat.zero_le _) fr.ext0.abv) e53) ?_
                rintro v B6 abB6 rfl
                refine ⟨_, rfl, ?_⟩
                refine WJ.bs (cs := encL Sight.cs [(Sight.mk t53_floor t53_panel t53_out)]) (sz := 3) (pl := [(0, .agg ⟨[.int .i64 t53_floor, .int .i64 t53_panel, .bool t53_out]⟩)]) 200 rfl rfl rfl rfl rfl (fun _ _ => rfl) (fun _ => by rfl) rfl rfl ?_
                intro b54
                refine ⟨_, rfl, ?_⟩
                obtain ⟨l55, e55, hp⟩ := bindS hp
                obtain ⟨bd55, rfl⟩ := apd_some e55
                refine WJ.ap (L := l0) (L2 := [(Sight.mk t53_floor t53_panel t53_out)]) 200 0 rfl rfl rfl rfl rfl rfl rfl rfl (el26 rfl) rfl (fun _ => rfl) (fun _ => rfl) rfl (fun ids H' fr => fr.srcOwn (enc := Sight.cs) (sz := 3) (j := 1) (fun _ => rfl) (by decide) rfl) bd55 ?_
                intro a55 c55
                refine ⟨_, rfl, ?_⟩
                refine WJ.pop [⟨a55, c55, 3, encL Sight.cs (l0 ++ ([(Sight.mk t53_floor t53_panel t53_out)]))⟩] rfl ?_
                exact WJ.ag 207 rfl (by exact ⟨rfl, rfl, rfl, rfl, rfl, rfl, trivial⟩) rfl rfl rfl (ih2 (n, (l0 ++ ([(Sight.mk t53_floor t53_panel t53_out)])), IntKind.i64.wrap (x45 + 1), a55, c55, B6) hp (Nat.lt_succ_self _))
    · refine WJ.lp 200 (α := Nat × Int × Hp) (fun y => [(0, .v (.slice a_x0 x0.length c_x0)), (1, .v (.int .i64 x1)), (2, .v (.slice a_x2 x2.length c_x2)), (24, .v (.slice a_x2 x2.length c_x2)), (25, .v (.int .i64 ((x2.length : Nat) : Int))), (26, .v (.int .i64 y.2.1))]) (fun y => []) (fun y => []) (fun y => y.2.2) (fun y => y.1) (fun y => Option.bind (f9_l1 x0 x2 y.1 y.2.1) K1 = some r) (k, 0, B1) rfl hp (by exact ⟨rfl, rfl, rfl, rfl, rfl, rfl, trivial⟩) rfl rfl rfl ?_
      rintro ⟨n, x26, B2⟩ hp ih1
      show WJ _ _ _ B2 [] _ _ ⟨[(0, .v (.slice a_x0 x0.length c_x0)), (1, .v (.int .i64 x1)), (2, .v (.slice a_x2 x2.length c_x2)), (24, .v (.slice a_x2 x2.length c_x2)), (25, .v (.int .i64 ((x2.length : Nat) : Int))), (26, .v (.int .i64 x26))], [], true, 0⟩
      replace hp : Option.bind (f9_l1 x0 x2 n x26) K1 = some r := hp
      cases n with
      | zero => rw [f9_l1] at hp; exact (noS hp).elim
      | succ n =>
        rw [f9_l1] at hp
        obtain ⟨t27, e27, hp⟩ := bindS hp
        refine WJ.cv 202 (b := t27) (H0 := ⟨.nil, 0, 0⟩) rfl rfl rfl rfl rfl rfl (by rw [← endS e27]; exact rfl) rfl ?_
        cases t27
        · replace hp := (itS hp).2 Bool.false_ne_true
          exact WJ.goto 4 (j1 B2 hp) rfl rfl (by exact ⟨rfl, rfl, rfl, trivial⟩) rfl rfl rfl
        · replace hp := (itS hp).1 rfl
          obtain ⟨⟨t28_d, t28_sv, t28_fa, t28_ho, t28_at_, t28_pa⟩, e28, hp⟩ := bindS hp
          obtain ⟨b28, o28, cs28, i28, rfl, p28⟩ := g_x2.at e28 u23 sz36
          refine WJ.hd (v := .pointer (some ⟨b28, o28, none⟩)) 208 rfl rfl rfl rfl (fun ids H' fr => opD_indexAddr rfl (evV_eq _ _ _ _ _ rfl) (evV_eq _ _ _ _ _ rfl) (i28 _)) rfl ?_
          refine WJ.hd (v := .agg ⟨[.int .i64 t28_d, .bool t28_sv, .bool t28_fa, .bool t28_ho, .int .i64 t28_at_, .int .i64 t28_pa]⟩) 200 rfl rfl rfl rfl (fun ids H' fr => opD_load rfl (evV_eq _ _ _ _ _ rfl) ((p28.mono (Nat.zero_le _) fr.ext0.abv).loadN (d := 0) ag36 sz36 rfl rfl)) rfl ?_
          obtain ⟨t32, e32, hp⟩ := bindS hp
          refine WJ.cl 207 (R := R_27 t32) (fun hm h k => R_27.mono hm h k) rfl (fun ids H' fr => f14_ok (x1 := (Shown.mk t28_d t28_sv t28_fa t28_ho t28_at_ t28_pa)) (g_x0.mono (Nat.zero_le _) fr.ext0.abv) e32) ?_
          rintro v B3 abB3 rfl
          refine ⟨_, rfl, ?_⟩
          refine WJ.cn 205 hp rfl rfl rfl rfl rfl rfl rfl rfl rfl (fun hc34 hp => ?_) (fun hc34 hp => ?_)
          · subst hK1
            obtain rfl := endS (show some _ = some r from hp)
            exact WJ.rt 208 rfl rfl rfl (fun ids H' fr => ⟨fr.ext0, ⟨_, _, rfl, SlF.nil⟩⟩)
          · exact WJ.ag 208 rfl (by exact ⟨rfl, rfl, rfl, rfl, rfl, rfl, trivial⟩) rfl rfl rfl (ih1 (n, IntKind.i64.wrap (x26 + 1), B3) hp (Nat.lt_succ_self _))
/-! 27 tipstaff/tipstaffref07.Check -/
def f27_l1 (x0 : List Int) : Nat → Int → Option ((Int × Int) ⊕ (Unit))
  | 0, _ => none
  | n + 1, x4 =>
    if x4 < (x0.length : Int) then
      (rd x0 x4).bind fun t21 =>
      if t21 < 1 then
        some (Sum.inl (2, x4))
      else
        (rd x0 x4).bind fun t27 =>
        if t27 > 1000 then
          some (Sum.inl (2, x4))
        else
          f27_l1 x0 n (IntKind.i64.wrap (x4 + 1))
    else
      some (Sum.inr ())

def f27 (k : Nat) (x0 : List Int) : Option (Int × Int) :=
  if (x0.length : Int) < 1 then
    some (4, 0)
  else
    if (x0.length : Int) > 63 then
      some (4, 0)
    else
      (f27_l1 x0 k 0).bind fun s => match s with
        | .inl st => some st
        | .inr _ => 
          some (0, 0)
set_option maxRecDepth 20000 in
theorem f27_ok {k : Nat} {H : Hp} {a_x0 : Option Addr} {c_x0 : Nat} {x0 : List Int} {r : Int × Int} (g_x0 : SlF 0 H intC a_x0 c_x0 x0) (hp : f27 k x0 = some r) :
    SCall Try.prog 27 [.slice a_x0 x0.length c_x0] H (Ret fun v H' => Ext H H' ∧ R_27_3 r H.next H' v) := by
  unfold f27 at hp
  replace hp := topS hp
  refine SCall.g Try.func27 rfl rfl rfl rfl rfl (l := [(0, .v (.slice a_x0 x0.length c_x0))]) (fun _ => rfl) (fun B abB => ?_)
  refine WJ.ci 210 hp rfl rfl rfl rfl rfl rfl rfl rfl rfl (fun hc7 hp => ?_) (fun hc7 hp => ?_)
  · obtain rfl := endS (show some _ = some r from hp)
    exact WJ.rt 212 rfl rfl rfl (fun ids H' fr => ⟨fr.ext0, rfl⟩)
  · refine WJ.ci 203 hp rfl rfl rfl rfl rfl rfl rfl rfl rfl (fun hc11 hp => ?_) (fun hc11 hp => ?_)
    · obtain rfl := endS (show some _ = some r from hp)
      exact WJ.rt 208 rfl rfl rfl (fun ids H' fr => ⟨fr.ext0, rfl⟩)
    · refine WJ.adv 10 rfl ?_
      obtain ⟨K3, hK3, hp⟩ : ∃ K, K = _ ∧ Option.bind _ K = some r := ⟨_, rfl, cutS hp⟩
      refine WJ.cut 2 (α := Unit) (fun y => []) (fun y => []) (fun y => []) (fun y => B) (fun y => K3 (Sum.inr ()) = some r) ?_ (fun j3 => ?_)
      · rintro u hp
        subst hK3
        show WJ _ _ _ B [] _ _ ⟨[], [], true, 0⟩
        obtain rfl := endS (show some _ = some r from hp)
        exact WJ.rt 205 rfl rfl rfl (fun ids H' fr => ⟨fr.ext0, rfl⟩)
      · refine WJ.lp 200 (α := Nat × Int) (fun y => [(0, .v (.slice a_x0 x0.length c_x0)), (4, .v (.int .i64 y.2))]) (fun y => []) (fun y => []) (fun y => B) (fun y => y.1) (fun y => Option.bind (f27_l1 x0 y.1 y.2) K3 = some r) (k, 0) rfl hp (by exact ⟨rfl, rfl, trivial⟩) rfl rfl rfl ?_
        rintro ⟨n, x4⟩ hp ih3
        show WJ _ _ _ B [] _ _ ⟨[(0, .v (.slice a_x0 x0.length c_x0)), (4, .v (.int .i64 x4))], [], true, 0⟩
        replace hp : Option.bind (f27_l1 x0 n x4) K3 = some r := hp
        cases n with
        | zero => rw [f27_l1] at hp; exact (noS hp).elim
        | succ n =>
          rw [f27_l1] at hp
          refine WJ.ci 206 hp rfl rfl rfl rfl rfl rfl rfl rfl rfl (fun hc16 hp => ?_) (fun hc16 hp => ?_)
          · obtain ⟨t21, e21, hp⟩ := bindS hp
            obtain ⟨b21, o21, cs21, i21, rfl, p21⟩ := g_x0.at e21 u22 sz3
            refine WJ.hd (v := .pointer (some ⟨b21, o21, none⟩)) 209 rfl rfl rfl rfl (fun ids H' fr => opD_indexAddr rfl (evV_eq _ _ _ _ _ rfl) (evV_eq _ _ _ _ _ rfl) (i21 _)) rfl ?_
            refine WJ.hd (v := .int .i64 t21) 200 rfl rfl rfl rfl (fun ids H' fr => opD_load rfl (evV_eq _ _ _ _ _ rfl) ((p21.mono (Nat.zero_le _) fr.ext0.abv).load (d := 0) ag3 rfl)) rfl ?_
            refine WJ.ci 200 hp rfl rfl rfl rfl rfl rfl rfl rfl rfl (fun hc23 hp => ?_) (fun hc23 hp => ?_)
            · subst hK3
              obtain rfl := endS (show some _ = some r from hp)
              exact WJ.rt 215 rfl rfl rfl (fun ids H' fr => ⟨fr.ext0, rfl⟩)
            · obtain ⟨t27, e27, hp⟩ := bindS hp
              obtain ⟨b27, o27, cs27, i27, rfl, p27⟩ := g_x0.at e27 u22 sz3
              refine WJ.hd (v := .pointer (some ⟨b27, o27, none⟩)) 203 rfl rfl rfl rfl (fun ids H' fr => opD_indexAddr rfl (evV_eq _ _ _ _ _ rfl) (evV_eq _ _ _ _ _ rfl) (i27 _)) rfl ?_
              refine WJ.hd (v := .int .i64 t27) 200 rfl rfl rfl rfl (fun ids H' fr => opD_load rfl (evV_eq _ _ _ _ _ rfl) ((p27.mono (Nat.zero_le _) fr.ext0.abv).load (d := 0) ag3 rfl)) rfl ?_
              refine WJ.ci 200 hp rfl rfl rfl rfl rfl rfl rfl rfl rfl (fun hc29 hp => ?_) (fun hc29 hp => ?_)
              · subst hK3
                obtain rfl := endS (show some _ = some r from hp)
                exact WJ.rt 209 rfl rfl rfl (fun ids H' fr => ⟨fr.ext0, rfl⟩)
              · exact WJ.ag 210 rfl (by exact ⟨rfl, rfl, trivial⟩) rfl rfl rfl (ih3 (n, IntKind.i64.wrap (x4 + 1)) hp (Nat.lt_succ_self _))
          · exact WJ.goto 3 (j3 () hp) rfl rfl (by exact trivial) rfl rfl rfl
/-! 39 tipstaff/tipstaffref07.positions -/
def f39_l1 (x0 : List Int) : Nat → (List Int) → Int → Option ((List Int))
  | 0, _, _ => none
  | n + 1, l0, x4 =>
    if x4 < (x0.length : Int) then
      (rd l0 x4).bind fun t15 =>
      (rd x0 x4).bind fun t19 =>
      (apd 8 l0 ([IntKind.i64.wrap (t15 + t19)])).bind fun l23 =>
      f39_l1 x0 n l23 (IntKind.i64.wrap (x4 + 1))
    else
      some (l0)

def f39 (k : Nat) (x0 : List Int) : Option (List Int) :=
  (f39_l1 x0 k ([0]) 0).bind fun l0_4 =>
    some l0_4
set_option maxRecDepth 20000 in
theorem f39_ok {k : Nat} {H : Hp} {a_x0 : Option Addr} {c_x0 : Nat} {x0 : List Int} {r : List Int} (g_x0 : SlF 0 H intC a_x0 c_x0 x0) (hp : f39 k x0 = some r) :
    SCall Try.prog 39 [.slice a_x0 x0.length c_x0] H (Ret fun v H' => Ext H H' ∧ R_22 r H.next H' v) := by
  unfold f39 at hp
  replace hp := topS hp
  refine SCall.g Try.func39 rfl rfl rfl rfl rfl (l := [(0, .v (.slice a_x0 x0.length c_x0))]) (fun _ => rfl) (fun B abB => ?_)
  refine WJ.bs (cs := encL iE [0]) (sz := 1) (pl := [(0, .int .i64 0)]) 206 rfl rfl rfl rfl rfl (fun _ _ => rfl) (fun _ => by rfl) rfl rfl ?_
  intro b5
  refine ⟨_, rfl, ?_⟩
  refine WJ.adv 8 rfl ?_
  obtain ⟨K4, hK4, hp⟩ : ∃ K, K = _ ∧ Option.bind _ K = some r := ⟨_, rfl, cutS hp⟩
  refine WJ.cut 2 (α := (List Int) × (Option Addr) × Nat) (fun y => [(3, .v (.slice y.2.1 y.1.length y.2.2))]) (fun y => []) (fun y => [⟨y.2.1, y.2.2, 1, encL iE y.1⟩]) (fun y => B) (fun y => K4 (y.1) = some r) ?_ (fun j4 => ?_)
  · rintro ⟨l0_4, a0_4, c0_4⟩ hp
    subst hK4
    show WJ _ _ _ B [⟨a0_4, c0_4, 1, encL iE l0_4⟩] _ _ ⟨[(3, .v (.slice a0_4 l0_4.length c0_4))], [], true, 0⟩
    obtain rfl := endS (show some _ = some r from hp)
    exact WJ.rt 205 rfl rfl rfl (fun ids H' fr => ⟨fr.ext0, ⟨_, _, rfl, (fr.slOwn (j := 0) rfl rfl (Nat.le_refl _))⟩⟩)
  · refine WJ.lp 200 (α := Nat × (List Int) × Int × (Option Addr) × Nat) (fun y => [(0, .v (.slice a_x0 x0.length c_x0)), (3, .v (.slice y.2.2.2.1 y.2.1.length y.2.2.2.2)), (4, .v (.int .i64 y.2.2.1))]) (fun y => []) (fun y => [⟨y.2.2.2.1, y.2.2.2.2, 1, encL iE y.2.1⟩]) (fun y => B) (fun y => y.1) (fun y => Option.bind (f39_l1 x0 y.1 y.2.1 y.2.2.1) K4 = some r) (k, [0], 0, (some ⟨b5, 0, none⟩), 1) rfl hp (by exact ⟨rfl, rfl, rfl, trivial⟩) rfl rfl rfl ?_
    rintro ⟨n, l0, x4, a0, c0⟩ hp ih4
    show WJ _ _ _ B [⟨a0, c0, 1, encL iE l0⟩] _ _ ⟨[(0, .v (.slice a_x0 x0.length c_x0)), (3, .v (.slice a0 l0.length c0)), (4, .v (.int .i64 x4))], [], true, 0⟩
    replace hp : Option.bind (f39_l1 x0 n l0 x4) K4 = some r := hp
    cases n with
    | zero => rw [f39_l1] at hp; exact (noS hp).elim
    | succ n =>
      rw [f39_l1] at hp
      refine WJ.ci 206 hp rfl rfl rfl rfl rfl rfl rfl rfl rfl (fun hc9 hp => ?_) (fun hc9 hp => ?_)
      · refine WJ.dr 205 rfl gmix (by kernel_rfl) (by kernel_rfl) rfl ?_
        obtain ⟨t15, e15, hp⟩ := bindS hp
        refine WD.ownAddr (enc := iE) (sz := 1) 0 (fun _ => rfl) rfl rfl e15 (fun b15 hb15 => ?_)
        refine WD.hd (v := .pointer (some ⟨b15, (x4).toNat * 1, none⟩)) rfl rfl rfl rfl (fun _ _ _ _ _ => side_no) (fun ids H' fr => opD_indexAddr rfl (evV_eq _ _ _ _ _ rfl) (evV_eq _ _ _ _ _ rfl) (ownIdx hb15 e15 u22 sz3)) rfl ?_
        refine WD.hd (v := .int .i64 t15) rfl rfl rfl rfl (fun _ _ _ _ _ => side_no) (fun ids H' fr => opD_load rfl (evV_eq _ _ _ _ _ rfl) ((fr.ownEl (enc := iE) (sz := 1) (j := 0) (fun _ => rfl) rfl hb15 e15).load (d := 0) ag3 rfl)) rfl ?_
        obtain ⟨t19, e19, hp⟩ := bindS hp
        obtain ⟨b19, o19, cs19, i19, rfl, p19⟩ := g_x0.at e19 u22 sz3
        refine WD.hd (v := .pointer (some ⟨b19, o19, none⟩)) rfl rfl rfl rfl (fun _ _ _ _ _ => side_no) (fun ids H' fr => opD_indexAddr rfl (evV_eq _ _ _ _ _ rfl) (evV_eq _ _ _ _ _ rfl) (i19 _)) rfl ?_
        refine WD.hd (v := .int .i64 t19) rfl rfl rfl rfl (fun _ _ _ _ _ => side_no) (fun ids H' fr => opD_load rfl (evV_eq _ _ _ _ _ rfl) ((p19.mono (Nat.zero_le _) fr.ext0.abv).load (d := 0) ag3 rfl)) rfl ?_
        refine WD.bs (cs := encL iE [IntKind.i64.wrap (t15 + t19)]) (sz := 1) (pl := [(0, .int .i64 (IntKind.i64.wrap (t15 + t19)))]) rfl rfl rfl rfl rfl (fun _ _ => rfl) (fun _ => by rfl) rfl rfl ?_
        intro b22
        refine ⟨_, rfl, ?_⟩
        obtain ⟨l23, e23, hp⟩ := bindS hp
        obtain ⟨bd23, rfl⟩ := apd_some e23
        refine WD.ap (L := l0) (L2 := [IntKind.i64.wrap (t15 + t19)]) 0 rfl rfl rfl rfl rfl rfl rfl rfl (el22 rfl) rfl (fun _ => rfl) (fun _ => rfl) rfl (fun ids H' fr => fr.srcOwn (enc := iE) (sz := 1) (j := 1) (fun _ => rfl) (by decide) rfl) bd23 ?_
        intro a23 c23
        refine ⟨_, rfl, ?_⟩
        refine WD.pop [⟨a23, c23, 1, encL iE (l0 ++ ([IntKind.i64.wrap (t15 + t19)]))⟩] rfl ?_
        refine WD.done rfl ?_
        exact WJ.ag 206 rfl (by exact ⟨rfl, rfl, rfl, trivial⟩) rfl rfl rfl (ih4 (n, (l0 ++ ([IntKind.i64.wrap (t15 + t19)])), IntKind.i64.wrap (x4 + 1), a23, c23) hp (Nat.lt_succ_self _))
      · exact WJ.goto 3 (j4 (l0, a0, c0) hp) rfl rfl (by exact ⟨rfl, trivial⟩) rfl rfl rfl
/-! 30 tipstaff/tipstaffref07.Height -/
def f30 (k : Nat) (x0 : List Int) : Option (Int × Int) :=
  (f27 k x0).bind fun t8 =>
  if t8.1 = 0 then
    (f39 k x0).bind fun t15 =>
    (rd t15 (x0.length : Int)).bind fun t18 =>
    some (t18, 0)
  else
    some (0, t8.1)
set_option maxRecDepth 20000 in
theorem f30_ok {k : Nat} {H : Hp} {a_x0 : Option Addr} {c_x0 : Nat} {x0 : List Int} {r : Int × Int} (g_x0 : SlF 0 H intC a_x0 c_x0 x0) (hp : f30 k x0 = some r) :
    SCall Try.prog 30 [.slice a_x0 x0.length c_x0] H (Ret fun v H' => Ext H H' ∧ R_3_27 r H.next H' v) := by
  unfold f30 at hp
  replace hp := topS hp
  refine SCall.g Try.func30 rfl rfl rfl rfl rfl (l := [(0, .v (.slice a_x0 x0.length c_x0))]) (fun _ => rfl) (fun B abB => ?_)
  obtain ⟨⟨t8_0, t8_1⟩, e8, hp⟩ := bindS hp
  refine WJ.cl 208 (R := R_27_3 ⟨t8_0, t8_1⟩) (fun hm h k => R_27_3.mono hm h k) rfl (fun ids H' fr => f27_ok (g_x0.mono (Nat.zero_le _) fr.ext0.abv) e8) ?_
  rintro v B1 abB1 rfl
  refine ⟨_, rfl, ?_⟩
  refine WJ.cn 210 hp rfl rfl rfl rfl rfl rfl rfl rfl rfl (fun hc12 hp => ?_) (fun hc12 hp => ?_)
  · obtain rfl := endS (show some _ = some r from hp)
    exact WJ.rt 208 rfl rfl rfl (fun ids H' fr => ⟨fr.ext0, rfl⟩)
  · obtain ⟨t15, e15, hp⟩ := bindS hp
    refine WJ.cl 206 (R := R_22 t15) (fun hm h k => R_22.mono hm h k) rfl (fun ids H' fr => f39_ok (g_x0.mono (Nat.zero_le _) fr.ext0.abv) e15) ?_
    rintro v B2 abB2 ⟨a_t15, c_t15, rfl, g_t15⟩
    refine ⟨_, rfl, ?_⟩
    obtain ⟨t18, e18, hp⟩ := bindS hp
    obtain ⟨b18, o18, cs18, i18, rfl, p18⟩ := g_t15.at e18 u22 sz3
    refine WJ.hd (v := .pointer (some ⟨b18, o18, none⟩)) 202 rfl rfl rfl rfl (fun ids H' fr => opD_indexAddr rfl (evV_eq _ _ _ _ _ rfl) (evV_eq _ _ _ _ _ rfl) (i18 _)) rfl ?_
    refine WJ.hd (v := .int .i64 t18) 200 rfl rfl rfl rfl (fun ids H' fr => opD_load rfl (evV_eq _ _ _ _ _ rfl) ((p18.mono (Nat.zero_le _) (fr.abv.le (Nat.zero_le _))).load (d := 0) ag3 rfl)) rfl ?_
    obtain rfl := endS (show some _ = some r from hp)
    exact WJ.rt 203 rfl rfl rfl (fun ids H' fr => ⟨fr.ext0, rfl⟩)
/-! 15 tipstaff/tipstaffref32.Check -/
def f15 (k : Nat) (x0 : List Int) (x1 : Shown) : Option Int :=
  (f30 k x0).bind fun t9 =>
  if t9.2 = 0 then
    if x1.d < 0 then
      some 2
    else
      if x1.d > 3 then
        some 2
      else
        if x1.at_ < 0 then
          some 2
        else
          if x1.at_ > t9.1 then
            some 2
          else
            if x1.pa < 0 then
              some 2
            else
              if x1.pa > 20 then
                some 2
              else
                some 0
  else
    some t9.2
set_option maxRecDepth 20000 in
theorem f15_ok {k : Nat} {H : Hp} {a_x0 : Option Addr} {c_x0 : Nat} {x0 : List Int} {x1 : Shown} {r : Int} (g_x0 : SlF 0 H intC a_x0 c_x0 x0) (hp : f15 k x0 x1 = some r) :
    SCall Try.prog 15 [.slice a_x0 x0.length c_x0, .agg ⟨[.int .i64 x1.d, .bool x1.sv, .bool x1.fa, .bool x1.ho, .int .i64 x1.at_, .int .i64 x1.pa]⟩] H (Ret fun v H' => Ext H H' ∧ R_27 r H.next H' v) := by
  obtain ⟨x1_d, x1_sv, x1_fa, x1_ho, x1_at_, x1_pa⟩ := x1
  unfold f15 at hp
  replace hp := topS hp
  refine SCall.g Try.func15 rfl rfl rfl rfl rfl (l := [(0, .v (.slice a_x0 x0.length c_x0)), (1, .v (.agg ⟨[.int .i64 x1_d, .bool x1_sv, .bool x1_fa, .bool x1_ho, .int .i64 x1_at_, .int .i64 x1_pa]⟩))]) (fun _ => rfl) (fun B abB => ?_)
  obtain ⟨⟨t9_0, t9_1⟩, e9, hp⟩ := bindS hp
  refine WJ.cl 208 (R := R_3_27 ⟨t9_0, t9_1⟩) (fun hm h k => R_3_27.mono hm h k) rfl (fun ids H' fr => f30_ok (g_x0.mono (Nat.zero_le _) fr.ext0.abv) e9) ?_
  rintro v B1 abB1 rfl
  refine ⟨_, rfl, ?_⟩
  refine WJ.cn 211 hp rfl rfl rfl rfl rfl rfl rfl rfl rfl (fun hc14 hp => ?_) (fun hc14 hp => ?_)
  · obtain rfl := endS (show some _ = some r from hp)
    exact WJ.rt 208 rfl rfl rfl (fun ids H' fr => ⟨fr.ext0, rfl⟩)
  · refine WJ.ci 207 hp rfl rfl rfl rfl rfl rfl rfl rfl rfl (fun hc19 hp => ?_) (fun hc19 hp => ?_)
    · obtain rfl := endS (show some _ = some r from hp)
      exact WJ.rt 233 rfl rfl rfl (fun ids H' fr => ⟨fr.ext0, rfl⟩)
    · refine WJ.ci 203 hp rfl rfl rfl rfl rfl rfl rfl rfl rfl (fun hc23 hp => ?_) (fun hc23 hp => ?_)
      · obtain rfl := endS (show some _ = some r from hp)
        exact WJ.rt 229 rfl rfl rfl (fun ids H' fr => ⟨fr.ext0, rfl⟩)
      · refine WJ.ci 204 hp rfl rfl rfl rfl rfl rfl rfl rfl rfl (fun hc28 hp => ?_) (fun hc28 hp => ?_)
        · obtain rfl := endS (show some _ = some r from hp)
          exact WJ.rt 224 rfl rfl rfl (fun ids H' fr => ⟨fr.ext0, rfl⟩)
        · refine WJ.ci 205 hp rfl rfl rfl rfl rfl rfl rfl rfl rfl (fun hc34 hp => ?_) (fun hc34 hp => ?_)
          · obtain rfl := endS (show some _ = some r from hp)
            exact WJ.rt 218 rfl rfl rfl (fun ids H' fr => ⟨fr.ext0, rfl⟩)
          · refine WJ.ci 204 hp rfl rfl rfl rfl rfl rfl rfl rfl rfl (fun hc39 hp => ?_) (fun hc39 hp => ?_)
            · obtain rfl := endS (show some _ = some r from hp)
              exact WJ.rt 213 rfl rfl rfl (fun ids H' fr => ⟨fr.ext0, rfl⟩)
            · refine WJ.ci 204 hp rfl rfl rfl rfl rfl rfl rfl rfl rfl (fun hc44 hp => ?_) (fun hc44 hp => ?_)
              · obtain rfl := endS (show some _ = some r from hp)
                exact WJ.rt 208 rfl rfl rfl (fun ids H' fr => ⟨fr.ext0, rfl⟩)
              · obtain rfl := endS (show some _ = some r from hp)
                exact WJ.rt 210 rfl rfl rfl (fun ids H' fr => ⟨fr.ext0, rfl⟩)
/-! 50 tipstaff/tipstaffref07.asked -/
def f50 (k : Nat) (x0 : List Int) (x1 : Int) (x2 : Int) (x3 : Int) : Option Int :=
  (f30 k x0).bind fun t13 =>
  (if t13.2 = 0 then
    if x1 < 0 then
      some (2)
    else
      if x1 > t13.1 then
        some (2)
      else
        if x2 < 0 then
          some (2)
        else
          if x2 > (x0.length : Int) then
            some (2)
          else
            if x3 < 0 then
              some (2)
            else
              if x3 > 20 then
                some (2)
              else
                some (t13.2)
  else
    some (t13.2)).bind fun x10_5 =>
    some x10_5
set_option maxRecDepth 20000 in
theorem f50_ok {k : Nat} {H : Hp} {a_x0 : Option Addr} {c_x0 : Nat} {x0 : List Int} {x1 : Int} {x2 : Int} {x3 : Int} {r : Int} (g_x0 : SlF 0 H intC a_x0 c_x0 x0) (hp : f50 k x0 x1 x2 x3 = some r) :
    SCall Try.prog 50 [.slice a_x0 x0.length c_x0, .int .i64 x1, .int .i64 x2, .int .i64 x3] H (Ret fun v H' => Ext H H' ∧ R_27 r H.next H' v) := by
  unfold f50 at hp
  replace hp := topS hp
  refine SCall.g Try.func50 rfl rfl rfl rfl rfl (l := [(0, .v (.slice a_x0 x0.length c_x0)), (1, .v (.int .i64 x1)), (2, .v (.int .i64 x2)), (3, .v (.int .i64 x3))]) (fun _ => rfl) (fun B abB => ?_)
  obtain ⟨⟨t13_0, t13_1⟩, e13, hp⟩ := bindS hp
  refine WJ.cl 207 (R := R_3_27 ⟨t13_0, t13_1⟩) (fun hm h k => R_3_27.mono hm h k) rfl (fun ids H' fr => f30_ok (g_x0.mono (Nat.zero_le _) fr.ext0.abv) e13) ?_
  rintro v B1 abB1 rfl
  refine ⟨_, rfl, ?_⟩
  refine WJ.adv 8 rfl ?_
  obtain ⟨K5, hK5, hp⟩ : ∃ K, K = _ ∧ Option.bind _ K = some r := ⟨_, rfl, cutS hp⟩
  refine WJ.cut 2 (α := Int) (fun y => [(10, .v (.int .i64 y))]) (fun y => []) (fun y => []) (fun y => B1) (fun y => K5 ((y)) = some r) ?_ (fun j5 => ?_)
  · rintro x10_5 hp
    subst hK5
    show WJ _ _ _ B1 [] _ _ ⟨[(10, .v (.int .i64 x10_5))], [], true, 0⟩
    obtain rfl := endS (show some _ = some r from hp)
    exact WJ.rt 205 rfl rfl rfl (fun ids H' fr => ⟨fr.ext0, rfl⟩)
  · refine WJ.ci 202 hp rfl rfl rfl rfl rfl rfl rfl rfl rfl (fun hc17 hp => ?_) (fun hc17 hp => ?_)
    · refine WJ.ci 202 hp rfl rfl rfl rfl rfl rfl rfl rfl rfl (fun hc20 hp => ?_) (fun hc20 hp => ?_)
      · exact WJ.goto 29 (j5 2 hp) rfl rfl (by exact ⟨rfl, trivial⟩) rfl rfl rfl
      · refine WJ.ci 203 hp rfl rfl rfl rfl rfl rfl rfl rfl rfl (fun hc24 hp => ?_) (fun hc24 hp => ?_)
        · exact WJ.goto 25 (j5 2 hp) rfl rfl (by exact ⟨rfl, trivial⟩) rfl rfl rfl
        · refine WJ.ci 203 hp rfl rfl rfl rfl rfl rfl rfl rfl rfl (fun hc28 hp => ?_) (fun hc28 hp => ?_)
          · exact WJ.goto 21 (j5 2 hp) rfl rfl (by exact ⟨rfl, trivial⟩) rfl rfl rfl
          · refine WJ.ci 205 hp rfl rfl rfl rfl rfl rfl rfl rfl rfl (fun hc34 hp => ?_) (fun hc34 hp => ?_)
            · exact WJ.goto 15 (j5 2 hp) rfl rfl (by exact ⟨rfl, trivial⟩) rfl rfl rfl
            · refine WJ.ci 203 hp rfl rfl rfl rfl rfl rfl rfl rfl rfl (fun hc38 hp => ?_) (fun hc38 hp => ?_)
              · exact WJ.goto 11 (j5 2 hp) rfl rfl (by exact ⟨rfl, trivial⟩) rfl rfl rfl
              · refine WJ.ci 203 hp rfl rfl rfl rfl rfl rfl rfl rfl rfl (fun hc42 hp => ?_) (fun hc42 hp => ?_)
                · exact WJ.goto 7 (j5 2 hp) rfl rfl (by exact ⟨rfl, trivial⟩) rfl rfl rfl
                · exact WJ.goto 5 (j5 t13_1 hp) rfl rfl (by exact ⟨rfl, trivial⟩) rfl rfl rfl
    · exact WJ.goto 30 (j5 t13_1 hp) rfl rfl (by exact ⟨rfl, trivial⟩) rfl rfl rfl
/-! 51 tipstaff/tipstaffref07.apart -/
def f51 (x0 : Int) (x1 : Int) : Option Int :=
  some (IntKind.i64.wrap ((gmax x0 x1) - (gmin x0 x1)))
set_option maxRecDepth 20000 in
theorem f51_ok {H : Hp} {x0 : Int} {x1 : Int} {r : Int} (hp : f51 x0 x1 = some r) :
    SCall Try.prog 51 [.int .i64 x0, .int .i64 x1] H (Ret fun v H' => Ext H H' ∧ R_3 r H.next H' v) := by
  unfold f51 at hp
  replace hp := topS hp
  refine SCall.g Try.func51 rfl rfl rfl rfl rfl (l := [(0, .v (.int .i64 x0)), (1, .v (.int .i64 x1))]) (fun _ => rfl) (fun B abB => ?_)
  refine WJ.hd (v := .int .i64 (gmax x0 x1)) 208 rfl rfl rfl rfl (fun ids H' fr => opD_max rfl rfl rfl (evV_eq (v := .v (.int .i64 x0)) _ _ _ _ _ rfl) (evV_eq (v := .v (.int .i64 x1)) _ _ _ _ _ rfl)) rfl ?_
  refine WJ.hd (v := .int .i64 (gmin x0 x1)) 202 rfl rfl rfl rfl (fun ids H' fr => opD_min rfl rfl rfl (evV_eq (v := .v (.int .i64 x0)) _ _ _ _ _ rfl) (evV_eq (v := .v (.int .i64 x1)) _ _ _ _ _ rfl)) rfl ?_
  obtain rfl := endS (show some _ = some r from hp)
  exact WJ.rt 203 rfl rfl rfl (fun ids H' fr => ⟨fr.ext0, rfl⟩)
/-! 37 tipstaff/tipstaffref07.Nearest -/
def f37_l1 (x1 : Int) (t17 : List Int) : Nat → Int → Int → Option (Int)
  | 0, _, _ => none
  | n + 1, x8, x9 =>
    if x9 < (t17.length : Int) then
      ((rd t17 x9).bind fun t26 =>
      (f51 t26 x1).bind fun t29 =>
      (rd t17 x8).bind fun t32 =>
      (f51 t32 x1).bind fun t35 =>
      if t29 < t35 then
        some (x9)
      else
        some (x8)).bind fun x8_7 =>
        f37_l1 x1 t17 n x8_7 (IntKind.i64.wrap (x9 + 1))
    else
      some (x8)

def f37 (k : Nat) (x0 : List Int) (x1 : Int) : Option (Int × Int) :=
  (f50 k x0 x1 0 0).bind fun t12 =>
  if t12 = 0 then
    (f39 k x0).bind fun t17 =>
    (f37_l1 x1 t17 k 0 1).bind fun x8_6 =>
      some (x8_6, 0)
  else
    some (0, t12)
set_option maxRecDepth 20000 in
theorem f37_ok {k : Nat} {H : Hp} {a_x0 : Option Addr} {c_x0 : Nat} {x0 : List Int} {x1 : Int} {r : Int × Int} (g_x0 : SlF 0 H intC a_x0 c_x0 x0) (hp : f37 k x0 x1 = some r) :
    SCall Try.prog 37 [.slice a_x0 x0.length c_x0, .int .i64 x1] H (Ret fun v H' => Ext H H' ∧ R_3_27 r H.next H' v) := by
  unfold f37 at hp
  replace hp := topS hp
  refine SCall.g Try.func37 rfl rfl rfl rfl rfl (l := [(0, .v (.slice a_x0 x0.length c_x0)), (1, .v (.int .i64 x1))]) (fun _ => rfl) (fun B abB => ?_)
  obtain ⟨t12, e12, hp⟩ := bindS hp
  refine WJ.cl 209 (R := R_27 t12) (fun hm h k => R_27.mono hm h k) rfl (fun ids H' fr => f50_ok (g_x0.mono (Nat.zero_le _) fr.ext0.abv) e12) ?_
  rintro v B1 abB1 rfl
  refine ⟨_, rfl, ?_⟩
  refine WJ.cn 206 hp rfl rfl rfl rfl rfl rfl rfl rfl rfl (fun hc14 hp => ?_) (fun hc14 hp => ?_)
  · obtain rfl := endS (show some _ = some r from hp)
    exact WJ.rt 208 rfl rfl rfl (fun ids H' fr => ⟨fr.ext0, rfl⟩)
  · obtain ⟨t17, e17, hp⟩ := bindS hp
    refine WJ.cl 206 (R := R_22 t17) (fun hm h k => R_22.mono hm h k) rfl (fun ids H' fr => f39_ok (g_x0.mono (Nat.zero_le _) fr.ext0.abv) e17) ?_
    rintro v B2 abB2 ⟨a_t17, c_t17, rfl, g_t17⟩
    refine ⟨_, rfl, ?_⟩
    refine WJ.adv 12 rfl ?_
    obtain ⟨K6, hK6, hp⟩ : ∃ K, K = _ ∧ Option.bind _ K = some r := ⟨_, rfl, cutS hp⟩
    refine WJ.cut 2 (α := Int × Hp) (fun y => [(8, .v (.int .i64 y.1))]) (fun y => []) (fun y => []) (fun y => y.2) (fun y => K6 (y.1) = some r ∧ SlF H.next y.2 intC a_t17 c_t17 t17) ?_ (fun j6 => ?_)
    · rintro ⟨x8_6, B8⟩ ⟨hp, g_t17⟩
      subst hK6
      show WJ _ _ _ B8 [] _ _ ⟨[(8, .v (.int .i64 x8_6))], [], true, 0⟩
      obtain rfl := endS (show some _ = some r from hp)
      exact WJ.rt 206 rfl rfl rfl (fun ids H' fr => ⟨fr.ext0, rfl⟩)
    · refine WJ.lp 200 (α := Nat × Int × Int × Hp) (fun y => [(1, .v (.int .i64 x1)), (7, .v (.slice a_t17 t17.length c_t17)), (8, .v (.int .i64 y.2.1)), (9, .v (.int .i64 y.2.2.1))]) (fun y => []) (fun y => []) (fun y => y.2.2.2) (fun y => y.1) (fun y => Option.bind (f37_l1 x1 t17 y.1 y.2.1 y.2.2.1) K6 = some r ∧ SlF H.next y.2.2.2 intC a_t17 c_t17 t17) (k, 0, 1, B2) rfl ⟨hp, g_t17⟩ (by exact ⟨rfl, rfl, rfl, rfl, trivial⟩) rfl rfl rfl ?_
      rintro ⟨n, x8, x9, B3⟩ ⟨hp, g_t17⟩ ih6
      show WJ _ _ _ B3 [] _ _ ⟨[(1, .v (.int .i64 x1)), (7, .v (.slice a_t17 t17.length c_t17)), (8, .v (.int .i64 x8)), (9, .v (.int .i64 x9))], [], true, 0⟩
      replace hp : Option.bind (f37_l1 x1 t17 n x8 x9) K6 = some r := hp
      cases n with
      | zero => rw [f37_l1] at hp; exact (noS hp).elim
      | succ n =>
        rw [f37_l1] at hp
        refine WJ.ci 206 hp rfl rfl rfl rfl rfl rfl rfl rfl rfl (fun hc21 hp => ?_) (fun hc21 hp => ?_)
        · refine WJ.adv 6 rfl ?_
          obtain ⟨K7, hK7, hp⟩ : ∃ K, K = _ ∧ Option.bind _ K = some r := ⟨_, rfl, cutS hp⟩
          refine WJ.cut 3 (α := Int × Hp) (fun y => [(1, .v (.int .i64 x1)), (7, .v (.slice a_t17 t17.length c_t17)), (8, .v (.int .i64 y.1)), (9, .v (.int .i64 x9))]) (fun y => []) (fun y => []) (fun y => y.2) (fun y => K7 ((y.1)) = some r ∧ SlF H.next y.2 intC a_t17 c_t17 t17) ?_ (fun j7 => ?_)
          · rintro ⟨x8_7, B7⟩ ⟨hp, g_t17⟩
            subst hK7
            show WJ _ _ _ B7 [] _ _ ⟨[(1, .v (.int .i64 x1)), (7, .v (.slice a_t17 t17.length c_t17)), (8, .v (.int .i64 x8_7)), (9, .v (.int .i64 x9))], [], true, 0⟩
            exact WJ.ag 205 rfl (by exact ⟨rfl, rfl, rfl, rfl, trivial⟩) rfl rfl rfl (ih6 (n, x8_7, IntKind.i64.wrap (x9 + 1), B7) ⟨hp, g_t17⟩ (Nat.lt_succ_self _))
          · refine WJ.drF 200 rfl gmix (by kernel_rfl) (by kernel_rfl) rfl (fun D4 eD4 abD4 => ?_)
            have o_g_t17 := g_t17
            obtain ⟨t26, e26, hp⟩ := bindS hp
            obtain ⟨b26, o26, cs26, i26, rfl, p26⟩ := o_g_t17.at e26 u22 sz3
            have lt26 := Nat.lt_of_lt_of_le p26.2.1 abD4.next
            refine WD.hd (v := .pointer (some ⟨b26, o26, none⟩)) rfl rfl rfl rfl (fun ids H' s0 h0 f => side_pure rfl rfl h0 f) (fun ids H' fr => opD_indexAddr rfl (evV_eq _ _ _ _ _ rfl) (evV_eq _ _ _ _ _ rfl) (i26 _)) rfl ?_
            refine WD.hd (v := .int .i64 t26) rfl rfl rfl rfl (fun ids H' s0 h0 f => side_load rfl rfl rfl lt26 h0 f) (fun ids H' fr => opD_load rfl (evV_eq _ _ _ _ _ rfl) ((p26.mono (Nat.zero_le _) (fr.abv.le (Nat.zero_le _))).load (d := 0) ag3 rfl)) rfl ?_
            obtain ⟨t29, e29, hp⟩ := bindS hp
            refine WD.cl (R := R_3 t29) (fun hm h k => R_3.mono hm h k) rfl (fun ids H' fr => f51_ok e29) ?_
            rintro v B5 abB5 rfl
            refine ⟨_, rfl, ?_⟩
            replace g_t17 := g_t17.mono (Nat.le_refl _) (abB5.le (Nat.zero_le _))
            replace p26 := p26.mono (Nat.le_refl _) (abB5.le (Nat.zero_le _))
            obtain ⟨t32, e32, hp⟩ := bindS hp
            obtain ⟨b32, o32, cs32, i32, rfl, p32⟩ := o_g_t17.at e32 u22 sz3
            have lt32 := Nat.lt_of_lt_of_le p32.2.1 abD4.next
            replace p32 := p32.mono (Nat.le_refl _) (abB5.le (Nat.zero_le _))
            refine WD.hd (v := .pointer (some ⟨b32, o32, none⟩)) rfl rfl rfl rfl (fun ids H' s0 h0 f => side_pure rfl rfl h0 f) (fun ids H' fr => opD_indexAddr rfl (evV_eq _ _ _ _ _ rfl) (evV_eq _ _ _ _ _ rfl) (i32 _)) rfl ?_
            refine WD.hd (v := .int .i64 t32) rfl rfl rfl rfl (fun ids H' s0 h0 f => side_load rfl rfl rfl lt32 h0 f) (fun ids H' fr => opD_load rfl (evV_eq _ _ _ _ _ rfl) ((p32.mono (Nat.zero_le _) (fr.abv.le (Nat.zero_le _))).load (d := 0) ag3 rfl)) rfl ?_
            obtain ⟨t35, e35, hp⟩ := bindS hp
            refine WD.cl (R := R_3 t35) (fun hm h k => R_3.mono hm h k) rfl (fun ids H' fr => f51_ok e35) ?_
            rintro v B6 abB6 rfl
            refine ⟨_, rfl, ?_⟩
            replace g_t17 := g_t17.mono (Nat.le_refl _) (abB6.le (Nat.zero_le _))
            replace p26 := p26.mono (Nat.le_refl _) (abB6.le (Nat.zero_le _))
            replace p32 := p32.mono (Nat.le_refl _) (abB6.le (Nat.zero_le _))
            refine WD.ci hp rfl rfl rfl rfl rfl rfl rfl rfl rfl (fun hc36 hp => ?_) (fun hc36 hp => ?_)
            · refine WD.done rfl ?_
              exact WJ.goto 6 (j7 (x9, B6) ⟨hp, g_t17⟩) rfl rfl (by exact ⟨rfl, rfl, rfl, rfl, trivial⟩) rfl rfl rfl
            · refine WD.done rfl ?_
              exact WJ.goto 3 (j7 (x8, B6) ⟨hp, g_t17⟩) rfl rfl (by exact ⟨rfl, rfl, rfl, rfl, trivial⟩) rfl rfl rfl
        · exact WJ.goto 3 (j6 (x8, B3) ⟨hp, g_t17⟩) rfl rfl (by exact ⟨rfl, trivial⟩) rfl rfl rfl
/-! 28 tipstaff/tipstaffref32.show -/
def f28 (k : Nat) (x0 : List Int) (x1 : Int) (x2 : Shown) : Option Sight :=
  if x2.d = x1 then
    if x2.sv then
      if x2.fa then
        some (Sight.mk (-1) x2.pa true)
      else
        if x2.ho then
          some (Sight.mk (-1) 0 false)
        else
          (f37 k x0 x2.at_).bind fun t34 =>
          some (Sight.mk t34.1 x2.pa false)
    else
      some (Sight.mk (-1) 0 true)
  else
    some (Sight.mk (-1) 0 false)
set_option maxRecDepth 20000 in
theorem f28_ok {k : Nat} {H : Hp} {a_x0 : Option Addr} {c_x0 : Nat} {x0 : List Int} {x1 : Int} {x2 : Shown} {r : Sight} (g_x0 : SlF 0 H intC a_x0 c_x0 x0) (hp : f28 k x0 x1 x2 = some r) :
    SCall Try.prog 28 [.slice a_x0 x0.length c_x0, .int .i64 x1, .agg ⟨[.int .i64 x2.d, .bool x2.sv, .bool x2.fa, .bool x2.ho, .int .i64 x2.at_, .int .i64 x2.pa]⟩] H (Ret fun v H' => Ext H H' ∧ R_32 r H.next H' v) := by
  obtain ⟨x2_d, x2_sv, x2_fa, x2_ho, x2_at_, x2_pa⟩ := x2
  unfold f28 at hp
  replace hp := topS hp
  refine SCall.g Try.func28 rfl rfl rfl rfl rfl (l := [(0, .v (.slice a_x0 x0.length c_x0)), (1, .v (.int .i64 x1)), (2, .v (.agg ⟨[.int .i64 x2_d, .bool x2_sv, .bool x2_fa, .bool x2_ho, .int .i64 x2_at_, .int .i64 x2_pa]⟩))]) (fun _ => rfl) (fun B abB => ?_)
  refine WJ.cn 212 hp rfl rfl rfl rfl rfl rfl rfl rfl rfl (fun hc13 hp => ?_) (fun hc13 hp => ?_)
  · obtain rfl := endS (show some _ = some r from hp)
    exact WJ.rt 208 rfl rfl rfl (fun ids H' fr => ⟨fr.ext0, rfl⟩)
  · cases x2_sv
    · replace hp := (itS hp).2 Bool.false_ne_true
      obtain rfl := endS (show some _ = some r from hp)
      exact WJ.rt 216 rfl rfl rfl (fun ids H' fr => ⟨fr.ext0, rfl⟩)
    · replace hp := (itS hp).1 rfl
      cases x2_fa
      · replace hp := (itS hp).2 Bool.false_ne_true
        cases x2_ho
        · replace hp := (itS hp).2 Bool.false_ne_true
          obtain ⟨⟨t34_0, t34_1⟩, e34, hp⟩ := bindS hp
          refine WJ.cl 232 (R := R_3_27 ⟨t34_0, t34_1⟩) (fun hm h k => R_3_27.mono hm h k) rfl (fun ids H' fr => f37_ok (g_x0.mono (Nat.zero_le _) fr.ext0.abv) e34) ?_
          rintro v B1 abB1 rfl
          refine ⟨_, rfl, ?_⟩
          obtain rfl := endS (show some _ = some r from hp)
          exact WJ.rt 214 rfl rfl rfl (fun ids H' fr => ⟨fr.ext0, rfl⟩)
        · replace hp := (itS hp).1 rfl
          obtain rfl := endS (show some _ = some r from hp)
          exact WJ.rt 230 rfl rfl rfl (fun ids H' fr => ⟨fr.ext0, rfl⟩)
      · replace hp := (itS hp).1 rfl
        obtain rfl := endS (show some _ = some r from hp)
        exact WJ.rt 225 rfl rfl rfl (fun ids H' fr => ⟨fr.ext0, rfl⟩)
/-! 10 tipstaff/tipstaffref32.All -/
def f10_l2 (k : Nat) (x0 : List Int) (x1 : Int) (x2 : List Shown) : Nat → (List Sight) → Int → Option ((List Sight))
  | 0, _, _ => none
  | n + 1, l0, x13 =>
    if x13 < (x2.length : Int) then
      (rd x2 x13).bind fun t54 =>
      (f28 k x0 x1 t54).bind fun t56 =>
      (apd 24 l0 ([t56])).bind fun l58 =>
      f10_l2 k x0 x1 x2 n l58 (IntKind.i64.wrap (x13 + 1))
    else
      some (l0)

def f10_l1 (k : Nat) (x0 : List Int) (x2 : List Shown) : Nat → Int → Option (((List Sight) × Int) ⊕ (Unit))
  | 0, _ => none
  | n + 1, x10 =>
    if x10 < (x2.length : Int) then
      (rd x2 x10).bind fun t31 =>
      (f15 k x0 t31).bind fun t33 =>
      if t33 = 0 then
        f10_l1 k x0 x2 n (IntKind.i64.wrap (x10 + 1))
      else
        some (Sum.inl ([], t33))
    else
      some (Sum.inr ())

def f10 (k : Nat) (x0 : List Int) (x1 : Int) (x2 : List Shown) : Option ((List Sight) × Int) :=
  (f27 k x0).bind fun t16 =>
  if t16.1 = 0 then
    (f10_l1 k x0 x2 k 0).bind fun s => match s with
      | .inl st => some st
      | .inr _ => 
        if x1 < 1 then
          some ([], 2)
        else
          if x1 > 3 then
            some ([], 2)
          else
            (f10_l2 k x0 x1 x2 k ([]) 0).bind fun l0_9 =>
              some (l0_9, 0)
  else
    some ([], t16.1)
set_option maxRecDepth 20000 in
theorem f10_ok {k : Nat} {H : Hp} {a_x0 : Option Addr} {c_x0 : Nat} {a_x2 : Option Addr} {c_x2 : Nat} {x0 : List Int} {x1 : Int} {x2 : List Shown} {r : (List Sight) × Int} (g_x0 : SlF 0 H intC a_x0 c_x0 x0) (g_x2 : SlF 0 H ShownC a_x2 c_x2 x2) (hp : f10 k x0 x1 x2 = some r) :
    SCall Try.prog 10 [.slice a_x0 x0.length c_x0, .int .i64 x1, .slice a_x2 x2.length c_x2] H (Ret fun v H' => Ext H H' ∧ R_26_27 r H.next H' v) := by
  unfold f10 at hp
  replace hp := topS hp
  refine SCall.g Try.func10 rfl rfl rfl rfl rfl (l := [(0, .v (.slice a_x0 x0.length c_x0)), (1, .v (.int .i64 x1)), (2, .v (.slice a_x2 x2.length c_x2))]) (fun _ => rfl) (fun B abB => ?_)
  obtain ⟨⟨t16_0, t16_1⟩, e16, hp⟩ := bindS hp
  refine WJ.cl 209 (R := R_27_3 ⟨t16_0, t16_1⟩) (fun hm h k => R_27_3.mono hm h k) rfl (fun ids H' fr => f27_ok (g_x0.mono (Nat.zero_le _) fr.ext0.abv) e16) ?_
  rintro v B1 abB1 rfl
  refine ⟨_, rfl, ?_⟩
  refine WJ.cn 209 hp rfl rfl rfl rfl rfl rfl rfl rfl rfl (fun hc20 hp => ?_) (fun hc20 hp => ?_)
  · obtain rfl := endS (show some _ = some r from hp)
    exact WJ.rt 208 rfl rfl rfl (fun ids H' fr => ⟨fr.ext0, ⟨_, _, rfl, SlF.nil⟩⟩)
  · refine WJ.adv 9 rfl ?_
    obtain ⟨K8, hK8, hp⟩ : ∃ K, K = _ ∧ Option.bind _ K = some r := ⟨_, rfl, cutS hp⟩
    refine WJ.cut 2 (α := Hp) (fun y => [(0, .v (.slice a_x0 x0.length c_x0)), (1, .v (.int .i64 x1)), (2, .v (.slice a_x2 x2.length c_x2))]) (fun y => []) (fun y => []) (fun y => y) (fun y => K8 (Sum.inr ()) = some r) ?_ (fun j8 => ?_)
    · rintro B4 hp
      subst hK8
      show WJ _ _ _ B4 [] _ _ ⟨[(0, .v (.slice a_x0 x0.length c_x0)), (1, .v (.int .i64 x1)), (2, .v (.slice a_x2 x2.length c_x2))], [], true, 0⟩
      refine WJ.ci 204 hp rfl rfl rfl rfl rfl rfl rfl rfl rfl (fun hc38 hp => ?_) (fun hc38 hp => ?_)
      · obtain rfl := endS (show some _ = some r from hp)
        exact WJ.rt 211 rfl rfl rfl (fun ids H' fr => ⟨fr.ext0, ⟨_, _, rfl, SlF.nil⟩⟩)
      · refine WJ.ci 202 hp rfl rfl rfl rfl rfl rfl rfl rfl rfl (fun hc41 hp => ?_) (fun hc41 hp => ?_)
        · obtain rfl := endS (show some _ = some r from hp)
          exact WJ.rt 208 rfl rfl rfl (fun ids H' fr => ⟨fr.ext0, ⟨_, _, rfl, SlF.nil⟩⟩)
        · refine WJ.adv 14 rfl ?_
          refine WJ.nw 3 ?_
          obtain ⟨K9, hK9, hp⟩ : ∃ K, K = _ ∧ Option.bind _ K = some r := ⟨_, rfl, cutS hp⟩
          refine WJ.cut 2 (α := (List Sight) × (Option Addr) × Nat × Hp) (fun y => [(12, .v (.slice y.2.1 y.1.length y.2.2.1))]) (fun y => []) (fun y => [⟨y.2.1, y.2.2.1, 3, encL Sight.cs y.1⟩]) (fun y => y.2.2.2) (fun y => K9 (y.1) = some r) ?_ (fun j9 => ?_)
          · rintro ⟨l0_9, a0_9, c0_9, B7⟩ hp
            subst hK9
            show WJ _ _ _ B7 [⟨a0_9, c0_9, 3, encL Sight.cs l0_9⟩] _ _ ⟨[(12, .v (.slice a0_9 l0_9.length c0_9))], [], true, 0⟩
            obtain rfl := endS (show some _ = some r from hp)
            exact WJ.rt 206 rfl rfl rfl (fun ids H' fr => ⟨fr.ext0, ⟨_, _, rfl, (fr.slOwn (j := 0) rfl rfl (Nat.le_refl _))⟩⟩)
          · refine WJ.lp 200 (α := Nat × (List Sight) × Int × (Option Addr) × Nat × Hp) (fun y => [(0, .v (.slice a_x0 x0.length c_x0)), (1, .v (.int .i64 x1)), (2, .v (.slice a_x2 x2.length c_x2)), (12, .v (.slice y.2.2.2.1 y.2.1.length y.2.2.2.2.1)), (13, .v (.int .i64 y.2.2.1))]) (fun y => []) (fun y => [⟨y.2.2.2.1, y.2.2.2.2.1, 3, encL Sight.cs y.2.1⟩]) (fun y => y.2.2.2.2.2) (fun y => y.1) (fun y => Option.bind (f10_l2 k x0 x1 x2 y.1 y.2.1 y.2.2.1) K9 = some r) (k, ([] : List Sight), 0, none, 0, B4) rfl hp (by exact ⟨rfl, rfl, rfl, rfl, rfl, trivial⟩) rfl rfl rfl ?_
            rintro ⟨n, l0, x13, a0, c0, B5⟩ hp ih9
            show WJ _ _ _ B5 [⟨a0, c0, 3, encL Sight.cs l0⟩] _ _ ⟨[(0, .v (.slice a_x0 x0.length c_x0)), (1, .v (.int .i64 x1)), (2, .v (.slice a_x2 x2.length c_x2)), (12, .v (.slice a0 l0.length c0)), (13, .v (.int .i64 x13))], [], true, 0⟩
            replace hp : Option.bind (f10_l2 k x0 x1 x2 n l0 x13) K9 = some r := hp
            cases n with
            | zero => rw [f10_l2] at hp; exact (noS hp).elim
            | succ n =>
              rw [f10_l2] at hp
              refine WJ.ci 206 hp rfl rfl rfl rfl rfl rfl rfl rfl rfl (fun hc46 hp => ?_) (fun hc46 hp => ?_)
              · obtain ⟨⟨t54_d, t54_sv, t54_fa, t54_ho, t54_at_, t54_pa⟩, e54, hp⟩ := bindS hp
                obtain ⟨b54, o54, cs54, i54, rfl, p54⟩ := g_x2.at e54 u23 sz36
                refine WJ.hd (v := .pointer (some ⟨b54, o54, none⟩)) 211 rfl rfl rfl rfl (fun ids H' fr => opD_indexAddr rfl (evV_eq _ _ _ _ _ rfl) (evV_eq _ _ _ _ _ rfl) (i54 _)) rfl ?_
                refine WJ.hd (v := .agg ⟨[.int .i64 t54_d, .bool t54_sv, .bool t54_fa, .bool t54_ho, .int .i64 t54_at_, .int .i64 t54_pa]⟩) 200 rfl rfl rfl rfl (fun ids H' fr => opD_load rfl (evV_eq _ _ _ _ _ rfl) ((p54.mono (Nat.zero_le _) fr.ext0.abv).loadN (d := 0) ag36 sz36 rfl rfl)) rfl ?_
                obtain ⟨⟨t56_floor, t56_panel, t56_out⟩, e56, hp⟩ := bindS hp
                refine WJ.cl 200 (R := R_32 ⟨t56_floor, t56_panel, t56_out⟩) (fun hm h k => R_32.mono hm h k) rfl (fun ids H' fr => f28_ok (x2 := (Shown.mk t54_d t54_sv t54_fa t54_ho t54_at_ t54_pa)) (g_x0.mono (Nat.zero_le _) fr.ext0.abv) e56) ?_
                rintro v B6 abB6 rfl
                refine ⟨_, rfl, ?_⟩
                refine WJ.bs (cs := encL Sight.cs [(Sight.mk t56_floor t56_panel t56_out)]) (sz := 3) (pl := [(0, .agg ⟨[.int .i64 t56_floor, .int .i64 t56_panel, .bool t56_out]⟩)]) 200 rfl rfl rfl rfl rfl (fun _ _ => rfl) (fun _ => by rfl) rfl rfl ?_
                intro b57
                refine ⟨_, rfl, ?_⟩
                obtain ⟨l58, e58, hp⟩ := bindS hp
                obtain ⟨bd58, rfl⟩ := apd_some e58
                refine WJ.ap (L := l0) (L2 := [(Sight.mk t56_floor t56_panel t56_out)]) 200 0 rfl rfl rfl rfl rfl rfl rfl rfl (el26 rfl) rfl (fun _ => rfl) (fun _ => rfl) rfl (fun ids H' fr => fr.srcOwn (enc := Sight.cs) (sz := 3) (j := 1) (fun _ => rfl) (by decide) rfl) bd58 ?_
                intro a58 c58
                refine ⟨_, rfl, ?_⟩
                refine WJ.pop [⟨a58, c58, 3, encL Sight.cs (l0 ++ ([(Sight.mk t56_floor t56_panel t56_out)]))⟩] rfl ?_
                exact WJ.ag 208 rfl (by exact ⟨rfl, rfl, rfl, rfl, rfl, trivial⟩) rfl rfl rfl (ih9 (n, (l0 ++ ([(Sight.mk t56_floor t56_panel t56_out)])), IntKind.i64.wrap (x13 + 1), a58, c58, B6) hp (Nat.lt_succ_self _))
              · exact WJ.goto 3 (j9 (l0, a0, c0, B5) hp) rfl rfl (by exact ⟨rfl, trivial⟩) rfl rfl rfl
    · refine WJ.lp 200 (α := Nat × Int × Hp) (fun y => [(0, .v (.slice a_x0 x0.length c_x0)), (1, .v (.int .i64 x1)), (2, .v (.slice a_x2 x2.length c_x2)), (10, .v (.int .i64 y.2.1))]) (fun y => []) (fun y => []) (fun y => y.2.2) (fun y => y.1) (fun y => Option.bind (f10_l1 k x0 x2 y.1 y.2.1) K8 = some r) (k, 0, B1) rfl hp (by exact ⟨rfl, rfl, rfl, rfl, trivial⟩) rfl rfl rfl ?_
      rintro ⟨n, x10, B2⟩ hp ih8
      show WJ _ _ _ B2 [] _ _ ⟨[(0, .v (.slice a_x0 x0.length c_x0)), (1, .v (.int .i64 x1)), (2, .v (.slice a_x2 x2.length c_x2)), (10, .v (.int .i64 x10))], [], true, 0⟩
      replace hp : Option.bind (f10_l1 k x0 x2 n x10) K8 = some r := hp
      cases n with
      | zero => rw [f10_l1] at hp; exact (noS hp).elim
      | succ n =>
        rw [f10_l1] at hp
        refine WJ.ci 206 hp rfl rfl rfl rfl rfl rfl rfl rfl rfl (fun hc25 hp => ?_) (fun hc25 hp => ?_)
        · obtain ⟨⟨t31_d, t31_sv, t31_fa, t31_ho, t31_at_, t31_pa⟩, e31, hp⟩ := bindS hp
          obtain ⟨b31, o31, cs31, i31, rfl, p31⟩ := g_x2.at e31 u23 sz36
          refine WJ.hd (v := .pointer (some ⟨b31, o31, none⟩)) 210 rfl rfl rfl rfl (fun ids H' fr => opD_indexAddr rfl (evV_eq _ _ _ _ _ rfl) (evV_eq _ _ _ _ _ rfl) (i31 _)) rfl ?_
          refine WJ.hd (v := .agg ⟨[.int .i64 t31_d, .bool t31_sv, .bool t31_fa, .bool t31_ho, .int .i64 t31_at_, .int .i64 t31_pa]⟩) 200 rfl rfl rfl rfl (fun ids H' fr => opD_load rfl (evV_eq _ _ _ _ _ rfl) ((p31.mono (Nat.zero_le _) fr.ext0.abv).loadN (d := 0) ag36 sz36 rfl rfl)) rfl ?_
          obtain ⟨t33, e33, hp⟩ := bindS hp
          refine WJ.cl 200 (R := R_27 t33) (fun hm h k => R_27.mono hm h k) rfl (fun ids H' fr => f15_ok (x1 := (Shown.mk t31_d t31_sv t31_fa t31_ho t31_at_ t31_pa)) (g_x0.mono (Nat.zero_le _) fr.ext0.abv) e33) ?_
          rintro v B3 abB3 rfl
          refine ⟨_, rfl, ?_⟩
          refine WJ.cn 205 hp rfl rfl rfl rfl rfl rfl rfl rfl rfl (fun hc35 hp => ?_) (fun hc35 hp => ?_)
          · subst hK8
            obtain rfl := endS (show some _ = some r from hp)
            exact WJ.rt 208 rfl rfl rfl (fun ids H' fr => ⟨fr.ext0, ⟨_, _, rfl, SlF.nil⟩⟩)
          · exact WJ.ag 209 rfl (by exact ⟨rfl, rfl, rfl, rfl, trivial⟩) rfl rfl rfl (ih8 (n, IntKind.i64.wrap (x10 + 1), B3) hp (Nat.lt_succ_self _))
        · exact WJ.goto 3 (j8 B2 hp) rfl rfl (by exact ⟨rfl, rfl, rfl, trivial⟩) rfl rfl rfl
/-! 11 tipstaff/tipstaffkit.SameSights -/
def f11_l1 (x0 : List Sight) (x1 : List Sight) : Nat → Int → Option ((Bool) ⊕ (Unit))
  | 0, _ => none
  | n + 1, x5 =>
    if x5 < (x0.length : Int) then
      (rd x0 x5).bind fun t19 =>
      (rd x1 x5).bind fun t23 =>
      if t19 = t23 then
        f11_l1 x0 x1 n (IntKind.i64.wrap (x5 + 1))
      else
        some (Sum.inl false)
    else
      some (Sum.inr ())

def f11 (k : Nat) (x0 : List Sight) (x1 : List Sight) : Option Bool :=
  if (x0.length : Int) = (x1.length : Int) then
    (f11_l1 x0 x1 k 0).bind fun s => match s with
      | .inl st => some st
      | .inr _ => 
        some true
  else
    some false
set_option maxRecDepth 20000 in
theorem f11_ok {k : Nat} {H : Hp} {a_x0 : Option Addr} {c_x0 : Nat} {a_x1 : Option Addr} {c_x1 : Nat} {x0 : List Sight} {x1 : List Sight} {r : Bool} (g_x0 : SlF 0 H SightC a_x0 c_x0 x0) (g_x1 : SlF 0 H SightC a_x1 c_x1 x1) (hp : f11 k x0 x1 = some r) :
    SCall Try.prog 11 [.slice a_x0 x0.length c_x0, .slice a_x1 x1.length c_x1] H (Ret fun v H' => Ext H H' ∧ R_4 r H.next H' v) := by
  unfold f11 at hp
  replace hp := topS hp
  refine SCall.g Try.func11 rfl rfl rfl rfl rfl (l := [(0, .v (.slice a_x0 x0.length c_x0)), (1, .v (.slice a_x1 x1.length c_x1))]) (fun _ => rfl) (fun B abB => ?_)
  refine WJ.cn 211 hp rfl rfl rfl rfl rfl rfl rfl rfl rfl (fun hc10 hp => ?_) (fun hc10 hp => ?_)
  · obtain rfl := endS (show some _ = some r from hp)
    exact WJ.rt 206 rfl rfl rfl (fun ids H' fr => ⟨fr.ext0, rfl⟩)
  · refine WJ.adv 9 rfl ?_
    obtain ⟨K10, hK10, hp⟩ : ∃ K, K = _ ∧ Option.bind _ K = some r := ⟨_, rfl, cutS hp⟩
    refine WJ.cut 2 (α := Unit) (fun y => []) (fun y => []) (fun y => []) (fun y => B) (fun y => K10 (Sum.inr ()) = some r) ?_ (fun j10 => ?_)
    · rintro u hp
      subst hK10
      show WJ _ _ _ B [] _ _ ⟨[], [], true, 0⟩
      obtain rfl := endS (show some _ = some r from hp)
      exact WJ.rt 204 rfl rfl rfl (fun ids H' fr => ⟨fr.ext0, rfl⟩)
    · refine WJ.lp 200 (α := Nat × Int) (fun y => [(0, .v (.slice a_x0 x0.length c_x0)), (1, .v (.slice a_x1 x1.length c_x1)), (5, .v (.int .i64 y.2))]) (fun y => []) (fun y => []) (fun y => B) (fun y => y.1) (fun y => Option.bind (f11_l1 x0 x1 y.1 y.2) K10 = some r) (k, 0) rfl hp (by exact ⟨rfl, rfl, rfl, trivial⟩) rfl rfl rfl ?_
      rintro ⟨n, x5⟩ hp ih10
      show WJ _ _ _ B [] _ _ ⟨[(0, .v (.slice a_x0 x0.length c_x0)), (1, .v (.slice a_x1 x1.length c_x1)), (5, .v (.int .i64 x5))], [], true, 0⟩
      replace hp : Option.bind (f11_l1 x0 x1 n x5) K10 = some r := hp
      cases n with
      | zero => rw [f11_l1] at hp; exact (noS hp).elim
      | succ n =>
        rw [f11_l1] at hp
        refine WJ.ci 206 hp rfl rfl rfl rfl rfl rfl rfl rfl rfl (fun hc14 hp => ?_) (fun hc14 hp => ?_)
        · refine WJ.dr 206 rfl gmix (by kernel_rfl) (by kernel_rfl) rfl ?_
          obtain ⟨⟨t19_floor, t19_panel, t19_out⟩, e19, hp⟩ := bindS hp
          obtain ⟨b19, o19, cs19, i19, rfl, p19⟩ := g_x0.at e19 u26 sz32
          refine WD.hd (v := .pointer (some ⟨b19, o19, none⟩)) rfl rfl rfl rfl (fun _ _ _ _ _ => side_no) (fun ids H' fr => opD_indexAddr rfl (evV_eq _ _ _ _ _ rfl) (evV_eq _ _ _ _ _ rfl) (i19 _)) rfl ?_
          refine WD.hd (v := .agg ⟨[.int .i64 t19_floor, .int .i64 t19_panel, .bool t19_out]⟩) rfl rfl rfl rfl (fun _ _ _ _ _ => side_no) (fun ids H' fr => opD_load rfl (evV_eq _ _ _ _ _ rfl) ((p19.mono (Nat.zero_le _) fr.ext0.abv).loadN (d := 0) ag32 sz32 rfl rfl)) rfl ?_
          obtain ⟨⟨t23_floor, t23_panel, t23_out⟩, e23, hp⟩ := bindS hp
          obtain ⟨b23, o23, cs23, i23, rfl, p23⟩ := g_x1.at e23 u26 sz32
          refine WD.hd (v := .pointer (some ⟨b23, o23, none⟩)) rfl rfl rfl rfl (fun _ _ _ _ _ => side_no) (fun ids H' fr => opD_indexAddr rfl (evV_eq _ _ _ _ _ rfl) (evV_eq _ _ _ _ _ rfl) (i23 _)) rfl ?_
          refine WD.hd (v := .agg ⟨[.int .i64 t23_floor, .int .i64 t23_panel, .bool t23_out]⟩) rfl rfl rfl rfl (fun _ _ _ _ _ => side_no) (fun ids H' fr => opD_load rfl (evV_eq _ _ _ _ _ rfl) ((p23.mono (Nat.zero_le _) fr.ext0.abv).loadN (d := 0) ag32 sz32 rfl rfl)) rfl ?_
          refine WD.cn hp rfl rfl rfl rfl rfl rfl (opD_neS rfl rfl rfl rfl gd32 (eq32 t19_floor t19_panel t19_out t23_floor t23_panel t23_out)) rfl rfl (fun hc25 hp => ?_) (fun hc25 hp => ?_)
          · refine WD.done rfl ?_
            subst hK10
            obtain rfl := endS (show some _ = some r from hp)
            exact WJ.rt 205 rfl rfl rfl (fun ids H' fr => ⟨fr.ext0, rfl⟩)
          · refine WD.done rfl ?_
            exact WJ.ag 208 rfl (by exact ⟨rfl, rfl, rfl, trivial⟩) rfl rfl rfl (ih10 (n, IntKind.i64.wrap (x5 + 1)) hp (Nat.lt_succ_self _))
        · exact WJ.goto 3 (j10 () hp) rfl rfl (by exact trivial) rfl rfl rfl
/-! 12 tipstaff/scrub.Show -/
def f12 (k : Nat) (x0 : List Int) (x1 : Int) (x2 : Shown) : Option (Sight × Int) :=
  (f9 k x0 x1 ([(Shown.mk x2.d x2.sv x2.fa x2.ho x2.at_ x2.pa)])).bind fun t15 =>
  if t15.2 = 0 then
    (rd t15.1 0).bind fun t23 =>
    some ((Sight.mk t23.floor t23.panel t23.out), 0)
  else
    some ((Sight.mk 0 0 false), t15.2)
set_option maxRecDepth 20000 in
theorem f12_ok {k : Nat} {H : Hp} {a_x0 : Option Addr} {c_x0 : Nat} {x0 : List Int} {x1 : Int} {x2 : Shown} {r : Sight × Int} (g_x0 : SlF 0 H intC a_x0 c_x0 x0) (hp : f12 k x0 x1 x2 = some r) :
    SCall Try.prog 12 [.slice a_x0 x0.length c_x0, .int .i64 x1, .agg ⟨[.int .i64 x2.d, .bool x2.sv, .bool x2.fa, .bool x2.ho, .int .i64 x2.at_, .int .i64 x2.pa]⟩] H (Ret fun v H' => Ext H H' ∧ R_32_27 r H.next H' v) := by
  obtain ⟨x2_d, x2_sv, x2_fa, x2_ho, x2_at_, x2_pa⟩ := x2
  unfold f12 at hp
  replace hp := topS hp
  refine SCall.g Try.func12 rfl rfl rfl rfl rfl (l := [(0, .v (.slice a_x0 x0.length c_x0)), (1, .v (.int .i64 x1)), (2, .v (.agg ⟨[.int .i64 x2_d, .bool x2_sv, .bool x2_fa, .bool x2_ho, .int .i64 x2_at_, .int .i64 x2_pa]⟩))]) (fun _ => rfl) (fun B abB => ?_)
  refine WJ.bs (cs := encL Shown.cs [(Shown.mk x2_d x2_sv x2_fa x2_ho x2_at_ x2_pa)]) (sz := 6) (pl := [(0, .agg ⟨[.int .i64 x2_d, .bool x2_sv, .bool x2_fa, .bool x2_ho, .int .i64 x2_at_, .int .i64 x2_pa]⟩)]) 211 rfl rfl rfl rfl rfl (fun _ _ => rfl) (fun _ => by rfl) rfl rfl ?_
  intro b14
  refine ⟨_, rfl, ?_⟩
  obtain ⟨⟨t15_0, t15_1⟩, e15, hp⟩ := bindS hp
  refine WJ.cl 200 (R := R_26_27 ⟨t15_0, t15_1⟩) (fun hm h k => R_26_27.mono hm h k) rfl (fun ids H' fr => f9_ok (g_x0.mono (Nat.zero_le _) fr.ext0.abv) (fr.slOwn (j := 0) rfl rfl (Nat.zero_le _)) e15) ?_
  rintro v B1 abB1 ⟨a_t15_0, c_t15_0, rfl, g_t15_0⟩
  refine ⟨_, rfl, ?_⟩
  refine WJ.cn 210 hp rfl rfl rfl rfl rfl rfl rfl rfl rfl (fun hc19 hp => ?_) (fun hc19 hp => ?_)
  · obtain rfl := endS (show some _ = some r from hp)
    exact WJ.rt 209 rfl rfl rfl (fun ids H' fr => ⟨fr.ext0, rfl⟩)
  · obtain ⟨⟨t23_floor, t23_panel, t23_out⟩, e23, hp⟩ := bindS hp
    obtain ⟨b23, o23, cs23, i23, rfl, p23⟩ := g_t15_0.at e23 u26 sz32
    refine WJ.hd (v := .pointer (some ⟨b23, o23, none⟩)) 206 rfl rfl rfl rfl (fun ids H' fr => opD_indexAddr rfl (evV_eq _ _ _ _ _ rfl) (evV_eq _ _ _ _ _ rfl) (i23 _)) rfl ?_
    refine WJ.hd (v := .agg ⟨[.int .i64 t23_floor, .int .i64 t23_panel, .bool t23_out]⟩) 200 rfl rfl rfl rfl (fun ids H' fr => opD_load rfl (evV_eq _ _ _ _ _ rfl) ((p23.mono (Nat.zero_le _) (fr.abv.le (Nat.zero_le _))).loadN (d := 0) ag32 sz32 rfl rfl)) rfl ?_
    obtain rfl := endS (show some _ = some r from hp)
    exact WJ.rt 203 rfl rfl rfl (fun ids H' fr => ⟨fr.ext0, rfl⟩)
/-! 13 tipstaff/tipstaffref32.Show -/
def f13 (k : Nat) (x0 : List Int) (x1 : Int) (x2 : Shown) : Option (Sight × Int) :=
  (f10 k x0 x1 ([(Shown.mk x2.d x2.sv x2.fa x2.ho x2.at_ x2.pa)])).bind fun t15 =>
  if t15.2 = 0 then
    (rd t15.1 0).bind fun t23 =>
    some ((Sight.mk t23.floor t23.panel t23.out), 0)
  else
    some ((Sight.mk 0 0 false), t15.2)
set_option maxRecDepth 20000 in
theorem f13_ok {k : Nat} {H : Hp} {a_x0 : Option Addr} {c_x0 : Nat} {x0 : List Int} {x1 : Int} {x2 : Shown} {r : Sight × Int} (g_x0 : SlF 0 H intC a_x0 c_x0 x0) (hp : f13 k x0 x1 x2 = some r) :
    SCall Try.prog 13 [.slice a_x0 x0.length c_x0, .int .i64 x1, .agg ⟨[.int .i64 x2.d, .bool x2.sv, .bool x2.fa, .bool x2.ho, .int .i64 x2.at_, .int .i64 x2.pa]⟩] H (Ret fun v H' => Ext H H' ∧ R_32_27 r H.next H' v) := by
  obtain ⟨x2_d, x2_sv, x2_fa, x2_ho, x2_at_, x2_pa⟩ := x2
  unfold f13 at hp
  replace hp := topS hp
  refine SCall.g Try.func13 rfl rfl rfl rfl rfl (l := [(0, .v (.slice a_x0 x0.length c_x0)), (1, .v (.int .i64 x1)), (2, .v (.agg ⟨[.int .i64 x2_d, .bool x2_sv, .bool x2_fa, .bool x2_ho, .int .i64 x2_at_, .int .i64 x2_pa]⟩))]) (fun _ => rfl) (fun B abB => ?_)
  refine WJ.bs (cs := encL Shown.cs [(Shown.mk x2_d x2_sv x2_fa x2_ho x2_at_ x2_pa)]) (sz := 6) (pl := [(0, .agg ⟨[.int .i64 x2_d, .bool x2_sv, .bool x2_fa, .bool x2_ho, .int .i64 x2_at_, .int .i64 x2_pa]⟩)]) 211 rfl rfl rfl rfl rfl (fun _ _ => rfl) (fun _ => by rfl) rfl rfl ?_
  intro b14
  refine ⟨_, rfl, ?_⟩
  obtain ⟨⟨t15_0, t15_1⟩, e15, hp⟩ := bindS hp
  refine WJ.cl 200 (R := R_26_27 ⟨t15_0, t15_1⟩) (fun hm h k => R_26_27.mono hm h k) rfl (fun ids H' fr => f10_ok (g_x0.mono (Nat.zero_le _) fr.ext0.abv) (fr.slOwn (j := 0) rfl rfl (Nat.zero_le _)) e15) ?_
  rintro v B1 abB1 ⟨a_t15_0, c_t15_0, rfl, g_t15_0⟩
  refine ⟨_, rfl, ?_⟩
  refine WJ.cn 210 hp rfl rfl rfl rfl rfl rfl rfl rfl rfl (fun hc19 hp => ?_) (fun hc19 hp => ?_)
  · obtain rfl := endS (show some _ = some r from hp)
    exact WJ.rt 209 rfl rfl rfl (fun ids H' fr => ⟨fr.ext0, rfl⟩)
  · obtain ⟨⟨t23_floor, t23_panel, t23_out⟩, e23, hp⟩ := bindS hp
    obtain ⟨b23, o23, cs23, i23, rfl, p23⟩ := g_t15_0.at e23 u26 sz32
    refine WJ.hd (v := .pointer (some ⟨b23, o23, none⟩)) 206 rfl rfl rfl rfl (fun ids H' fr => opD_indexAddr rfl (evV_eq _ _ _ _ _ rfl) (evV_eq _ _ _ _ _ rfl) (i23 _)) rfl ?_
    refine WJ.hd (v := .agg ⟨[.int .i64 t23_floor, .int .i64 t23_panel, .bool t23_out]⟩) 200 rfl rfl rfl rfl (fun ids H' fr => opD_load rfl (evV_eq _ _ _ _ _ rfl) ((p23.mono (Nat.zero_le _) (fr.abv.le (Nat.zero_le _))).loadN (d := 0) ag32 sz32 rfl rfl)) rfl ?_
    obtain rfl := endS (show some _ = some r from hp)
    exact WJ.rt 203 rfl rfl rfl (fun ids H' fr => ⟨fr.ext0, rfl⟩)
/-! 16 tipstaff/tipstaffkit.SameInts -/
def f16_l1 (x0 : List Int) (x1 : List Int) : Nat → Int → Option ((Bool) ⊕ (Unit))
  | 0, _ => none
  | n + 1, x5 =>
    if x5 < (x0.length : Int) then
      (rd x0 x5).bind fun t19 =>
      (rd x1 x5).bind fun t23 =>
      if t19 = t23 then
        f16_l1 x0 x1 n (IntKind.i64.wrap (x5 + 1))
      else
        some (Sum.inl false)
    else
      some (Sum.inr ())

def f16 (k : Nat) (x0 : List Int) (x1 : List Int) : Option Bool :=
  if (x0.length : Int) = (x1.length : Int) then
    (f16_l1 x0 x1 k 0).bind fun s => match s with
      | .inl st => some st
      | .inr _ => 
        some true
  else
    some false
set_option maxRecDepth 20000 in
theorem f16_ok {k : Nat} {H : Hp} {a_x0 : Option Addr} {c_x0 : Nat} {a_x1 : Option Addr} {c_x1 : Nat} {x0 : List Int} {x1 : List Int} {r : Bool} (g_x0 : SlF 0 H intC a_x0 c_x0 x0) (g_x1 : SlF 0 H intC a_x1 c_x1 x1) (hp : f16 k x0 x1 = some r) :
    SCall Try.prog 16 [.slice a_x0 x0.length c_x0, .slice a_x1 x1.length c_x1] H (Ret fun v H' => Ext H H' ∧ R_4 r H.next H' v) := by
  unfold f16 at hp
  replace hp := topS hp
  refine SCall.g Try.func16 rfl rfl rfl rfl rfl (l := [(0, .v (.slice a_x0 x0.length c_x0)), (1, .v (.slice a_x1 x1.length c_x1))]) (fun _ => rfl) (fun B abB => ?_)
  refine WJ.cn 211 hp rfl rfl rfl rfl rfl rfl rfl rfl rfl (fun hc10 hp => ?_) (fun hc10 hp => ?_)
  · obtain rfl := endS (show some _ = some r from hp)
    exact WJ.rt 206 rfl rfl rfl (fun ids H' fr => ⟨fr.ext0, rfl⟩)
  · refine WJ.adv 9 rfl ?_
    obtain ⟨K11, hK11, hp⟩ : ∃ K, K = _ ∧ Option.bind _ K = some r := ⟨_, rfl, cutS hp⟩
    refine WJ.cut 2 (α := Unit) (fun y => []) (fun y => []) (fun y => []) (fun y => B) (fun y => K11 (Sum.inr ()) = some r) ?_ (fun j11 => ?_)
    · rintro u hp
      subst hK11
      show WJ _ _ _ B [] _ _ ⟨[], [], true, 0⟩
      obtain rfl := endS (show some _ = some r from hp)
      exact WJ.rt 204 rfl rfl rfl (fun ids H' fr => ⟨fr.ext0, rfl⟩)
    · refine WJ.lp 200 (α := Nat × Int) (fun y => [(0, .v (.slice a_x0 x0.length c_x0)), (1, .v (.slice a_x1 x1.length c_x1)), (5, .v (.int .i64 y.2))]) (fun y => []) (fun y => []) (fun y => B) (fun y => y.1) (fun y => Option.bind (f16_l1 x0 x1 y.1 y.2) K11 = some r) (k, 0) rfl hp (by exact ⟨rfl, rfl, rfl, trivial⟩) rfl rfl rfl ?_
      rintro ⟨n, x5⟩ hp ih11
      show WJ _ _ _ B [] _ _ ⟨[(0, .v (.slice a_x0 x0.length c_x0)), (1, .v (.slice a_x1 x1.length c_x1)), (5, .v (.int .i64 x5))], [], true, 0⟩
      replace hp : Option.bind (f16_l1 x0 x1 n x5) K11 = some r := hp
      cases n with
      | zero => rw [f16_l1] at hp; exact (noS hp).elim
      | succ n =>
        rw [f16_l1] at hp
        refine WJ.ci 206 hp rfl rfl rfl rfl rfl rfl rfl rfl rfl (fun hc14 hp => ?_) (fun hc14 hp => ?_)
        · refine WJ.dr 206 rfl gmix (by kernel_rfl) (by kernel_rfl) rfl ?_
          obtain ⟨t19, e19, hp⟩ := bindS hp
          obtain ⟨b19, o19, cs19, i19, rfl, p19⟩ := g_x0.at e19 u22 sz3
          refine WD.hd (v := .pointer (some ⟨b19, o19, none⟩)) rfl rfl rfl rfl (fun _ _ _ _ _ => side_no) (fun ids H' fr => opD_indexAddr rfl (evV_eq _ _ _ _ _ rfl) (evV_eq _ _ _ _ _ rfl) (i19 _)) rfl ?_
          refine WD.hd (v := .int .i64 t19) rfl rfl rfl rfl (fun _ _ _ _ _ => side_no) (fun ids H' fr => opD_load rfl (evV_eq _ _ _ _ _ rfl) ((p19.mono (Nat.zero_le _) fr.ext0.abv).load (d := 0) ag3 rfl)) rfl ?_
          obtain ⟨t23, e23, hp⟩ := bindS hp
          obtain ⟨b23, o23, cs23, i23, rfl, p23⟩ := g_x1.at e23 u22 sz3
          refine WD.hd (v := .pointer (some ⟨b23, o23, none⟩)) rfl rfl rfl rfl (fun _ _ _ _ _ => side_no) (fun ids H' fr => opD_indexAddr rfl (evV_eq _ _ _ _ _ rfl) (evV_eq _ _ _ _ _ rfl) (i23 _)) rfl ?_
          refine WD.hd (v := .int .i64 t23) rfl rfl rfl rfl (fun _ _ _ _ _ => side_no) (fun ids H' fr => opD_load rfl (evV_eq _ _ _ _ _ rfl) ((p23.mono (Nat.zero_le _) fr.ext0.abv).load (d := 0) ag3 rfl)) rfl ?_
          refine WD.cn hp rfl rfl rfl rfl rfl rfl rfl rfl rfl (fun hc25 hp => ?_) (fun hc25 hp => ?_)
          · refine WD.done rfl ?_
            subst hK11
            obtain rfl := endS (show some _ = some r from hp)
            exact WJ.rt 205 rfl rfl rfl (fun ids H' fr => ⟨fr.ext0, rfl⟩)
          · refine WD.done rfl ?_
            exact WJ.ag 208 rfl (by exact ⟨rfl, rfl, rfl, trivial⟩) rfl rfl rfl (ih11 (n, IntKind.i64.wrap (x5 + 1)) hp (Nat.lt_succ_self _))
        · exact WJ.goto 3 (j11 () hp) rfl rfl (by exact trivial) rfl rfl rfl
/-! 3 tipstaff/tipstafflaw32.ScrubShows -/
def f3 (k : Nat) (x0 : List Int) (x1 : Int) (x2 : List Shown) : Option Bool :=
  if (x0.length : Int) > 70 then
    (f7).bind fun t24 =>
    some t24
  else
    if (x2.length : Int) > 10 then
      (f7).bind fun t24 =>
      some t24
    else
      (f8 x0).bind fun t26 =>
      (apd 32 ([] : List Shown) x2).bind fun l32 =>
      (f9 k t26 x1 l32).bind fun t33 =>
      (f10 k x0 x1 x2).bind fun t40 =>
      (f11 k t33.1 t40.1).bind fun t45 =>
      if t45 then
        if t33.2 = t40.2 then
          (if (x2.length : Int) > 0 then
            (rd x2 0).bind fun t59 =>
            (f12 k t26 x1 t59).bind fun t61 =>
            (rd x2 0).bind fun t68 =>
            (f13 k x0 x1 t68).bind fun t70 =>
            (rd x2 0).bind fun t75 =>
            (f14 t26 t75).bind fun t77 =>
            (rd x2 0).bind fun t80 =>
            (f15 k x0 t80).bind fun t82 =>
            if t77 = t82 then
              if (Sight.mk t61.1.floor t61.1.panel t61.1.out) = (Sight.mk t70.1.floor t70.1.panel t70.1.out) then
                if t61.2 = t70.2 then
                  some (Sum.inr ())
                else
                  some (Sum.inl false)
              else
                some (Sum.inl false)
            else
              some (Sum.inl false)
          else
            some (Sum.inr ())).bind fun s => match s with
            | .inl st => some st
            | .inr _ => 
              (f16 k t26 x0).bind fun t96 =>
              if t96 then
                (f7).bind fun t98 =>
                some t98
              else
                some false
        else
          some false
      else
        some false
set_option maxRecDepth 20000 in
theorem f3_ok {k : Nat} {H : Hp} {a_x0 : Option Addr} {c_x0 : Nat} {a_x2 : Option Addr} {c_x2 : Nat} {x0 : List Int} {x1 : Int} {x2 : List Shown} {r : Bool} (g_x0 : SlF 0 H intC a_x0 c_x0 x0) (g_x2 : SlF 0 H ShownC a_x2 c_x2 x2) (hp : f3 k x0 x1 x2 = some r) :
    SCall Try.prog 3 [.slice a_x0 x0.length c_x0, .int .i64 x1, .slice a_x2 x2.length c_x2] H (Ret fun v H' => Ext H H' ∧ R_4 r H.next H' v) := by
  unfold f3 at hp
  replace hp := topS hp
  refine SCall.g Try.func3 rfl rfl rfl rfl rfl (l := [(0, .v (.slice a_x0 x0.length c_x0)), (1, .v (.int .i64 x1)), (2, .v (.slice a_x2 x2.length c_x2))]) (fun _ => rfl) (fun B abB => ?_)
  refine WJ.ci 209 hp rfl rfl rfl rfl rfl rfl rfl rfl rfl (fun hc18 hp => ?_) (fun hc18 hp => ?_)
  · obtain ⟨t24, e24, hp⟩ := bindS hp
    refine WJ.cl 209 (R := R_4 t24) (fun hm h k => R_4.mono hm h k) rfl (fun ids H' fr => f7_ok e24) ?_
    rintro v B1 abB1 rfl
    refine ⟨_, rfl, ?_⟩
    obtain rfl := endS (show some _ = some r from hp)
    exact WJ.rt 202 rfl rfl rfl (fun ids H' fr => ⟨fr.ext0, rfl⟩)
  · refine WJ.ci 203 hp rfl rfl rfl rfl rfl rfl rfl rfl rfl (fun hc22 hp => ?_) (fun hc22 hp => ?_)
    · obtain ⟨t24, e24, hp⟩ := bindS hp
      refine WJ.cl 205 (R := R_4 t24) (fun hm h k => R_4.mono hm h k) rfl (fun ids H' fr => f7_ok e24) ?_
      rintro v B2 abB2 rfl
      refine ⟨_, rfl, ?_⟩
      obtain rfl := endS (show some _ = some r from hp)
      exact WJ.rt 202 rfl rfl rfl (fun ids H' fr => ⟨fr.ext0, rfl⟩)
    · obtain ⟨t26, e26, hp⟩ := bindS hp
      refine WJ.cl 207 (R := R_22 t26) (fun hm h k => R_22.mono hm h k) rfl (fun ids H' fr => f8_ok (g_x0.mono (Nat.zero_le _) fr.ext0.abv) e26) ?_
      rintro v B3 abB3 ⟨a_t26, c_t26, rfl, g_t26⟩
      refine ⟨_, rfl, ?_⟩
      refine WJ.bs (cs := encL Shown.cs ([] : List Shown)) (sz := 6) (pl := []) 206 rfl rfl rfl rfl rfl (fun _ _ => rfl) (fun _ => by rfl) rfl rfl ?_
      intro b30
      refine ⟨_, rfl, ?_⟩
      obtain ⟨l32, e32, hp⟩ := bindS hp
      obtain ⟨bd32, rfl⟩ := apd_some e32
      refine WJ.ap (L := ([] : List Shown)) (L2 := x2) 201 0 rfl rfl rfl rfl rfl rfl rfl rfl (el23 rfl) rfl (fun _ => rfl) (fun _ => rfl) rfl (fun ids H' fr => (g_x2.mono (Nat.zero_le _) fr.ext0.abv).srcF) bd32 ?_
      intro a32 c32
      refine ⟨_, rfl, ?_⟩
      obtain ⟨⟨t33_0, t33_1⟩, e33, hp⟩ := bindS hp
      refine WJ.cl 200 (R := R_26_27 ⟨t33_0, t33_1⟩) (fun hm h k => R_26_27.mono hm h k) rfl (fun ids H' fr => f9_ok (g_t26.mono (Nat.zero_le _) (fr.abv.le (Nat.zero_le _))) (fr.slOwn (j := 0) rfl rfl (Nat.zero_le _)) e33) ?_
      rintro v B4 abB4 ⟨a_t33_0, c_t33_0, rfl, g_t33_0⟩
      refine ⟨_, rfl, ?_⟩
      replace g_t26 := g_t26.mono (Nat.le_refl _) (abB4.le (Nat.zero_le _))
      obtain ⟨⟨t40_0, t40_1⟩, e40, hp⟩ := bindS hp
      refine WJ.cl 211 (R := R_26_27 ⟨t40_0, t40_1⟩) (fun hm h k => R_26_27.mono hm h k) rfl (fun ids H' fr => f10_ok (g_x0.mono (Nat.zero_le _) fr.ext0.abv) (g_x2.mono (Nat.zero_le _) fr.ext0.abv) e40) ?_
      rintro v B5 abB5 ⟨a_t40_0, c_t40_0, rfl, g_t40_0⟩
      refine ⟨_, rfl, ?_⟩
      replace g_t26 := g_t26.mono (Nat.le_refl _) (abB5.le (Nat.zero_le _))
      replace g_t33_0 := g_t33_0.mono (Nat.le_refl _) (abB5.le (Nat.zero_le _))
      obtain ⟨t45, e45, hp⟩ := bindS hp
      refine WJ.cl 211 (R := R_4 t45) (fun hm h k => R_4.mono hm h k) rfl (fun ids H' fr => f11_ok (g_t33_0.mono (Nat.zero_le _) (fr.abv.le (Nat.zero_le _))) (g_t40_0.mono (Nat.zero_le _) (fr.abv.le (Nat.zero_le _))) e45) ?_
      rintro v B6 abB6 rfl
      refine ⟨_, rfl, ?_⟩
      replace g_t26 := g_t26.mono (Nat.le_refl _) (abB6.le (Nat.zero_le _))
      replace g_t33_0 := g_t33_0.mono (Nat.le_refl _) (abB6.le (Nat.zero_le _))
      replace g_t40_0 := g_t40_0.mono (Nat.le_refl _) (abB6.le (Nat.zero_le _))
      cases t45
      · replace hp := (itS hp).2 Bool.false_ne_true
        obtain rfl := endS (show some _ = some r from hp)
        exact WJ.rt 212 rfl rfl rfl (fun ids H' fr => ⟨fr.ext0, rfl⟩)
      · replace hp := (itS hp).1 rfl
        refine WJ.cn 204 hp rfl rfl rfl rfl rfl rfl rfl rfl rfl (fun hc50 hp => ?_) (fun hc50 hp => ?_)
        · obtain rfl := endS (show some _ = some r from hp)
          exact WJ.rt 207 rfl rfl rfl (fun ids H' fr => ⟨fr.ext0, rfl⟩)
        · refine WJ.adv 6 rfl ?_
          obtain ⟨K12, hK12, hp⟩ : ∃ K, K = _ ∧ Option.bind _ K = some r := ⟨_, rfl, cutS hp⟩
          refine WJ.cut 2 (α := Hp) (fun y => [(0, .v (.slice a_x0 x0.length c_x0)), (7, .v (.slice a_t26 t26.length c_t26))]) (fun y => []) (fun y => [⟨a32, c32, 6, encL Shown.cs (([] : List Shown) ++ x2)⟩]) (fun y => y) (fun y => K12 ((Sum.inr ())) = some r ∧ SlF H.next y intC a_t26 c_t26 t26 ∧ SlF H.next y SightC a_t33_0 c_t33_0 t33_0 ∧ SlF H.next y SightC a_t40_0 c_t40_0 t40_0) ?_ (fun j12 => ?_)
          · rintro B12 ⟨hp, g_t26, g_t33_0, g_t40_0⟩
            subst hK12
            show WJ _ _ _ B12 [⟨a32, c32, 6, encL Shown.cs (([] : List Shown) ++ x2)⟩] _ _ ⟨[(0, .v (.slice a_x0 x0.length c_x0)), (7, .v (.slice a_t26 t26.length c_t26))], [], true, 0⟩
            obtain ⟨t96, e96, hp⟩ := bindS hp
            refine WJ.cl 204 (R := R_4 t96) (fun hm h k => R_4.mono hm h k) rfl (fun ids H' fr => f16_ok (g_t26.mono (Nat.zero_le _) (fr.abv.le (Nat.zero_le _))) (g_x0.mono (Nat.zero_le _) fr.ext0.abv) e96) ?_
            rintro v B13 abB13 rfl
            refine ⟨_, rfl, ?_⟩
            replace g_t26 := g_t26.mono (Nat.le_refl _) (abB13.le (Nat.zero_le _))
            replace g_t33_0 := g_t33_0.mono (Nat.le_refl _) (abB13.le (Nat.zero_le _))
            replace g_t40_0 := g_t40_0.mono (Nat.le_refl _) (abB13.le (Nat.zero_le _))
            cases t96
            · replace hp := (itS hp).2 Bool.false_ne_true
              obtain rfl := endS (show some _ = some r from hp)
              exact WJ.rt 205 rfl rfl rfl (fun ids H' fr => ⟨fr.ext0, rfl⟩)
            · replace hp := (itS hp).1 rfl
              obtain ⟨t98, e98, hp⟩ := bindS hp
              refine WJ.cl 201 (R := R_4 t98) (fun hm h k => R_4.mono hm h k) rfl (fun ids H' fr => f7_ok e98) ?_
              rintro v B14 abB14 rfl
              refine ⟨_, rfl, ?_⟩
              replace g_t26 := g_t26.mono (Nat.le_refl _) (abB14.le (Nat.zero_le _))
              replace g_t33_0 := g_t33_0.mono (Nat.le_refl _) (abB14.le (Nat.zero_le _))
              replace g_t40_0 := g_t40_0.mono (Nat.le_refl _) (abB14.le (Nat.zero_le _))
              obtain rfl := endS (show some _ = some r from hp)
              exact WJ.rt 203 rfl rfl rfl (fun ids H' fr => ⟨fr.ext0, rfl⟩)
          · refine WJ.ci 203 hp rfl rfl rfl rfl rfl rfl rfl rfl rfl (fun hc54 hp => ?_) (fun hc54 hp => ?_)
            · obtain ⟨⟨t59_d, t59_sv, t59_fa, t59_ho, t59_at_, t59_pa⟩, e59, hp⟩ := bindS hp
              obtain ⟨b59, o59, cs59, i59, rfl, p59⟩ := g_x2.at e59 u23 sz36
              refine WJ.hd (v := .pointer (some ⟨b59, o59, none⟩)) 207 rfl rfl rfl rfl (fun ids H' fr => opD_indexAddr rfl (evV_eq _ _ _ _ _ rfl) (evV_eq _ _ _ _ _ rfl) (i59 _)) rfl ?_
              refine WJ.hd (v := .agg ⟨[.int .i64 t59_d, .bool t59_sv, .bool t59_fa, .bool t59_ho, .int .i64 t59_at_, .int .i64 t59_pa]⟩) 200 rfl rfl rfl rfl (fun ids H' fr => opD_load rfl (evV_eq _ _ _ _ _ rfl) ((p59.mono (Nat.zero_le _) fr.ext0.abv).loadN (d := 0) ag36 sz36 rfl rfl)) rfl ?_
              obtain ⟨⟨⟨t61_0_floor, t61_0_panel, t61_0_out⟩, t61_1⟩, e61, hp⟩ := bindS hp
              refine WJ.cl 200 (R := R_32_27 ⟨⟨t61_0_floor, t61_0_panel, t61_0_out⟩, t61_1⟩) (fun hm h k => R_32_27.mono hm h k) rfl (fun ids H' fr => f12_ok (x2 := (Shown.mk t59_d t59_sv t59_fa t59_ho t59_at_ t59_pa)) (g_t26.mono (Nat.zero_le _) (fr.abv.le (Nat.zero_le _))) e61) ?_
              rintro v B7 abB7 rfl
              refine ⟨_, rfl, ?_⟩
              replace g_t26 := g_t26.mono (Nat.le_refl _) (abB7.le (Nat.zero_le _))
              replace g_t33_0 := g_t33_0.mono (Nat.le_refl _) (abB7.le (Nat.zero_le _))
              replace g_t40_0 := g_t40_0.mono (Nat.le_refl _) (abB7.le (Nat.zero_le _))
              obtain ⟨⟨t68_d, t68_sv, t68_fa, t68_ho, t68_at_, t68_pa⟩, e68, hp⟩ := bindS hp
              obtain ⟨b68, o68, cs68, i68, rfl, p68⟩ := g_x2.at e68 u23 sz36
              refine WJ.hd (v := .pointer (some ⟨b68, o68, none⟩)) 212 rfl rfl rfl rfl (fun ids H' fr => opD_indexAddr rfl (evV_eq _ _ _ _ _ rfl) (evV_eq _ _ _ _ _ rfl) (i68 _)) rfl ?_
              refine WJ.hd (v := .agg ⟨[.int .i64 t68_d, .bool t68_sv, .bool t68_fa, .bool t68_ho, .int .i64 t68_at_, .int .i64 t68_pa]⟩) 200 rfl rfl rfl rfl (fun ids H' fr => opD_load rfl (evV_eq _ _ _ _ _ rfl) ((p68.mono (Nat.zero_le _) fr.ext0.abv).loadN (d := 0) ag36 sz36 rfl rfl)) rfl ?_
              obtain ⟨⟨⟨t70_0_floor, t70_0_panel, t70_0_out⟩, t70_1⟩, e70, hp⟩ := bindS hp
              refine WJ.cl 200 (R := R_32_27 ⟨⟨t70_0_floor, t70_0_panel, t70_0_out⟩, t70_1⟩) (fun hm h k => R_32_27.mono hm h k) rfl (fun ids H' fr => f13_ok (x2 := (Shown.mk t68_d t68_sv t68_fa t68_ho t68_at_ t68_pa)) (g_x0.mono (Nat.zero_le _) fr.ext0.abv) e70) ?_
              rintro v B8 abB8 rfl
              refine ⟨_, rfl, ?_⟩
              replace g_t26 := g_t26.mono (Nat.le_refl _) (abB8.le (Nat.zero_le _))
              replace g_t33_0 := g_t33_0.mono (Nat.le_refl _) (abB8.le (Nat.zero_le _))
              replace g_t40_0 := g_t40_0.mono (Nat.le_refl _) (abB8.le (Nat.zero_le _))
              refine WJ.drF 208 rfl gmix (by kernel_rfl) (by kernel_rfl) rfl (fun D9 eD9 abD9 => ?_)
              have o_g_t26 := g_t26
              have o_g_t33_0 := g_t33_0
              have o_g_t40_0 := g_t40_0
              obtain ⟨⟨t75_d, t75_sv, t75_fa, t75_ho, t75_at_, t75_pa⟩, e75, hp⟩ := bindS hp
              obtain ⟨b75, o75, cs75, i75, rfl, p75⟩ := g_x2.at e75 u23 sz36
              have lt75 := Nat.lt_of_lt_of_le p75.2.1 eD9.next
              refine WD.hd (v := .pointer (some ⟨b75, o75, none⟩)) rfl rfl rfl rfl (fun ids H' s0 h0 f => side_pure rfl rfl h0 f) (fun ids H' fr => opD_indexAddr rfl (evV_eq _ _ _ _ _ rfl) (evV_eq _ _ _ _ _ rfl) (i75 _)) rfl ?_
              refine WD.hd (v := .agg ⟨[.int .i64 t75_d, .bool t75_sv, .bool t75_fa, .bool t75_ho, .int .i64 t75_at_, .int .i64 t75_pa]⟩) rfl rfl rfl rfl (fun ids H' s0 h0 f => side_load rfl rfl rfl lt75 h0 f) (fun ids H' fr => opD_load rfl (evV_eq _ _ _ _ _ rfl) ((p75.mono (Nat.zero_le _) fr.ext0.abv).loadN (d := 0) ag36 sz36 rfl rfl)) rfl ?_
              obtain ⟨t77, e77, hp⟩ := bindS hp
              refine WD.cl (R := R_27 t77) (fun hm h k => R_27.mono hm h k) rfl (fun ids H' fr => f14_ok (x1 := (Shown.mk t75_d t75_sv t75_fa t75_ho t75_at_ t75_pa)) (g_t26.mono (Nat.zero_le _) (fr.abv.le (Nat.zero_le _))) e77) ?_
              rintro v B10 abB10 rfl
              refine ⟨_, rfl, ?_⟩
              replace g_t26 := g_t26.mono (Nat.le_refl _) (abB10.le (Nat.zero_le _))
              replace g_t33_0 := g_t33_0.mono (Nat.le_refl _) (abB10.le (Nat.zero_le _))
              replace g_t40_0 := g_t40_0.mono (Nat.le_refl _) (abB10.le (Nat.zero_le _))
              obtain ⟨⟨t80_d, t80_sv, t80_fa, t80_ho, t80_at_, t80_pa⟩, e80, hp⟩ := bindS hp
              obtain ⟨b80, o80, cs80, i80, rfl, p80⟩ := g_x2.at e80 u23 sz36
              have lt80 := Nat.lt_of_lt_of_le p80.2.1 eD9.next
              refine WD.hd (v := .pointer (some ⟨b80, o80, none⟩)) rfl rfl rfl rfl (fun ids H' s0 h0 f => side_pure rfl rfl h0 f) (fun ids H' fr => opD_indexAddr rfl (evV_eq _ _ _ _ _ rfl) (evV_eq _ _ _ _ _ rfl) (i80 _)) rfl ?_
              refine WD.hd (v := .agg ⟨[.int .i64 t80_d, .bool t80_sv, .bool t80_fa, .bool t80_ho, .int .i64 t80_at_, .int .i64 t80_pa]⟩) rfl rfl rfl rfl (fun ids H' s0 h0 f => side_load rfl rfl rfl lt80 h0 f) (fun ids H' fr => opD_load rfl (evV_eq _ _ _ _ _ rfl) ((p80.mono (Nat.zero_le _) fr.ext0.abv).loadN (d := 0) ag36 sz36 rfl rfl)) rfl ?_
              obtain ⟨t82, e82, hp⟩ := bindS hp
              refine WD.cl (R := R_27 t82) (fun hm h k => R_27.mono hm h k) rfl (fun ids H' fr => f15_ok (x1 := (Shown.mk t80_d t80_sv t80_fa t80_ho t80_at_ t80_pa)) (g_x0.mono (Nat.zero_le _) fr.ext0.abv) e82) ?_
              rintro v B11 abB11 rfl
              refine ⟨_, rfl, ?_⟩
              replace g_t26 := g_t26.mono (Nat.le_refl _) (abB11.le (Nat.zero_le _))
              replace g_t33_0 := g_t33_0.mono (Nat.le_refl _) (abB11.le (Nat.zero_le _))
              replace g_t40_0 := g_t40_0.mono (Nat.le_refl _) (abB11.le (Nat.zero_le _))
              refine WD.cn hp rfl rfl rfl rfl rfl rfl rfl rfl rfl (fun hc83 hp => ?_) (fun hc83 hp => ?_)
              · refine WD.done rfl ?_
                subst hK12
                obtain rfl := endS (show some _ = some r from hp)
                exact WJ.rt 205 rfl rfl rfl (fun ids H' fr => ⟨fr.ext0, rfl⟩)
              · refine WD.cn hp rfl rfl rfl rfl rfl rfl (opD_neS rfl rfl rfl rfl gd32 (eq32 t61_0_floor t61_0_panel t61_0_out t70_0_floor t70_0_panel t70_0_out)) rfl rfl (fun hc87 hp => ?_) (fun hc87 hp => ?_)
                · refine WD.done rfl ?_
                  subst hK12
                  obtain rfl := endS (show some _ = some r from hp)
                  exact WJ.rt 205 rfl rfl rfl (fun ids H' fr => ⟨fr.ext0, rfl⟩)
                · refine WD.cn hp rfl rfl rfl rfl rfl rfl rfl rfl rfl (fun hc92 hp => ?_) (fun hc92 hp => ?_)
                  · refine WD.done rfl ?_
                    subst hK12
                    obtain rfl := endS (show some _ = some r from hp)
                    exact WJ.rt 205 rfl rfl rfl (fun ids H' fr => ⟨fr.ext0, rfl⟩)
                  · refine WD.done rfl ?_
                    exact WJ.goto 2 (j12 B11 ⟨hp, g_t26, g_t33_0, g_t40_0⟩) rfl rfl (by exact ⟨rfl, rfl, trivial⟩) rfl rfl rfl
            · exact WJ.goto 3 (j12 B6 ⟨hp, g_t26, g_t33_0, g_t40_0⟩) rfl rfl (by exact ⟨rfl, rfl, trivial⟩) rfl rfl rfl
/-! 18 tipstaff/tipstaffkit.Mod -/
def f18 (x0 : Int) (x1 : Int) : Option Int :=
  if x1 < 1 then
    some 0
  else
    if x1 ≠ 0 then
      (if (x0.tmod x1) < 0 then
        some ((IntKind.i64.wrap ((x0.tmod x1) + x1)))
      else
        some ((x0.tmod x1))).bind fun x0_13 =>
        some x0_13
    else none
set_option maxRecDepth 20000 in
theorem f18_ok {H : Hp} {x0 : Int} {x1 : Int} {r : Int} (hp : f18 x0 x1 = some r) :
    SCall Try.prog 18 [.int .i64 x0, .int .i64 x1] H (Ret fun v H' => Ext H H' ∧ R_3 r H.next H' v) := by
  unfold f18 at hp
  replace hp := topS hp
  refine SCall.g Try.func18 rfl rfl rfl rfl rfl (l := [(0, .v (.int .i64 x0)), (1, .v (.int .i64 x1))]) (fun _ => rfl) (fun B abB => ?_)
  refine WJ.ci 208 hp rfl rfl rfl rfl rfl rfl rfl rfl rfl (fun hc6 hp => ?_) (fun hc6 hp => ?_)
  · obtain rfl := endS (show some _ = some r from hp)
    exact WJ.rt 206 rfl rfl rfl (fun ids H' fr => ⟨fr.ext0, rfl⟩)
  · obtain ⟨nz9, hp⟩ := ifS hp
    refine WJ.hd (v := .int .i64 (x0.tmod x1)) 207 rfl rfl rfl rfl (fun ids H' fr => opD_bin rfl (evV_eq _ _ _ _ _ rfl) (evV_eq _ _ _ _ _ rfl) (bin_rem nz9)) rfl ?_
    refine WJ.adv 4 rfl ?_
    obtain ⟨K13, hK13, hp⟩ : ∃ K, K = _ ∧ Option.bind _ K = some r := ⟨_, rfl, cutS hp⟩
    refine WJ.cut 2 (α := Int) (fun y => [(0, .v (.int .i64 y))]) (fun y => []) (fun y => []) (fun y => B) (fun y => K13 ((y)) = some r) ?_ (fun j13 => ?_)
    · rintro x0_13 hp
      subst hK13
      show WJ _ _ _ B [] _ _ ⟨[(0, .v (.int .i64 x0_13))], [], true, 0⟩
      obtain rfl := endS (show some _ = some r from hp)
      exact WJ.rt 205 rfl rfl rfl (fun ids H' fr => ⟨fr.ext0, rfl⟩)
    · refine WJ.ci 202 hp rfl rfl rfl rfl rfl rfl rfl rfl rfl (fun hc11 hp => ?_) (fun hc11 hp => ?_)
      · exact WJ.goto 8 (j13 (IntKind.i64.wrap ((x0.tmod x1) + x1)) hp) rfl rfl (by exact ⟨rfl, trivial⟩) rfl rfl rfl
      · exact WJ.goto 3 (j13 (x0.tmod x1) hp) rfl rfl (by exact ⟨rfl, trivial⟩) rfl rfl rfl
/-! 17 tipstaff/tipstafflaw32.made -/
def f17_l1 (x0 : List Int) : Nat → (List Int) → Int → Int → Option ((List Int) × Int)
  | 0, _, _, _ => none
  | n + 1, l0, x7, x8 =>
    if x8 < (x0.length : Int) then
      if x8 < 8 then
        (rd x0 x8).bind fun t24 =>
        (f18 t24 12).bind fun t26 =>
        (apd 8 l0 ([IntKind.i64.wrap (1 + t26)])).bind fun l29 =>
        (rd l29 (IntKind.i64.wrap (x8 + 1))).bind fun t34 =>
        f17_l1 x0 n l29 (IntKind.i64.wrap (x7 + t34)) (IntKind.i64.wrap (x8 + 1))
      else
        some ((l0, x7))
    else
      some ((l0, x7))

def f17 (k : Nat) (x0 : List Int) (x1 : Int) : Option ((List Int) × Shown) :=
  (f17_l1 x0 k ([5]) 5 0).bind fun (l0_14, x7_14) =>
    (f18 x1 16777216).bind fun t38 =>
    (some (decide (((IntKind.i64.wrap (t38.tdiv 4)).tmod 4) > 0))).bind fun t45 =>
    (some (((IntKind.i64.wrap (t38.tdiv 16)).tmod 4) == 0)).bind fun t49 =>
    (some (((IntKind.i64.wrap (t38.tdiv 64)).tmod 4) == 0)).bind fun t53 =>
    if (IntKind.i64.wrap (x7_14 + 1)) ≠ 0 then
      some (l0_14, (Shown.mk (t38.tmod 4) t45 t49 t53 ((IntKind.i64.wrap (t38.tdiv 8192)).tmod (IntKind.i64.wrap (x7_14 + 1))) ((IntKind.i64.wrap (t38.tdiv 256)).tmod 21)))
    else none
set_option maxRecDepth 20000 in
theorem f17_ok {k : Nat} {H : Hp} {a_x0 : Option Addr} {c_x0 : Nat} {x0 : List Int} {x1 : Int} {r : (List Int) × Shown} (g_x0 : SlF 0 H intC a_x0 c_x0 x0) (hp : f17 k x0 x1 = some r) :
    SCall Try.prog 17 [.slice a_x0 x0.length c_x0, .int .i64 x1] H (Ret fun v H' => Ext H H' ∧ R_22_36 r H.next H' v) := by
  unfold f17 at hp
  replace hp := topS hp
  refine SCall.g Try.func17 rfl rfl rfl rfl rfl (l := [(0, .v (.slice a_x0 x0.length c_x0)), (1, .v (.int .i64 x1))]) (fun _ => rfl) (fun B abB => ?_)
  refine WJ.bs (cs := encL iE [5]) (sz := 1) (pl := [(0, .int .i64 5)]) 207 rfl rfl rfl rfl rfl (fun _ _ => rfl) (fun _ => by rfl) rfl rfl ?_
  intro b10
  refine ⟨_, rfl, ?_⟩
  refine WJ.adv 12 rfl ?_
  obtain ⟨K14, hK14, hp⟩ : ∃ K, K = _ ∧ Option.bind _ K = some r := ⟨_, rfl, cutS hp⟩
  refine WJ.cut 2 (α := (List Int) × Int × (Option Addr) × Nat × Hp) (fun y => [(1, .v (.int .i64 x1)), (5, .p 0 0), (6, .v (.slice y.2.2.1 y.1.length y.2.2.2.1)), (7, .v (.int .i64 y.2.1))]) (fun y => [[.int .i64 0, .bool false, .bool false, .bool false, .int .i64 0, .int .i64 0]]) (fun y => [⟨y.2.2.1, y.2.2.2.1, 1, encL iE y.1⟩]) (fun y => y.2.2.2.2) (fun y => K14 ((y.1, y.2.1)) = some r) ?_ (fun j14 => ?_)
  · rintro ⟨l0_14, x7_14, a0_14, c0_14, B3⟩ hp
    subst hK14
    show WJ _ _ _ B3 [⟨a0_14, c0_14, 1, encL iE l0_14⟩] _ _ ⟨[(1, .v (.int .i64 x1)), (5, .p 0 0), (6, .v (.slice a0_14 l0_14.length c0_14)), (7, .v (.int .i64 x7_14))], [[.int .i64 0, .bool false, .bool false, .bool false, .int .i64 0, .int .i64 0]], true, 0⟩
    obtain ⟨t38, e38, hp⟩ := bindS hp
    refine WJ.cl 203 (R := R_3 t38) (fun hm h k => R_3.mono hm h k) rfl (fun ids H' fr => f18_ok e38) ?_
    rintro v B4 abB4 rfl
    refine ⟨_, rfl, ?_⟩
    refine WJ.dr 203 rfl gmix (by kernel_rfl) (by kernel_rfl) rfl ?_
    refine WD.hd (v := .int .i64 (t38.tmod 4)) rfl rfl rfl rfl (fun _ _ _ _ _ => side_no) (fun ids H' fr => opD_bin rfl (evV_eq _ _ _ _ _ rfl) (evV_eq _ _ _ _ _ rfl) (bin_rem (by decide))) rfl ?_
    refine WD.hd (v := .int .i64 (IntKind.i64.wrap (t38.tdiv 4))) rfl rfl rfl rfl (fun _ _ _ _ _ => side_no) (fun ids H' fr => opD_bin rfl (evV_eq _ _ _ _ _ rfl) (evV_eq _ _ _ _ _ rfl) (bin_quo (by decide))) rfl ?_
    refine WD.hd (v := .int .i64 ((IntKind.i64.wrap (t38.tdiv 4)).tmod 4)) rfl rfl rfl rfl (fun _ _ _ _ _ => side_no) (fun ids H' fr => opD_bin rfl (evV_eq _ _ _ _ _ rfl) (evV_eq _ _ _ _ _ rfl) (bin_rem (by decide))) rfl ?_
    obtain ⟨t45, e45, hp⟩ := bindS hp
    refine WD.cv (b := t45) (H0 := ⟨.nil, 0, 0⟩) rfl rfl rfl rfl rfl rfl (by rw [← endS e45]; exact rfl) rfl ?_
    refine WD.hd (v := .int .i64 (IntKind.i64.wrap (t38.tdiv 16))) rfl rfl rfl rfl (fun _ _ _ _ _ => side_no) (fun ids H' fr => opD_bin rfl (evV_eq _ _ _ _ _ rfl) (evV_eq _ _ _ _ _ rfl) (bin_quo (by decide))) rfl ?_
    refine WD.hd (v := .int .i64 ((IntKind.i64.wrap (t38.tdiv 16)).tmod 4)) rfl rfl rfl rfl (fun _ _ _ _ _ => side_no) (fun ids H' fr => opD_bin rfl (evV_eq _ _ _ _ _ rfl) (evV_eq _ _ _ _ _ rfl) (bin_rem (by decide))) rfl ?_
    obtain ⟨t49, e49, hp⟩ := bindS hp
    refine WD.cv (b := t49) (H0 := ⟨.nil, 0, 0⟩) rfl rfl rfl rfl rfl rfl (by rw [← endS e49]; exact rfl) rfl ?_
    refine WD.hd (v := .int .i64 (IntKind.i64.wrap (t38.tdiv 64))) rfl rfl rfl rfl (fun _ _ _ _ _ => side_no) (fun ids H' fr => opD_bin rfl (evV_eq _ _ _ _ _ rfl) (evV_eq _ _ _ _ _ rfl) (bin_quo (by decide))) rfl ?_
    refine WD.hd (v := .int .i64 ((IntKind.i64.wrap (t38.tdiv 64)).tmod 4)) rfl rfl rfl rfl (fun _ _ _ _ _ => side_no) (fun ids H' fr => opD_bin rfl (evV_eq _ _ _ _ _ rfl) (evV_eq _ _ _ _ _ rfl) (bin_rem (by decide))) rfl ?_
    obtain ⟨t53, e53, hp⟩ := bindS hp
    refine WD.cv (b := t53) (H0 := ⟨.nil, 0, 0⟩) rfl rfl rfl rfl rfl rfl (by rw [← endS e53]; exact rfl) rfl ?_
    refine WD.hd (v := .int .i64 (IntKind.i64.wrap (t38.tdiv 256))) rfl rfl rfl rfl (fun _ _ _ _ _ => side_no) (fun ids H' fr => opD_bin rfl (evV_eq _ _ _ _ _ rfl) (evV_eq _ _ _ _ _ rfl) (bin_quo (by decide))) rfl ?_
    refine WD.hd (v := .int .i64 ((IntKind.i64.wrap (t38.tdiv 256)).tmod 21)) rfl rfl rfl rfl (fun _ _ _ _ _ => side_no) (fun ids H' fr => opD_bin rfl (evV_eq _ _ _ _ _ rfl) (evV_eq _ _ _ _ _ rfl) (bin_rem (by decide))) rfl ?_
    refine WD.hd (v := .int .i64 (IntKind.i64.wrap (t38.tdiv 8192))) rfl rfl rfl rfl (fun _ _ _ _ _ => side_no) (fun ids H' fr => opD_bin rfl (evV_eq _ _ _ _ _ rfl) (evV_eq _ _ _ _ _ rfl) (bin_quo (by decide))) rfl ?_
    obtain ⟨nz61, hp⟩ := ifS hp
    refine WD.hd (v := .int .i64 ((IntKind.i64.wrap (t38.tdiv 8192)).tmod (IntKind.i64.wrap (x7_14 + 1)))) rfl rfl rfl rfl (fun _ _ _ _ _ => side_no) (fun ids H' fr => opD_bin rfl (evV_eq _ _ _ _ _ rfl) (evV_eq _ _ _ _ _ rfl) (bin_rem nz61)) rfl ?_
    refine WD.done rfl ?_
    obtain rfl := endS (show some _ = some r from hp)
    exact WJ.rt 200 rfl rfl rfl (fun ids H' fr => ⟨fr.ext0, ⟨_, _, rfl, (fr.slOwn (j := 0) rfl rfl (Nat.le_refl _))⟩⟩)
  · refine WJ.lp 200 (α := Nat × (List Int) × Int × Int × (Option Addr) × Nat × Hp) (fun y => [(0, .v (.slice a_x0 x0.length c_x0)), (1, .v (.int .i64 x1)), (5, .p 0 0), (6, .v (.slice y.2.2.2.2.1 y.2.1.length y.2.2.2.2.2.1)), (7, .v (.int .i64 y.2.2.1)), (8, .v (.int .i64 y.2.2.2.1))]) (fun y => [[.int .i64 0, .bool false, .bool false, .bool false, .int .i64 0, .int .i64 0]]) (fun y => [⟨y.2.2.2.2.1, y.2.2.2.2.2.1, 1, encL iE y.2.1⟩]) (fun y => y.2.2.2.2.2.2) (fun y => y.1) (fun y => Option.bind (f17_l1 x0 y.1 y.2.1 y.2.2.1 y.2.2.2.1) K14 = some r) (k, [5], 5, 0, (some ⟨b10, 0, none⟩), 1, B) rfl hp (by exact ⟨rfl, rfl, rfl, rfl, rfl, rfl, trivial⟩) rfl rfl rfl ?_
    rintro ⟨n, l0, x7, x8, a0, c0, B1⟩ hp ih14
    show WJ _ _ _ B1 [⟨a0, c0, 1, encL iE l0⟩] _ _ ⟨[(0, .v (.slice a_x0 x0.length c_x0)), (1, .v (.int .i64 x1)), (5, .p 0 0), (6, .v (.slice a0 l0.length c0)), (7, .v (.int .i64 x7)), (8, .v (.int .i64 x8))], [[.int .i64 0, .bool false, .bool false, .bool false, .int .i64 0, .int .i64 0]], true, 0⟩
    replace hp : Option.bind (f17_l1 x0 n l0 x7 x8) K14 = some r := hp
    cases n with
    | zero => rw [f17_l1] at hp; exact (noS hp).elim
    | succ n =>
      rw [f17_l1] at hp
      refine WJ.ci 206 hp rfl rfl rfl rfl rfl rfl rfl rfl rfl (fun hc14 hp => ?_) (fun hc14 hp => ?_)
      · refine WJ.ci 202 hp rfl rfl rfl rfl rfl rfl rfl rfl rfl (fun hc17 hp => ?_) (fun hc17 hp => ?_)
        · obtain ⟨t24, e24, hp⟩ := bindS hp
          obtain ⟨b24, o24, cs24, i24, rfl, p24⟩ := g_x0.at e24 u22 sz3
          refine WJ.hd (v := .pointer (some ⟨b24, o24, none⟩)) 211 rfl rfl rfl rfl (fun ids H' fr => opD_indexAddr rfl (evV_eq _ _ _ _ _ rfl) (evV_eq _ _ _ _ _ rfl) (i24 _)) rfl ?_
          refine WJ.hd (v := .int .i64 t24) 200 rfl rfl rfl rfl (fun ids H' fr => opD_load rfl (evV_eq _ _ _ _ _ rfl) ((p24.mono (Nat.zero_le _) fr.ext0.abv).load (d := 0) ag3 rfl)) rfl ?_
          obtain ⟨t26, e26, hp⟩ := bindS hp
          refine WJ.cl 200 (R := R_3 t26) (fun hm h k => R_3.mono hm h k) rfl (fun ids H' fr => f18_ok e26) ?_
          rintro v B2 abB2 rfl
          refine ⟨_, rfl, ?_⟩
          refine WJ.bs (cs := encL iE [IntKind.i64.wrap (1 + t26)]) (sz := 1) (pl := [(0, .int .i64 (IntKind.i64.wrap (1 + t26)))]) 201 rfl rfl rfl rfl rfl (fun _ _ => rfl) (fun _ => by rfl) rfl rfl ?_
          intro b28
          refine ⟨_, rfl, ?_⟩
          obtain ⟨l29, e29, hp⟩ := bindS hp
          obtain ⟨bd29, rfl⟩ := apd_some e29
          refine WJ.ap (L := l0) (L2 := [IntKind.i64.wrap (1 + t26)]) 200 0 rfl rfl rfl rfl rfl rfl rfl rfl (el22 rfl) rfl (fun _ => rfl) (fun _ => rfl) rfl (fun ids H' fr => fr.srcOwn (enc := iE) (sz := 1) (j := 1) (fun _ => rfl) (by decide) rfl) bd29 ?_
          intro a29 c29
          refine ⟨_, rfl, ?_⟩
          refine WJ.pop [⟨a29, c29, 1, encL iE (l0 ++ ([IntKind.i64.wrap (1 + t26)]))⟩] rfl ?_
          obtain ⟨t34, e34, hp⟩ := bindS hp
          refine WJ.ownAddr (enc := iE) (sz := 1) 0 (fun _ => rfl) rfl rfl e34 (fun b34 hb34 => ?_)
          refine WJ.hd (v := .pointer (some ⟨b34, (IntKind.i64.wrap (x8 + 1)).toNat * 1, none⟩)) 207 rfl rfl rfl rfl (fun ids H' fr => opD_indexAddr rfl (evV_eq _ _ _ _ _ rfl) (evV_eq _ _ _ _ _ rfl) (ownIdx hb34 e34 u22 sz3)) rfl ?_
          refine WJ.hd (v := .int .i64 t34) 200 rfl rfl rfl rfl (fun ids H' fr => opD_load rfl (evV_eq _ _ _ _ _ rfl) ((fr.ownEl (enc := iE) (sz := 1) (j := 0) (fun _ => rfl) rfl hb34 e34).load (d := 0) ag3 rfl)) rfl ?_
          exact WJ.ag 209 rfl (by exact ⟨rfl, rfl, rfl, rfl, rfl, rfl, trivial⟩) rfl rfl rfl (ih14 (n, (l0 ++ ([IntKind.i64.wrap (1 + t26)])), IntKind.i64.wrap (x7 + t34), IntKind.i64.wrap (x8 + 1), a29, c29, B2) hp (Nat.lt_succ_self _))
        · exact WJ.goto 4 (j14 (l0, x7, a0, c0, B1) hp) rfl rfl (by exact ⟨rfl, rfl, rfl, rfl, trivial⟩) rfl rfl rfl
      · exact WJ.goto 7 (j14 (l0, x7, a0, c0, B1) hp) rfl rfl (by exact ⟨rfl, rfl, rfl, rfl, trivial⟩) rfl rfl rfl
/-! 19 tipstaff/scrub.Same -/
def f19 (k : Nat) (x0 : List Int) (x1 : Int) (x2 : Shown) (x3 : Shown) : Option (Bool × Int) :=
  (f9 k x0 x1 ([(Shown.mk x2.d x2.sv x2.fa x2.ho x2.at_ x2.pa), (Shown.mk x3.d x3.sv x3.fa x3.ho x3.at_ x3.pa)])).bind fun t18 =>
  if t18.2 = 0 then
    (rd t18.1 0).bind fun t25 =>
    (rd t18.1 1).bind fun t28 =>
    (some (decide (t25 = t28))).bind fun t30 =>
    some (t30, 0)
  else
    some (false, t18.2)
set_option maxRecDepth 20000 in
theorem f19_ok {k : Nat} {H : Hp} {a_x0 : Option Addr} {c_x0 : Nat} {x0 : List Int} {x1 : Int} {x2 : Shown} {x3 : Shown} {r : Bool × Int} (g_x0 : SlF 0 H intC a_x0 c_x0 x0) (hp : f19 k x0 x1 x2 x3 = some r) :
    SCall Try.prog 19 [.slice a_x0 x0.length c_x0, .int .i64 x1, .agg ⟨[.int .i64 x2.d, .bool x2.sv, .bool x2.fa, .bool x2.ho, .int .i64 x2.at_, .int .i64 x2.pa]⟩, .agg ⟨[.int .i64 x3.d, .bool x3.sv, .bool x3.fa, .bool x3.ho, .int .i64 x3.at_, .int .i64 x3.pa]⟩] H (Ret fun v H' => Ext H H' ∧ R_4_27 r H.next H' v) := by
  obtain ⟨x2_d, x2_sv, x2_fa, x2_ho, x2_at_, x2_pa⟩ := x2
  obtain ⟨x3_d, x3_sv, x3_fa, x3_ho, x3_at_, x3_pa⟩ := x3
  unfold f19 at hp
  replace hp := topS hp
  refine SCall.g Try.func19 rfl rfl rfl rfl rfl (l := [(0, .v (.slice a_x0 x0.length c_x0)), (1, .v (.int .i64 x1)), (2, .v (.agg ⟨[.int .i64 x2_d, .bool x2_sv, .bool x2_fa, .bool x2_ho, .int .i64 x2_at_, .int .i64 x2_pa]⟩)), (3, .v (.agg ⟨[.int .i64 x3_d, .bool x3_sv, .bool x3_fa, .bool x3_ho, .int .i64 x3_at_, .int .i64 x3_pa]⟩))]) (fun _ => rfl) (fun B abB => ?_)
  refine WJ.bs (cs := encL Shown.cs [(Shown.mk x2_d x2_sv x2_fa x2_ho x2_at_ x2_pa), (Shown.mk x3_d x3_sv x3_fa x3_ho x3_at_ x3_pa)]) (sz := 6) (pl := [(0, .agg ⟨[.int .i64 x2_d, .bool x2_sv, .bool x2_fa, .bool x2_ho, .int .i64 x2_at_, .int .i64 x2_pa]⟩), (1, .agg ⟨[.int .i64 x3_d, .bool x3_sv, .bool x3_fa, .bool x3_ho, .int .i64 x3_at_, .int .i64 x3_pa]⟩)]) 213 rfl rfl rfl rfl rfl (fun _ _ => rfl) (fun _ => by rfl) rfl rfl ?_
  intro b17
  refine ⟨_, rfl, ?_⟩
  obtain ⟨⟨t18_0, t18_1⟩, e18, hp⟩ := bindS hp
  refine WJ.cl 200 (R := R_26_27 ⟨t18_0, t18_1⟩) (fun hm h k => R_26_27.mono hm h k) rfl (fun ids H' fr => f9_ok (g_x0.mono (Nat.zero_le _) fr.ext0.abv) (fr.slOwn (j := 0) rfl rfl (Nat.zero_le _)) e18) ?_
  rintro v B1 abB1 ⟨a_t18_0, c_t18_0, rfl, g_t18_0⟩
  refine ⟨_, rfl, ?_⟩
  refine WJ.cn 210 hp rfl rfl rfl rfl rfl rfl rfl rfl rfl (fun hc22 hp => ?_) (fun hc22 hp => ?_)
  · obtain rfl := endS (show some _ = some r from hp)
    exact WJ.rt 208 rfl rfl rfl (fun ids H' fr => ⟨fr.ext0, rfl⟩)
  · refine WJ.dr 204 rfl gmix (by kernel_rfl) (by kernel_rfl) rfl ?_
    obtain ⟨⟨t25_floor, t25_panel, t25_out⟩, e25, hp⟩ := bindS hp
    obtain ⟨b25, o25, cs25, i25, rfl, p25⟩ := g_t18_0.at e25 u26 sz32
    refine WD.hd (v := .pointer (some ⟨b25, o25, none⟩)) rfl rfl rfl rfl (fun _ _ _ _ _ => side_no) (fun ids H' fr => opD_indexAddr rfl (evV_eq _ _ _ _ _ rfl) (evV_eq _ _ _ _ _ rfl) (i25 _)) rfl ?_
    refine WD.hd (v := .agg ⟨[.int .i64 t25_floor, .int .i64 t25_panel, .bool t25_out]⟩) rfl rfl rfl rfl (fun _ _ _ _ _ => side_no) (fun ids H' fr => opD_load rfl (evV_eq _ _ _ _ _ rfl) ((p25.mono (Nat.zero_le _) (fr.abv.le (Nat.zero_le _))).loadN (d := 0) ag32 sz32 rfl rfl)) rfl ?_
    obtain ⟨⟨t28_floor, t28_panel, t28_out⟩, e28, hp⟩ := bindS hp
    obtain ⟨b28, o28, cs28, i28, rfl, p28⟩ := g_t18_0.at e28 u26 sz32
    refine WD.hd (v := .pointer (some ⟨b28, o28, none⟩)) rfl rfl rfl rfl (fun _ _ _ _ _ => side_no) (fun ids H' fr => opD_indexAddr rfl (evV_eq _ _ _ _ _ rfl) (evV_eq _ _ _ _ _ rfl) (i28 _)) rfl ?_
    refine WD.hd (v := .agg ⟨[.int .i64 t28_floor, .int .i64 t28_panel, .bool t28_out]⟩) rfl rfl rfl rfl (fun _ _ _ _ _ => side_no) (fun ids H' fr => opD_load rfl (evV_eq _ _ _ _ _ rfl) ((p28.mono (Nat.zero_le _) (fr.abv.le (Nat.zero_le _))).loadN (d := 0) ag32 sz32 rfl rfl)) rfl ?_
    obtain ⟨t30, e30, hp⟩ := bindS hp
    refine WD.cv (b := t30) (H0 := ⟨.nil, 0, 0⟩) rfl rfl rfl rfl rfl rfl (by rw [← endS e30]; exact (opD_eqS rfl rfl rfl rfl gd32 (eq32 t25_floor t25_panel t25_out t28_floor t28_panel t28_out))) rfl ?_
    refine WD.done rfl ?_
    obtain rfl := endS (show some _ = some r from hp)
    exact WJ.rt 200 rfl rfl rfl (fun ids H' fr => ⟨fr.ext0, rfl⟩)
/-! 4 tipstaff/tipstafflaw32.ScrubHides -/
def f4 (k : Nat) (x0 : List Int) (x1 : Int) (x2 : Int) (x3 : Int) : Option Bool :=
  (f17 k x0 x1).bind fun t21 =>
  (f17 k x0 x2).bind fun t27 =>
  (f18 x3 3).bind fun t31 =>
  (if t21.2.d = (IntKind.i64.wrap (1 + t31)) then
    some (0)
  else
    some (t21.2.d)).bind fun v0_0_16 =>
    (if t27.2.d = (IntKind.i64.wrap (1 + t31)) then
      some ((IntKind.i64.wrap (1 + ((IntKind.i64.wrap (1 + t31)).tmod 3))))
    else
      some (t27.2.d)).bind fun v1_0_18 =>
      (f19 k t21.1 (IntKind.i64.wrap (1 + t31)) (Shown.mk v0_0_16 t21.2.sv t21.2.fa t21.2.ho t21.2.at_ t21.2.pa) (Shown.mk v1_0_18 t27.2.sv t27.2.fa t27.2.ho t27.2.at_ t27.2.pa)).bind fun t51 =>
      (f12 k t21.1 (IntKind.i64.wrap (1 + t31)) (Shown.mk v0_0_16 t21.2.sv t21.2.fa t21.2.ho t21.2.at_ t21.2.pa)).bind fun t58 =>
      if t51.2 = 0 then
        if t58.2 = 0 then
          if t51.1 then
            if (Sight.mk t58.1.floor t58.1.panel t58.1.out) = (Sight.mk (-1) 0 false) then
              (f7).bind fun t76 =>
              some t76
            else
              some false
          else
            some false
        else
          some false
      else
        some false
set_option maxRecDepth 20000 in
theorem f4_ok {k : Nat} {H : Hp} {a_x0 : Option Addr} {c_x0 : Nat} {x0 : List Int} {x1 : Int} {x2 : Int} {x3 : Int} {r : Bool} (g_x0 : SlF 0 H intC a_x0 c_x0 x0) (hp : f4 k x0 x1 x2 x3 = some r) :
    SCall Try.prog 4 [.slice a_x0 x0.length c_x0, .int .i64 x1, .int .i64 x2, .int .i64 x3] H (Ret fun v H' => Ext H H' ∧ R_4 r H.next H' v) := by
  unfold f4 at hp
  replace hp := topS hp
  refine SCall.g Try.func4 rfl rfl rfl rfl rfl (l := [(0, .v (.slice a_x0 x0.length c_x0)), (1, .v (.int .i64 x1)), (2, .v (.int .i64 x2)), (3, .v (.int .i64 x3))]) (fun _ => rfl) (fun B abB => ?_)
  obtain ⟨⟨t21_0, ⟨t21_1_d, t21_1_sv, t21_1_fa, t21_1_ho, t21_1_at_, t21_1_pa⟩⟩, e21, hp⟩ := bindS hp
  refine WJ.cl 208 (R := R_22_36 ⟨t21_0, ⟨t21_1_d, t21_1_sv, t21_1_fa, t21_1_ho, t21_1_at_, t21_1_pa⟩⟩) (fun hm h k => R_22_36.mono hm h k) rfl (fun ids H' fr => f17_ok (g_x0.mono (Nat.zero_le _) fr.ext0.abv) e21) ?_
  rintro v B1 abB1 ⟨a_t21_0, c_t21_0, rfl, g_t21_0⟩
  refine ⟨_, rfl, ?_⟩
  obtain ⟨⟨t27_0, ⟨t27_1_d, t27_1_sv, t27_1_fa, t27_1_ho, t27_1_at_, t27_1_pa⟩⟩, e27, hp⟩ := bindS hp
  refine WJ.cl 211 (R := R_22_36 ⟨t27_0, ⟨t27_1_d, t27_1_sv, t27_1_fa, t27_1_ho, t27_1_at_, t27_1_pa⟩⟩) (fun hm h k => R_22_36.mono hm h k) rfl (fun ids H' fr => f17_ok (g_x0.mono (Nat.zero_le _) fr.ext0.abv) e27) ?_
  rintro v B2 abB2 ⟨a_t27_0, c_t27_0, rfl, g_t27_0⟩
  refine ⟨_, rfl, ?_⟩
  replace g_t21_0 := g_t21_0.mono (Nat.le_refl _) (abB2.le (Nat.zero_le _))
  obtain ⟨t31, e31, hp⟩ := bindS hp
  refine WJ.cl 210 (R := R_3 t31) (fun hm h k => R_3.mono hm h k) rfl (fun ids H' fr => f18_ok e31) ?_
  rintro v B3 abB3 rfl
  refine ⟨_, rfl, ?_⟩
  replace g_t21_0 := g_t21_0.mono (Nat.le_refl _) (abB3.le (Nat.zero_le _))
  replace g_t27_0 := g_t27_0.mono (Nat.le_refl _) (abB3.le (Nat.zero_le _))
  refine WJ.adv 5 rfl ?_
  obtain ⟨K16, hK16, hp⟩ : ∃ K, K = _ ∧ Option.bind _ K = some r := ⟨_, rfl, cutS hp⟩
  refine WJ.cut 2 (α := Int) (fun y => [(9, .v (.slice a_t21_0 t21_0.length c_t21_0)), (10, .p 0 0), (12, .p 1 0), (13, .v (.int .i64 (IntKind.i64.wrap (1 + t31))))]) (fun y => [[.int .i64 y, .bool t21_1_sv, .bool t21_1_fa, .bool t21_1_ho, .int .i64 t21_1_at_, .int .i64 t21_1_pa], [.int .i64 t27_1_d, .bool t27_1_sv, .bool t27_1_fa, .bool t27_1_ho, .int .i64 t27_1_at_, .int .i64 t27_1_pa]]) (fun y => []) (fun y => B3) (fun y => K16 ((y)) = some r) ?_ (fun j16 => ?_)
  · rintro v0_0_16 hp
    subst hK16
    show WJ _ _ _ B3 [] _ _ ⟨[(9, .v (.slice a_t21_0 t21_0.length c_t21_0)), (10, .p 0 0), (12, .p 1 0), (13, .v (.int .i64 (IntKind.i64.wrap (1 + t31))))], [[.int .i64 v0_0_16, .bool t21_1_sv, .bool t21_1_fa, .bool t21_1_ho, .int .i64 t21_1_at_, .int .i64 t21_1_pa], [.int .i64 t27_1_d, .bool t27_1_sv, .bool t27_1_fa, .bool t27_1_ho, .int .i64 t27_1_at_, .int .i64 t27_1_pa]], true, 0⟩
    refine WJ.adv 2 rfl ?_
    obtain ⟨K18, hK18, hp⟩ : ∃ K, K = _ ∧ Option.bind _ K = some r := ⟨_, rfl, cutS hp⟩
    refine WJ.cut 2 (α := Int) (fun y => [(9, .v (.slice a_t21_0 t21_0.length c_t21_0)), (10, .p 0 0), (12, .p 1 0), (13, .v (.int .i64 (IntKind.i64.wrap (1 + t31))))]) (fun y => [[.int .i64 v0_0_16, .bool t21_1_sv, .bool t21_1_fa, .bool t21_1_ho, .int .i64 t21_1_at_, .int .i64 t21_1_pa], [.int .i64 y, .bool t27_1_sv, .bool t27_1_fa, .bool t27_1_ho, .int .i64 t27_1_at_, .int .i64 t27_1_pa]]) (fun y => []) (fun y => B3) (fun y => K18 ((y)) = some r) ?_ (fun j18 => ?_)
    · rintro v1_0_18 hp
      subst hK18
      show WJ _ _ _ B3 [] _ _ ⟨[(9, .v (.slice a_t21_0 t21_0.length c_t21_0)), (10, .p 0 0), (12, .p 1 0), (13, .v (.int .i64 (IntKind.i64.wrap (1 + t31))))], [[.int .i64 v0_0_16, .bool t21_1_sv, .bool t21_1_fa, .bool t21_1_ho, .int .i64 t21_1_at_, .int .i64 t21_1_pa], [.int .i64 v1_0_18, .bool t27_1_sv, .bool t27_1_fa, .bool t27_1_ho, .int .i64 t27_1_at_, .int .i64 t27_1_pa]], true, 0⟩
      obtain ⟨⟨t51_0, t51_1⟩, e51, hp⟩ := bindS hp
      refine WJ.cl 206 (R := R_4_27 ⟨t51_0, t51_1⟩) (fun hm h k => R_4_27.mono hm h k) rfl (fun ids H' fr => f19_ok (x2 := (Shown.mk v0_0_16 t21_1_sv t21_1_fa t21_1_ho t21_1_at_ t21_1_pa)) (x3 := (Shown.mk v1_0_18 t27_1_sv t27_1_fa t27_1_ho t27_1_at_ t27_1_pa)) (g_t21_0.mono (Nat.zero_le _) (fr.abv.le (Nat.zero_le _))) e51) ?_
      rintro v B4 abB4 rfl
      refine ⟨_, rfl, ?_⟩
      replace g_t21_0 := g_t21_0.mono (Nat.le_refl _) (abB4.le (Nat.zero_le _))
      replace g_t27_0 := g_t27_0.mono (Nat.le_refl _) (abB4.le (Nat.zero_le _))
      obtain ⟨⟨⟨t58_0_floor, t58_0_panel, t58_0_out⟩, t58_1⟩, e58, hp⟩ := bindS hp
      refine WJ.cl 211 (R := R_32_27 ⟨⟨t58_0_floor, t58_0_panel, t58_0_out⟩, t58_1⟩) (fun hm h k => R_32_27.mono hm h k) rfl (fun ids H' fr => f12_ok (x2 := (Shown.mk v0_0_16 t21_1_sv t21_1_fa t21_1_ho t21_1_at_ t21_1_pa)) (g_t21_0.mono (Nat.zero_le _) (fr.abv.le (Nat.zero_le _))) e58) ?_
      rintro v B5 abB5 rfl
      refine ⟨_, rfl, ?_⟩
      replace g_t21_0 := g_t21_0.mono (Nat.le_refl _) (abB5.le (Nat.zero_le _))
      replace g_t27_0 := g_t27_0.mono (Nat.le_refl _) (abB5.le (Nat.zero_le _))
      refine WJ.ci 210 hp rfl rfl rfl rfl rfl rfl rfl rfl rfl (fun hc62 hp => ?_) (fun hc62 hp => ?_)
      · refine WJ.ci 202 hp rfl rfl rfl rfl rfl rfl rfl rfl rfl (fun hc65 hp => ?_) (fun hc65 hp => ?_)
        · cases t51_0
          · replace hp := (itS hp).2 Bool.false_ne_true
            obtain rfl := endS (show some _ = some r from hp)
            exact WJ.rt 214 rfl rfl rfl (fun ids H' fr => ⟨fr.ext0, rfl⟩)
          · replace hp := (itS hp).1 rfl
            refine WJ.ci 207 hp rfl rfl rfl rfl rfl rfl (opD_eqS rfl rfl rfl rfl gd32 (eq32 t58_0_floor t58_0_panel t58_0_out (-1) 0 false)) rfl rfl (fun hc73 hp => ?_) (fun hc73 hp => ?_)
            · obtain ⟨t76, e76, hp⟩ := bindS hp
              refine WJ.cl 202 (R := R_4 t76) (fun hm h k => R_4.mono hm h k) rfl (fun ids H' fr => f7_ok e76) ?_
              rintro v B6 abB6 rfl
              refine ⟨_, rfl, ?_⟩
              replace g_t21_0 := g_t21_0.mono (Nat.le_refl _) (abB6.le (Nat.zero_le _))
              replace g_t27_0 := g_t27_0.mono (Nat.le_refl _) (abB6.le (Nat.zero_le _))
              obtain rfl := endS (show some _ = some r from hp)
              exact WJ.rt 203 rfl rfl rfl (fun ids H' fr => ⟨fr.ext0, rfl⟩)
            · obtain rfl := endS (show some _ = some r from hp)
              exact WJ.rt 206 rfl rfl rfl (fun ids H' fr => ⟨fr.ext0, rfl⟩)
        · obtain rfl := endS (show some _ = some r from hp)
          exact WJ.rt 214 rfl rfl rfl (fun ids H' fr => ⟨fr.ext0, rfl⟩)
      · obtain rfl := endS (show some _ = some r from hp)
        exact WJ.rt 217 rfl rfl rfl (fun ids H' fr => ⟨fr.ext0, rfl⟩)
    · refine WJ.ci 204 hp rfl rfl rfl rfl rfl rfl rfl rfl rfl (fun hc41 hp => ?_) (fun hc41 hp => ?_)
      · refine WJ.hd (v := .int .i64 ((IntKind.i64.wrap (1 + t31)).tmod 3)) 204 rfl rfl rfl rfl (fun ids H' fr => opD_bin rfl (evV_eq _ _ _ _ _ rfl) (evV_eq _ _ _ _ _ rfl) (bin_rem (by decide))) rfl ?_
        exact WJ.goto 4 (j18 (IntKind.i64.wrap (1 + ((IntKind.i64.wrap (1 + t31)).tmod 3))) hp) rfl rfl (by exact ⟨rfl, rfl, rfl, rfl, trivial⟩) rfl rfl rfl
      · exact WJ.goto 3 (j18 t27_1_d hp) rfl rfl (by exact ⟨rfl, rfl, rfl, rfl, trivial⟩) rfl rfl rfl
  · refine WJ.ci 204 hp rfl rfl rfl rfl rfl rfl rfl rfl rfl (fun hc36 hp => ?_) (fun hc36 hp => ?_)
    · exact WJ.goto 6 (j16 0 hp) rfl rfl (by exact ⟨rfl, rfl, rfl, rfl, trivial⟩) rfl rfl rfl
    · exact WJ.goto 3 (j16 t21_1_d hp) rfl rfl (by exact ⟨rfl, rfl, rfl, rfl, trivial⟩) rfl rfl rfl
/-! 20 tipstaff/tipstaffref32.Same -/
def f20 (k : Nat) (x0 : List Int) (x1 : Int) (x2 : Shown) (x3 : Shown) : Option (Bool × Int) :=
  (f10 k x0 x1 ([(Shown.mk x2.d x2.sv x2.fa x2.ho x2.at_ x2.pa), (Shown.mk x3.d x3.sv x3.fa x3.ho x3.at_ x3.pa)])).bind fun t18 =>
  if t18.2 = 0 then
    (rd t18.1 0).bind fun t25 =>
    (rd t18.1 1).bind fun t28 =>
    (some (decide (t25 = t28))).bind fun t30 =>
    some (t30, 0)
  else
    some (false, t18.2)
set_option maxRecDepth 20000 in
theorem f20_ok {k : Nat} {H : Hp} {a_x0 : Option Addr} {c_x0 : Nat} {x0 : List Int} {x1 : Int} {x2 : Shown} {x3 : Shown} {r : Bool × Int} (g_x0 : SlF 0 H intC a_x0 c_x0 x0) (hp : f20 k x0 x1 x2 x3 = some r) :
    SCall Try.prog 20 [.slice a_x0 x0.length c_x0, .int .i64 x1, .agg ⟨[.int .i64 x2.d, .bool x2.sv, .bool x2.fa, .bool x2.ho, .int .i64 x2.at_, .int .i64 x2.pa]⟩, .agg ⟨[.int .i64 x3.d, .bool x3.sv, .bool x3.fa, .bool x3.ho, .int .i64 x3.at_, .int .i64 x3.pa]⟩] H (Ret fun v H' => Ext H H' ∧ R_4_27 r H.next H' v) := by
  obtain ⟨x2_d, x2_sv, x2_fa, x2_ho, x2_at_, x2_pa⟩ := x2
  obtain ⟨x3_d, x3_sv, x3_fa, x3_ho, x3_at_, x3_pa⟩ := x3
  unfold f20 at hp
  replace hp := topS hp
  refine SCall.g Try.func20 rfl rfl rfl rfl rfl (l := [(0, .v (.slice a_x0 x0.length c_x0)), (1, .v (.int .i64 x1)), (2, .v (.agg ⟨[.int .i64 x2_d, .bool x2_sv, .bool x2_fa, .bool x2_ho, .int .i64 x2_at_, .int .i64 x2_pa]⟩)), (3, .v (.agg ⟨[.int .i64 x3_d, .bool x3_sv, .bool x3_fa, .bool x3_ho, .int .i64 x3_at_, .int .i64 x3_pa]⟩))]) (fun _ => rfl) (fun B abB => ?_)
  refine WJ.bs (cs := encL Shown.cs [(Shown.mk x2_d x2_sv x2_fa x2_ho x2_at_ x2_pa), (Shown.mk x3_d x3_sv x3_fa x3_ho x3_at_ x3_pa)]) (sz := 6) (pl := [(0, .agg ⟨[.int .i64 x2_d, .bool x2_sv, .bool x2_fa, .bool x2_ho, .int .i64 x2_at_, .int .i64 x2_pa]⟩), (1, .agg ⟨[.int .i64 x3_d, .bool x3_sv, .bool x3_fa, .bool x3_ho, .int .i64 x3_at_, .int .i64 x3_pa]⟩)]) 213 rfl rfl rfl rfl rfl (fun _ _ => rfl) (fun _ => by rfl) rfl rfl ?_
  intro b17
  refine ⟨_, rfl, ?_⟩
  obtain ⟨⟨t18_0, t18_1⟩, e18, hp⟩ := bindS hp
  refine WJ.cl 200 (R := R_26_27 ⟨t18_0, t18_1⟩) (fun hm h k => R_26_27.mono hm h k) rfl (fun ids H' fr => f10_ok (g_x0.mono (Nat.zero_le _) fr.ext0.abv) (fr.slOwn (j := 0) rfl rfl (Nat.zero_le _)) e18) ?_
  rintro v B1 abB1 ⟨a_t18_0, c_t18_0, rfl, g_t18_0⟩
  refine ⟨_, rfl, ?_⟩
  refine WJ.cn 210 hp rfl rfl rfl rfl rfl rfl rfl rfl rfl (fun hc22 hp => ?_) (fun hc22 hp => ?_)
  · obtain rfl := endS (show some _ = some r from hp)
    exact WJ.rt 208 rfl rfl rfl (fun ids H' fr => ⟨fr.ext0, rfl⟩)
  · refine WJ.dr 204 rfl gmix (by kernel_rfl) (by kernel_rfl) rfl ?_
    obtain ⟨⟨t25_floor, t25_panel, t25_out⟩, e25, hp⟩ := bindS hp
    obtain ⟨b25, o25, cs25, i25, rfl, p25⟩ := g_t18_0.at e25 u26 sz32
    refine WD.hd (v := .pointer (some ⟨b25, o25, none⟩)) rfl rfl rfl rfl (fun _ _ _ _ _ => side_no) (fun ids H' fr => opD_indexAddr rfl (evV_eq _ _ _ _ _ rfl) (evV_eq _ _ _ _ _ rfl) (i25 _)) rfl ?_
    refine WD.hd (v := .agg ⟨[.int .i64 t25_floor, .int .i64 t25_panel, .bool t25_out]⟩) rfl rfl rfl rfl (fun _ _ _ _ _ => side_no) (fun ids H' fr => opD_load rfl (evV_eq _ _ _ _ _ rfl) ((p25.mono (Nat.zero_le _) (fr.abv.le (Nat.zero_le _))).loadN (d := 0) ag32 sz32 rfl rfl)) rfl ?_
    obtain ⟨⟨t28_floor, t28_panel, t28_out⟩, e28, hp⟩ := bindS hp
    obtain ⟨b28, o28, cs28, i28, rfl, p28⟩ := g_t18_0.at e28 u26 sz32
    refine WD.hd (v := .pointer (some ⟨b28, o28, none⟩)) rfl rfl rfl rfl (fun _ _ _ _ _ => side_no) (fun ids H' fr => opD_indexAddr rfl (evV_eq _ _ _ _ _ rfl) (evV_eq _ _ _ _ _ rfl) (i28 _)) rfl ?_
    refine WD.hd (v := .agg ⟨[.int .i64 t28_floor, .int .i64 t28_panel, .bool t28_out]⟩) rfl rfl rfl rfl (fun _ _ _ _ _ => side_no) (fun ids H' fr => opD_load rfl (evV_eq _ _ _ _ _ rfl) ((p28.mono (Nat.zero_le _) (fr.abv.le (Nat.zero_le _))).loadN (d := 0) ag32 sz32 rfl rfl)) rfl ?_
    obtain ⟨t30, e30, hp⟩ := bindS hp
    refine WD.cv (b := t30) (H0 := ⟨.nil, 0, 0⟩) rfl rfl rfl rfl rfl rfl (by rw [← endS e30]; exact (opD_eqS rfl rfl rfl rfl gd32 (eq32 t25_floor t25_panel t25_out t28_floor t28_panel t28_out))) rfl ?_
    refine WD.done rfl ?_
    obtain rfl := endS (show some _ = some r from hp)
    exact WJ.rt 200 rfl rfl rfl (fun ids H' fr => ⟨fr.ext0, rfl⟩)
/-! 22 tipstaff/tipstaffref32.Differ -/
def f22 (x0 : Sight) (x1 : Sight) : Option (List Int) :=
  (if x0.floor = x1.floor then
    some (([]))
  else
    (apd 8 ([]) ([1])).bind fun l13 =>
    some (l13)).bind fun l0_19 =>
    (if x0.panel = x1.panel then
      some (l0_19)
    else
      (apd 8 l0_19 ([2])).bind fun l21 =>
      some (l21)).bind fun l0_20 =>
      ((some (!(x0.out == x1.out))).bind fun t26 =>
      if t26 then
        (apd 8 l0_20 ([3])).bind fun l29 =>
        some (l29)
      else
        some (l0_20)).bind fun l0_21 =>
        some l0_21
set_option maxRecDepth 20000 in
theorem f22_ok {H : Hp} {x0 : Sight} {x1 : Sight} {r : List Int} (hp : f22 x0 x1 = some r) :
    SCall Try.prog 22 [.agg ⟨[.int .i64 x0.floor, .int .i64 x0.panel, .bool x0.out]⟩, .agg ⟨[.int .i64 x1.floor, .int .i64 x1.panel, .bool x1.out]⟩] H (Ret fun v H' => Ext H H' ∧ R_22 r H.next H' v) := by
  obtain ⟨x0_floor, x0_panel, x0_out⟩ := x0
  obtain ⟨x1_floor, x1_panel, x1_out⟩ := x1
  unfold f22 at hp
  replace hp := topS hp
  refine SCall.g Try.func22 rfl rfl rfl rfl rfl (l := [(0, .v (.agg ⟨[.int .i64 x0_floor, .int .i64 x0_panel, .bool x0_out]⟩)), (1, .v (.agg ⟨[.int .i64 x1_floor, .int .i64 x1_panel, .bool x1_out]⟩))]) (fun _ => rfl) (fun B abB => ?_)
  refine WJ.adv 12 rfl ?_
  refine WJ.nw 1 ?_
  obtain ⟨K19, hK19, hp⟩ : ∃ K, K = _ ∧ Option.bind _ K = some r := ⟨_, rfl, cutS hp⟩
  refine WJ.cut 2 (α := (List Int) × (Option Addr) × Nat) (fun y => [(2, .p 0 0), (3, .p 1 0), (5, .v (.slice y.2.1 y.1.length y.2.2))]) (fun y => [[.int .i64 x0_floor, .int .i64 x0_panel, .bool x0_out], [.int .i64 x1_floor, .int .i64 x1_panel, .bool x1_out]]) (fun y => [⟨y.2.1, y.2.2, 1, encL iE y.1⟩]) (fun y => B) (fun y => K19 ((y.1)) = some r) ?_ (fun j19 => ?_)
  · rintro ⟨l0_19, a0_19, c0_19⟩ hp
    subst hK19
    show WJ _ _ _ B [⟨a0_19, c0_19, 1, encL iE l0_19⟩] _ _ ⟨[(2, .p 0 0), (3, .p 1 0), (5, .v (.slice a0_19 l0_19.length c0_19))], [[.int .i64 x0_floor, .int .i64 x0_panel, .bool x0_out], [.int .i64 x1_floor, .int .i64 x1_panel, .bool x1_out]], true, 0⟩
    refine WJ.adv 2 rfl ?_
    obtain ⟨K20, hK20, hp⟩ : ∃ K, K = _ ∧ Option.bind _ K = some r := ⟨_, rfl, cutS hp⟩
    refine WJ.cut 2 (α := (List Int) × (Option Addr) × Nat) (fun y => [(2, .p 0 0), (3, .p 1 0), (5, .v (.slice y.2.1 y.1.length y.2.2))]) (fun y => [[.int .i64 x0_floor, .int .i64 x0_panel, .bool x0_out], [.int .i64 x1_floor, .int .i64 x1_panel, .bool x1_out]]) (fun y => [⟨y.2.1, y.2.2, 1, encL iE y.1⟩]) (fun y => B) (fun y => K20 ((y.1)) = some r) ?_ (fun j20 => ?_)
    · rintro ⟨l0_20, a0_20, c0_20⟩ hp
      subst hK20
      show WJ _ _ _ B [⟨a0_20, c0_20, 1, encL iE l0_20⟩] _ _ ⟨[(2, .p 0 0), (3, .p 1 0), (5, .v (.slice a0_20 l0_20.length c0_20))], [[.int .i64 x0_floor, .int .i64 x0_panel, .bool x0_out], [.int .i64 x1_floor, .int .i64 x1_panel, .bool x1_out]], true, 0⟩
      refine WJ.adv 2 rfl ?_
      obtain ⟨K21, hK21, hp⟩ : ∃ K, K = _ ∧ Option.bind _ K = some r := ⟨_, rfl, cutS hp⟩
      refine WJ.cut 2 (α := (List Int) × (Option Addr) × Nat) (fun y => [(5, .v (.slice y.2.1 y.1.length y.2.2))]) (fun y => [[.int .i64 x0_floor, .int .i64 x0_panel, .bool x0_out], [.int .i64 x1_floor, .int .i64 x1_panel, .bool x1_out]]) (fun y => [⟨y.2.1, y.2.2, 1, encL iE y.1⟩]) (fun y => B) (fun y => K21 ((y.1)) = some r) ?_ (fun j21 => ?_)
      · rintro ⟨l0_21, a0_21, c0_21⟩ hp
        subst hK21
        show WJ _ _ _ B [⟨a0_21, c0_21, 1, encL iE l0_21⟩] _ _ ⟨[(5, .v (.slice a0_21 l0_21.length c0_21))], [[.int .i64 x0_floor, .int .i64 x0_panel, .bool x0_out], [.int .i64 x1_floor, .int .i64 x1_panel, .bool x1_out]], true, 0⟩
        obtain rfl := endS (show some _ = some r from hp)
        exact WJ.rt 205 rfl rfl rfl (fun ids H' fr => ⟨fr.ext0, ⟨_, _, rfl, (fr.slOwn (j := 0) rfl rfl (Nat.le_refl _))⟩⟩)
      · obtain ⟨t26, e26, hp⟩ := bindS hp
        refine WJ.cv 205 (b := t26) (H0 := ⟨.nil, 0, 0⟩) rfl rfl rfl rfl rfl rfl (by rw [← endS e26]; exact rfl) rfl ?_
        cases t26
        · replace hp := (itS hp).2 Bool.false_ne_true
          exact WJ.goto 3 (j21 (l0_20, a0_20, c0_20) hp) rfl rfl (by exact ⟨rfl, trivial⟩) rfl rfl rfl
        · replace hp := (itS hp).1 rfl
          refine WJ.bs (cs := encL iE [3]) (sz := 1) (pl := [(0, .int .i64 3)]) 204 rfl rfl rfl rfl rfl (fun _ _ => rfl) (fun _ => by rfl) rfl rfl ?_
          intro b28
          refine ⟨_, rfl, ?_⟩
          obtain ⟨l29, e29, hp⟩ := bindS hp
          obtain ⟨bd29, rfl⟩ := apd_some e29
          refine WJ.ap (L := l0_20) (L2 := [3]) 200 0 rfl rfl rfl rfl rfl rfl rfl rfl (el22 rfl) rfl (fun _ => rfl) (fun _ => rfl) rfl (fun ids H' fr => fr.srcOwn (enc := iE) (sz := 1) (j := 1) (fun _ => rfl) (by decide) rfl) bd29 ?_
          intro a29 c29
          refine ⟨_, rfl, ?_⟩
          refine WJ.pop [⟨a29, c29, 1, encL iE (l0_20 ++ ([3]))⟩] rfl ?_
          exact WJ.goto 2 (j21 ((l0_20 ++ ([3])), a29, c29) hp) rfl rfl (by exact ⟨rfl, trivial⟩) rfl rfl rfl
    · refine WJ.cn 205 hp rfl rfl rfl rfl rfl rfl rfl rfl rfl (fun hc18 hp => ?_) (fun hc18 hp => ?_)
      · refine WJ.bs (cs := encL iE [2]) (sz := 1) (pl := [(0, .int .i64 2)]) 204 rfl rfl rfl rfl rfl (fun _ _ => rfl) (fun _ => by rfl) rfl rfl ?_
        intro b20
        refine ⟨_, rfl, ?_⟩
        obtain ⟨l21, e21, hp⟩ := bindS hp
        obtain ⟨bd21, rfl⟩ := apd_some e21
        refine WJ.ap (L := l0_19) (L2 := [2]) 200 0 rfl rfl rfl rfl rfl rfl rfl rfl (el22 rfl) rfl (fun _ => rfl) (fun _ => rfl) rfl (fun ids H' fr => fr.srcOwn (enc := iE) (sz := 1) (j := 1) (fun _ => rfl) (by decide) rfl) bd21 ?_
        intro a21 c21
        refine ⟨_, rfl, ?_⟩
        refine WJ.pop [⟨a21, c21, 1, encL iE (l0_19 ++ ([2]))⟩] rfl ?_
        exact WJ.goto 2 (j20 ((l0_19 ++ ([2])), a21, c21) hp) rfl rfl (by exact ⟨rfl, rfl, rfl, trivial⟩) rfl rfl rfl
      · exact WJ.goto 3 (j20 (l0_19, a0_19, c0_19) hp) rfl rfl (by exact ⟨rfl, rfl, rfl, trivial⟩) rfl rfl rfl
  · refine WJ.cn 205 hp rfl rfl rfl rfl rfl rfl rfl rfl rfl (fun hc10 hp => ?_) (fun hc10 hp => ?_)
    · refine WJ.bs (cs := encL iE [1]) (sz := 1) (pl := [(0, .int .i64 1)]) 204 rfl rfl rfl rfl rfl (fun _ _ => rfl) (fun _ => by rfl) rfl rfl ?_
      intro b12
      refine ⟨_, rfl, ?_⟩
      obtain ⟨l13, e13, hp⟩ := bindS hp
      obtain ⟨bd13, rfl⟩ := apd_some e13
      refine WJ.ap (L := ([] : List Int)) (L2 := [1]) 200 0 rfl rfl rfl rfl rfl rfl rfl rfl (el22 rfl) rfl (fun _ => rfl) (fun _ => rfl) rfl (fun ids H' fr => fr.srcOwn (enc := iE) (sz := 1) (j := 1) (fun _ => rfl) (by decide) rfl) bd13 ?_
      intro a13 c13
      refine ⟨_, rfl, ?_⟩
      refine WJ.pop [⟨a13, c13, 1, encL iE (([] : List Int) ++ ([1]))⟩] rfl ?_
      exact WJ.goto 2 (j19 ((([] : List Int) ++ ([1])), a13, c13) hp) rfl rfl (by exact ⟨rfl, rfl, rfl, trivial⟩) rfl rfl rfl
    · exact WJ.goto 3 (j19 (([] : List Int), none, 0) hp) rfl rfl (by exact ⟨rfl, rfl, rfl, trivial⟩) rfl rfl rfl
/-! 5 tipstaff/tipstafflaw32.ScrubSame -/
def f5 (k : Nat) (x0 : List Int) (x1 : Int) (x2 : List Shown) (x3 : Sight) (x4 : Sight) : Option Bool :=
  if (x0.length : Int) > 70 then
    (f7).bind fun t23 =>
    some t23
  else
    if (x2.length : Int) = 2 then
      (rd x2 0).bind fun t28 =>
      (rd x2 1).bind fun t31 =>
      (f19 k x0 x1 t28 t31).bind fun t33 =>
      (rd x2 0).bind fun t40 =>
      (rd x2 1).bind fun t43 =>
      (f20 k x0 x1 t40 t43).bind fun t45 =>
      (some (t33.1 == t45.1)).bind fun t50 =>
      if t50 then
        if t33.2 = t45.2 then
          (f21 (Sight.mk x3.floor x3.panel x3.out) (Sight.mk x4.floor x4.panel x4.out)).bind fun t59 =>
          (f22 (Sight.mk x3.floor x3.panel x3.out) (Sight.mk x4.floor x4.panel x4.out)).bind fun t62 =>
          (f16 k t59 t62).bind fun t63 =>
          if t63 then
            (f7).bind fun t66 =>
            some t66
          else
            some false
        else
          some false
      else
        some false
    else
      (f7).bind fun t23 =>
      some t23
set_option maxRecDepth 20000 in
theorem f5_ok {k : Nat} {H : Hp} {a_x0 : Option Addr} {c_x0 : Nat} {a_x2 : Option Addr} {c_x2 : Nat} {x0 : List Int} {x1 : Int} {x2 : List Shown} {x3 : Sight} {x4 : Sight} {r : Bool} (g_x0 : SlF 0 H intC a_x0 c_x0 x0) (g_x2 : SlF 0 H ShownC a_x2 c_x2 x2) (hp : f5 k x0 x1 x2 x3 x4 = some r) :
    SCall Try.prog 5 [.slice a_x0 x0.length c_x0, .int .i64 x1, .slice a_x2 x2.length c_x2, .agg ⟨[.int .i64 x3.floor, .int .i64 x3.panel, .bool x3.out]⟩, .agg ⟨[.int .i64 x4.floor, .int .i64 x4.panel, .bool x4.out]⟩] H (Ret fun v H' => Ext H H' ∧ R_4 r H.next H' v) := by
  obtain ⟨x3_floor, x3_panel, x3_out⟩ := x3
  obtain ⟨x4_floor, x4_panel, x4_out⟩ := x4
  unfold f5 at hp
  replace hp := topS hp
  refine SCall.g Try.func5 rfl rfl rfl rfl rfl (l := [(0, .v (.slice a_x0 x0.length c_x0)), (1, .v (.int .i64 x1)), (2, .v (.slice a_x2 x2.length c_x2)), (3, .v (.agg ⟨[.int .i64 x3_floor, .int .i64 x3_panel, .bool x3_out]⟩)), (4, .v (.agg ⟨[.int .i64 x4_floor, .int .i64 x4_panel, .bool x4_out]⟩))]) (fun _ => rfl) (fun B abB => ?_)
  refine WJ.ci 211 hp rfl rfl rfl rfl rfl rfl rfl rfl rfl (fun hc17 hp => ?_) (fun hc17 hp => ?_)
  · obtain ⟨t23, e23, hp⟩ := bindS hp
    refine WJ.cl 209 (R := R_4 t23) (fun hm h k => R_4.mono hm h k) rfl (fun ids H' fr => f7_ok e23) ?_
    rintro v B1 abB1 rfl
    refine ⟨_, rfl, ?_⟩
    obtain rfl := endS (show some _ = some r from hp)
    exact WJ.rt 202 rfl rfl rfl (fun ids H' fr => ⟨fr.ext0, rfl⟩)
  · refine WJ.cn 203 hp rfl rfl rfl rfl rfl rfl rfl rfl rfl (fun hc21 hp => ?_) (fun hc21 hp => ?_)
    · obtain ⟨t23, e23, hp⟩ := bindS hp
      refine WJ.cl 205 (R := R_4 t23) (fun hm h k => R_4.mono hm h k) rfl (fun ids H' fr => f7_ok e23) ?_
      rintro v B2 abB2 rfl
      refine ⟨_, rfl, ?_⟩
      obtain rfl := endS (show some _ = some r from hp)
      exact WJ.rt 202 rfl rfl rfl (fun ids H' fr => ⟨fr.ext0, rfl⟩)
    · refine WJ.dr 205 rfl gmix (by kernel_rfl) (by kernel_rfl) rfl ?_
      obtain ⟨⟨t28_d, t28_sv, t28_fa, t28_ho, t28_at_, t28_pa⟩, e28, hp⟩ := bindS hp
      obtain ⟨b28, o28, cs28, i28, rfl, p28⟩ := g_x2.at e28 u23 sz36
      refine WD.hd (v := .pointer (some ⟨b28, o28, none⟩)) rfl rfl rfl rfl (fun _ _ _ _ _ => side_no) (fun ids H' fr => opD_indexAddr rfl (evV_eq _ _ _ _ _ rfl) (evV_eq _ _ _ _ _ rfl) (i28 _)) rfl ?_
      refine WD.hd (v := .agg ⟨[.int .i64 t28_d, .bool t28_sv, .bool t28_fa, .bool t28_ho, .int .i64 t28_at_, .int .i64 t28_pa]⟩) rfl rfl rfl rfl (fun _ _ _ _ _ => side_no) (fun ids H' fr => opD_load rfl (evV_eq _ _ _ _ _ rfl) ((p28.mono (Nat.zero_le _) fr.ext0.abv).loadN (d := 0) ag36 sz36 rfl rfl)) rfl ?_
      obtain ⟨⟨t31_d, t31_sv, t31_fa, t31_ho, t31_at_, t31_pa⟩, e31, hp⟩ := bindS hp
      obtain ⟨b31, o31, cs31, i31, rfl, p31⟩ := g_x2.at e31 u23 sz36
      refine WD.hd (v := .pointer (some ⟨b31, o31, none⟩)) rfl rfl rfl rfl (fun _ _ _ _ _ => side_no) (fun ids H' fr => opD_indexAddr rfl (evV_eq _ _ _ _ _ rfl) (evV_eq _ _ _ _ _ rfl) (i31 _)) rfl ?_
      refine WD.hd (v := .agg ⟨[.int .i64 t31_d, .bool t31_sv, .bool t31_fa, .bool t31_ho, .int .i64 t31_at_, .int .i64 t31_pa]⟩) rfl rfl rfl rfl (fun _ _ _ _ _ => side_no) (fun ids H' fr => opD_load rfl (evV_eq _ _ _ _ _ rfl) ((p31.mono (Nat.zero_le _) fr.ext0.abv).loadN (d := 0) ag36 sz36 rfl rfl)) rfl ?_
      obtain ⟨⟨t33_0, t33_1⟩, e33, hp⟩ := bindS hp
      refine WD.cl (R := R_4_27 ⟨t33_0, t33_1⟩) (fun hm h k => R_4_27.mono hm h k) rfl (fun ids H' fr => f19_ok (x2 := (Shown.mk t28_d t28_sv t28_fa t28_ho t28_at_ t28_pa)) (x3 := (Shown.mk t31_d t31_sv t31_fa t31_ho t31_at_ t31_pa)) (g_x0.mono (Nat.zero_le _) fr.ext0.abv) e33) ?_
      rintro v B3 abB3 rfl
      refine ⟨_, rfl, ?_⟩
      refine WD.done rfl ?_
      refine WJ.dr 201 rfl gmix (by kernel_rfl) (by kernel_rfl) rfl ?_
      obtain ⟨⟨t40_d, t40_sv, t40_fa, t40_ho, t40_at_, t40_pa⟩, e40, hp⟩ := bindS hp
      obtain ⟨b40, o40, cs40, i40, rfl, p40⟩ := g_x2.at e40 u23 sz36
      refine WD.hd (v := .pointer (some ⟨b40, o40, none⟩)) rfl rfl rfl rfl (fun _ _ _ _ _ => side_no) (fun ids H' fr => opD_indexAddr rfl (evV_eq _ _ _ _ _ rfl) (evV_eq _ _ _ _ _ rfl) (i40 _)) rfl ?_
      refine WD.hd (v := .agg ⟨[.int .i64 t40_d, .bool t40_sv, .bool t40_fa, .bool t40_ho, .int .i64 t40_at_, .int .i64 t40_pa]⟩) rfl rfl rfl rfl (fun _ _ _ _ _ => side_no) (fun ids H' fr => opD_load rfl (evV_eq _ _ _ _ _ rfl) ((p40.mono (Nat.zero_le _) fr.ext0.abv).loadN (d := 0) ag36 sz36 rfl rfl)) rfl ?_
      obtain ⟨⟨t43_d, t43_sv, t43_fa, t43_ho, t43_at_, t43_pa⟩, e43, hp⟩ := bindS hp
      obtain ⟨b43, o43, cs43, i43, rfl, p43⟩ := g_x2.at e43 u23 sz36
      refine WD.hd (v := .pointer (some ⟨b43, o43, none⟩)) rfl rfl rfl rfl (fun _ _ _ _ _ => side_no) (fun ids H' fr => opD_indexAddr rfl (evV_eq _ _ _ _ _ rfl) (evV_eq _ _ _ _ _ rfl) (i43 _)) rfl ?_
      refine WD.hd (v := .agg ⟨[.int .i64 t43_d, .bool t43_sv, .bool t43_fa, .bool t43_ho, .int .i64 t43_at_, .int .i64 t43_pa]⟩) rfl rfl rfl rfl (fun _ _ _ _ _ => side_no) (fun ids H' fr => opD_load rfl (evV_eq _ _ _ _ _ rfl) ((p43.mono (Nat.zero_le _) fr.ext0.abv).loadN (d := 0) ag36 sz36 rfl rfl)) rfl ?_
      obtain ⟨⟨t45_0, t45_1⟩, e45, hp⟩ := bindS hp
      refine WD.cl (R := R_4_27 ⟨t45_0, t45_1⟩) (fun hm h k => R_4_27.mono hm h k) rfl (fun ids H' fr => f20_ok (x2 := (Shown.mk t40_d t40_sv t40_fa t40_ho t40_at_ t40_pa)) (x3 := (Shown.mk t43_d t43_sv t43_fa t43_ho t43_at_ t43_pa)) (g_x0.mono (Nat.zero_le _) fr.ext0.abv) e45) ?_
      rintro v B4 abB4 rfl
      refine ⟨_, rfl, ?_⟩
      refine WD.done rfl ?_
      refine WJ.drF 201 rfl gmix (by kernel_rfl) (by kernel_rfl) rfl (fun D5 eD5 abD5 => ?_)
      obtain ⟨t50, e50, hp⟩ := bindS hp
      refine WD.cv (b := t50) (H0 := ⟨.nil, 0, 0⟩) rfl rfl rfl rfl rfl rfl (by rw [← endS e50]; exact rfl) rfl ?_
      cases t50
      · replace hp := (itS hp).2 Bool.false_ne_true
        refine WD.done rfl ?_
        obtain rfl := endS (show some _ = some r from hp)
        exact WJ.rt 200 rfl rfl rfl (fun ids H' fr => ⟨fr.ext0, rfl⟩)
      · replace hp := (itS hp).1 rfl
        refine WD.ci hp rfl rfl rfl rfl rfl rfl rfl rfl rfl (fun hc54 hp => ?_) (fun hc54 hp => ?_)
        · obtain ⟨t59, e59, hp⟩ := bindS hp
          refine WD.cl (R := R_22 t59) (fun hm h k => R_22.mono hm h k) rfl (fun ids H' fr => f21_ok (x0 := (Sight.mk x3_floor x3_panel x3_out)) (x1 := (Sight.mk x4_floor x4_panel x4_out)) e59) ?_
          rintro v B6 abB6 ⟨a_t59, c_t59, rfl, g_t59⟩
          refine ⟨_, rfl, ?_⟩
          obtain ⟨t62, e62, hp⟩ := bindS hp
          refine WD.cl (R := R_22 t62) (fun hm h k => R_22.mono hm h k) rfl (fun ids H' fr => f22_ok (x0 := (Sight.mk x3_floor x3_panel x3_out)) (x1 := (Sight.mk x4_floor x4_panel x4_out)) e62) ?_
          rintro v B7 abB7 ⟨a_t62, c_t62, rfl, g_t62⟩
          refine ⟨_, rfl, ?_⟩
          replace g_t59 := g_t59.mono (Nat.le_refl _) (abB7.le (Nat.zero_le _))
          obtain ⟨t63, e63, hp⟩ := bindS hp
          refine WD.cl (R := R_4 t63) (fun hm h k => R_4.mono hm h k) rfl (fun ids H' fr => f16_ok (g_t59.mono (Nat.zero_le _) (fr.abv.le (Nat.zero_le _))) (g_t62.mono (Nat.zero_le _) (fr.abv.le (Nat.zero_le _))) e63) ?_
          rintro v B8 abB8 rfl
          refine ⟨_, rfl, ?_⟩
          replace g_t59 := g_t59.mono (Nat.le_refl _) (abB8.le (Nat.zero_le _))
          replace g_t62 := g_t62.mono (Nat.le_refl _) (abB8.le (Nat.zero_le _))
          cases t63
          · replace hp := (itS hp).2 Bool.false_ne_true
            refine WD.done rfl ?_
            obtain rfl := endS (show some _ = some r from hp)
            exact WJ.rt 200 rfl rfl rfl (fun ids H' fr => ⟨fr.ext0, rfl⟩)
          · replace hp := (itS hp).1 rfl
            obtain ⟨t66, e66, hp⟩ := bindS hp
            refine WD.cl (R := R_4 t66) (fun hm h k => R_4.mono hm h k) rfl (fun ids H' fr => f7_ok e66) ?_
            rintro v B9 abB9 rfl
            refine ⟨_, rfl, ?_⟩
            replace g_t59 := g_t59.mono (Nat.le_refl _) (abB9.le (Nat.zero_le _))
            replace g_t62 := g_t62.mono (Nat.le_refl _) (abB9.le (Nat.zero_le _))
            refine WD.done rfl ?_
            obtain rfl := endS (show some _ = some r from hp)
            exact WJ.rt 200 rfl rfl rfl (fun ids H' fr => ⟨fr.ext0, rfl⟩)
        · refine WD.done rfl ?_
          obtain rfl := endS (show some _ = some r from hp)
          exact WJ.rt 200 rfl rfl rfl (fun ids H' fr => ⟨fr.ext0, rfl⟩)
/-! 6 tipstaff/tipstafflaw32.ScrubDiffers -/
def f6 (k : Nat) (x0 : List Int) (x1 : Int) (x2 : Int) (x3 : Int) : Option Bool :=
  (f17 k x0 x1).bind fun t25 =>
  (f17 k x0 x2).bind fun t31 =>
  (f18 x3 3).bind fun t35 =>
  (f12 k t25.1 (IntKind.i64.wrap (1 + t35)) (Shown.mk t25.2.d t25.2.sv t25.2.fa t25.2.ho t25.2.at_ t25.2.pa)).bind fun t41 =>
  (f12 k t25.1 (IntKind.i64.wrap (1 + t35)) (Shown.mk t31.2.d t31.2.sv t31.2.fa t31.2.ho t31.2.at_ t31.2.pa)).bind fun t48 =>
  (f19 k t25.1 (IntKind.i64.wrap (1 + t35)) (Shown.mk t25.2.d t25.2.sv t25.2.fa t25.2.ho t25.2.at_ t25.2.pa) (Shown.mk t31.2.d t31.2.sv t31.2.fa t31.2.ho t31.2.at_ t31.2.pa)).bind fun t56 =>
  (f21 (Sight.mk t41.1.floor t41.1.panel t41.1.out) (Sight.mk t48.1.floor t48.1.panel t48.1.out)).bind fun t61 =>
  (f21 (Sight.mk t48.1.floor t48.1.panel t48.1.out) (Sight.mk t41.1.floor t41.1.panel t41.1.out)).bind fun t64 =>
  if t41.2 = 0 then
    if t48.2 = 0 then
      if t56.2 = 0 then
        (some (decide ((Sight.mk t41.1.floor t41.1.panel t41.1.out) = (Sight.mk t48.1.floor t48.1.panel t48.1.out)))).bind fun t79 =>
        (some (t56.1 == t79)).bind fun t80 =>
        if t80 then
          (some ((t61.length : Int) == 0)).bind fun t85 =>
          (some (decide ((Sight.mk t41.1.floor t41.1.panel t41.1.out) = (Sight.mk t48.1.floor t48.1.panel t48.1.out)))).bind fun t88 =>
          (some (t85 == t88)).bind fun t89 =>
          if t89 then
            (f16 k t61 t64).bind fun t94 =>
            if t94 then
              (f7).bind fun t97 =>
              some t97
            else
              some false
          else
            some false
        else
          some false
      else
        some false
    else
      some false
  else
    some false
set_option maxRecDepth 20000 in
theorem f6_ok {k : Nat} {H : Hp} {a_x0 : Option Addr} {c_x0 : Nat} {x0 : List Int} {x1 : Int} {x2 : Int} {x3 : Int} {r : Bool} (g_x0 : SlF 0 H intC a_x0 c_x0 x0) (hp : f6 k x0 x1 x2 x3 = some r) :
    SCall Try.prog 6 [.slice a_x0 x0.length c_x0, .int .i64 x1, .int .i64 x2, .int .i64 x3] H (Ret fun v H' => Ext H H' ∧ R_4 r H.next H' v) := by
  unfold f6 at hp
  replace hp := topS hp
  refine SCall.g Try.func6 rfl rfl rfl rfl rfl (l := [(0, .v (.slice a_x0 x0.length c_x0)), (1, .v (.int .i64 x1)), (2, .v (.int .i64 x2)), (3, .v (.int .i64 x3))]) (fun _ => rfl) (fun B abB => ?_)
  obtain ⟨⟨t25_0, ⟨t25_1_d, t25_1_sv, t25_1_fa, t25_1_ho, t25_1_at_, t25_1_pa⟩⟩, e25, hp⟩ := bindS hp
  refine WJ.cl 208 (R := R_22_36 ⟨t25_0, ⟨t25_1_d, t25_1_sv, t25_1_fa, t25_1_ho, t25_1_at_, t25_1_pa⟩⟩) (fun hm h k => R_22_36.mono hm h k) rfl (fun ids H' fr => f17_ok (g_x0.mono (Nat.zero_le _) fr.ext0.abv) e25) ?_
  rintro v B1 abB1 ⟨a_t25_0, c_t25_0, rfl, g_t25_0⟩
  refine ⟨_, rfl, ?_⟩
  obtain ⟨⟨t31_0, ⟨t31_1_d, t31_1_sv, t31_1_fa, t31_1_ho, t31_1_at_, t31_1_pa⟩⟩, e31, hp⟩ := bindS hp
  refine WJ.cl 211 (R := R_22_36 ⟨t31_0, ⟨t31_1_d, t31_1_sv, t31_1_fa, t31_1_ho, t31_1_at_, t31_1_pa⟩⟩) (fun hm h k => R_22_36.mono hm h k) rfl (fun ids H' fr => f17_ok (g_x0.mono (Nat.zero_le _) fr.ext0.abv) e31) ?_
  rintro v B2 abB2 ⟨a_t31_0, c_t31_0, rfl, g_t31_0⟩
  refine ⟨_, rfl, ?_⟩
  replace g_t25_0 := g_t25_0.mono (Nat.le_refl _) (abB2.le (Nat.zero_le _))
  obtain ⟨t35, e35, hp⟩ := bindS hp
  refine WJ.cl 210 (R := R_3 t35) (fun hm h k => R_3.mono hm h k) rfl (fun ids H' fr => f18_ok e35) ?_
  rintro v B3 abB3 rfl
  refine ⟨_, rfl, ?_⟩
  replace g_t25_0 := g_t25_0.mono (Nat.le_refl _) (abB3.le (Nat.zero_le _))
  replace g_t31_0 := g_t31_0.mono (Nat.le_refl _) (abB3.le (Nat.zero_le _))
  obtain ⟨⟨⟨t41_0_floor, t41_0_panel, t41_0_out⟩, t41_1⟩, e41, hp⟩ := bindS hp
  refine WJ.cl 208 (R := R_32_27 ⟨⟨t41_0_floor, t41_0_panel, t41_0_out⟩, t41_1⟩) (fun hm h k => R_32_27.mono hm h k) rfl (fun ids H' fr => f12_ok (x2 := (Shown.mk t25_1_d t25_1_sv t25_1_fa t25_1_ho t25_1_at_ t25_1_pa)) (g_t25_0.mono (Nat.zero_le _) (fr.abv.le (Nat.zero_le _))) e41) ?_
  rintro v B4 abB4 rfl
  refine ⟨_, rfl, ?_⟩
  replace g_t25_0 := g_t25_0.mono (Nat.le_refl _) (abB4.le (Nat.zero_le _))
  replace g_t31_0 := g_t31_0.mono (Nat.le_refl _) (abB4.le (Nat.zero_le _))
  obtain ⟨⟨⟨t48_0_floor, t48_0_panel, t48_0_out⟩, t48_1⟩, e48, hp⟩ := bindS hp
  refine WJ.cl 212 (R := R_32_27 ⟨⟨t48_0_floor, t48_0_panel, t48_0_out⟩, t48_1⟩) (fun hm h k => R_32_27.mono hm h k) rfl (fun ids H' fr => f12_ok (x2 := (Shown.mk t31_1_d t31_1_sv t31_1_fa t31_1_ho t31_1_at_ t31_1_pa)) (g_t25_0.mono (Nat.zero_le _) (fr.abv.le (Nat.zero_le _))) e48) ?_
  rintro v B5 abB5 rfl
  refine ⟨_, rfl, ?_⟩
  replace g_t25_0 := g_t25_0.mono (Nat.le_refl _) (abB5.le (Nat.zero_le _))
  replace g_t31_0 := g_t31_0.mono (Nat.le_refl _) (abB5.le (Nat.zero_le _))
  obtain ⟨⟨t56_0, t56_1⟩, e56, hp⟩ := bindS hp
  refine WJ.cl 213 (R := R_4_27 ⟨t56_0, t56_1⟩) (fun hm h k => R_4_27.mono hm h k) rfl (fun ids H' fr => f19_ok (x2 := (Shown.mk t25_1_d t25_1_sv t25_1_fa t25_1_ho t25_1_at_ t25_1_pa)) (x3 := (Shown.mk t31_1_d t31_1_sv t31_1_fa t31_1_ho t31_1_at_ t31_1_pa)) (g_t25_0.mono (Nat.zero_le _) (fr.abv.le (Nat.zero_le _))) e56) ?_
  rintro v B6 abB6 rfl
  refine ⟨_, rfl, ?_⟩
  replace g_t25_0 := g_t25_0.mono (Nat.le_refl _) (abB6.le (Nat.zero_le _))
  replace g_t31_0 := g_t31_0.mono (Nat.le_refl _) (abB6.le (Nat.zero_le _))
  refine WJ.drF 207 rfl gmix (by kernel_rfl) (by kernel_rfl) rfl (fun D7 eD7 abD7 => ?_)
  have o_g_t25_0 := g_t25_0
  have o_g_t31_0 := g_t31_0
  obtain ⟨t61, e61, hp⟩ := bindS hp
  refine WD.cl (R := R_22 t61) (fun hm h k => R_22.mono hm h k) rfl (fun ids H' fr => f21_ok (x0 := (Sight.mk t41_0_floor t41_0_panel t41_0_out)) (x1 := (Sight.mk t48_0_floor t48_0_panel t48_0_out)) e61) ?_
  rintro v B8 abB8 ⟨a_t61, c_t61, rfl, g_t61⟩
  refine ⟨_, rfl, ?_⟩
  replace g_t25_0 := g_t25_0.mono (Nat.le_refl _) (abB8.le (Nat.zero_le _))
  replace g_t31_0 := g_t31_0.mono (Nat.le_refl _) (abB8.le (Nat.zero_le _))
  obtain ⟨t64, e64, hp⟩ := bindS hp
  refine WD.cl (R := R_22 t64) (fun hm h k => R_22.mono hm h k) rfl (fun ids H' fr => f21_ok (x0 := (Sight.mk t48_0_floor t48_0_panel t48_0_out)) (x1 := (Sight.mk t41_0_floor t41_0_panel t41_0_out)) e64) ?_
  rintro v B9 abB9 ⟨a_t64, c_t64, rfl, g_t64⟩
  refine ⟨_, rfl, ?_⟩
  replace g_t25_0 := g_t25_0.mono (Nat.le_refl _) (abB9.le (Nat.zero_le _))
  replace g_t31_0 := g_t31_0.mono (Nat.le_refl _) (abB9.le (Nat.zero_le _))
  replace g_t61 := g_t61.mono (Nat.le_refl _) (abB9.le (Nat.zero_le _))
  refine WD.done rfl ?_
  refine WJ.ci 203 hp rfl rfl rfl rfl rfl rfl rfl rfl rfl (fun hc66 hp => ?_) (fun hc66 hp => ?_)
  · refine WJ.ci 202 hp rfl rfl rfl rfl rfl rfl rfl rfl rfl (fun hc69 hp => ?_) (fun hc69 hp => ?_)
    · refine WJ.ci 203 hp rfl rfl rfl rfl rfl rfl rfl rfl rfl (fun hc73 hp => ?_) (fun hc73 hp => ?_)
      · obtain ⟨t79, e79, hp⟩ := bindS hp
        refine WJ.cv 205 (b := t79) (H0 := ⟨.nil, 0, 0⟩) rfl rfl rfl rfl rfl rfl (by rw [← endS e79]; exact (opD_eqS rfl rfl rfl rfl gd32 (eq32 t41_0_floor t41_0_panel t41_0_out t48_0_floor t48_0_panel t48_0_out))) rfl ?_
        obtain ⟨t80, e80, hp⟩ := bindS hp
        refine WJ.cv 200 (b := t80) (H0 := ⟨.nil, 0, 0⟩) rfl rfl rfl rfl rfl rfl (by rw [← endS e80]; exact rfl) rfl ?_
        cases t80
        · replace hp := (itS hp).2 Bool.false_ne_true
          obtain rfl := endS (show some _ = some r from hp)
          exact WJ.rt 220 rfl rfl rfl (fun ids H' fr => ⟨fr.ext0, rfl⟩)
        · replace hp := (itS hp).1 rfl
          obtain ⟨t85, e85, hp⟩ := bindS hp
          refine WJ.cv 204 (b := t85) (H0 := ⟨.nil, 0, 0⟩) rfl rfl rfl rfl rfl rfl (by rw [← endS e85]; exact rfl) rfl ?_
          obtain ⟨t88, e88, hp⟩ := bindS hp
          refine WJ.cv 202 (b := t88) (H0 := ⟨.nil, 0, 0⟩) rfl rfl rfl rfl rfl rfl (by rw [← endS e88]; exact (opD_eqS rfl rfl rfl rfl gd32 (eq32 t41_0_floor t41_0_panel t41_0_out t48_0_floor t48_0_panel t48_0_out))) rfl ?_
          obtain ⟨t89, e89, hp⟩ := bindS hp
          refine WJ.cv 200 (b := t89) (H0 := ⟨.nil, 0, 0⟩) rfl rfl rfl rfl rfl rfl (by rw [← endS e89]; exact rfl) rfl ?_
          cases t89
          · replace hp := (itS hp).2 Bool.false_ne_true
            obtain rfl := endS (show some _ = some r from hp)
            exact WJ.rt 211 rfl rfl rfl (fun ids H' fr => ⟨fr.ext0, rfl⟩)
          · replace hp := (itS hp).1 rfl
            obtain ⟨t94, e94, hp⟩ := bindS hp
            refine WJ.cl 204 (R := R_4 t94) (fun hm h k => R_4.mono hm h k) rfl (fun ids H' fr => f16_ok (g_t61.mono (Nat.zero_le _) (fr.abv.le (Nat.zero_le _))) (g_t64.mono (Nat.zero_le _) (fr.abv.le (Nat.zero_le _))) e94) ?_
            rintro v B10 abB10 rfl
            refine ⟨_, rfl, ?_⟩
            replace g_t25_0 := g_t25_0.mono (Nat.le_refl _) (abB10.le (Nat.zero_le _))
            replace g_t31_0 := g_t31_0.mono (Nat.le_refl _) (abB10.le (Nat.zero_le _))
            replace g_t61 := g_t61.mono (Nat.le_refl _) (abB10.le (Nat.zero_le _))
            replace g_t64 := g_t64.mono (Nat.le_refl _) (abB10.le (Nat.zero_le _))
            cases t94
            · replace hp := (itS hp).2 Bool.false_ne_true
              obtain rfl := endS (show some _ = some r from hp)
              exact WJ.rt 206 rfl rfl rfl (fun ids H' fr => ⟨fr.ext0, rfl⟩)
            · replace hp := (itS hp).1 rfl
              obtain ⟨t97, e97, hp⟩ := bindS hp
              refine WJ.cl 202 (R := R_4 t97) (fun hm h k => R_4.mono hm h k) rfl (fun ids H' fr => f7_ok e97) ?_
              rintro v B11 abB11 rfl
              refine ⟨_, rfl, ?_⟩
              replace g_t25_0 := g_t25_0.mono (Nat.le_refl _) (abB11.le (Nat.zero_le _))
              replace g_t31_0 := g_t31_0.mono (Nat.le_refl _) (abB11.le (Nat.zero_le _))
              replace g_t61 := g_t61.mono (Nat.le_refl _) (abB11.le (Nat.zero_le _))
              replace g_t64 := g_t64.mono (Nat.le_refl _) (abB11.le (Nat.zero_le _))
              obtain rfl := endS (show some _ = some r from hp)
              exact WJ.rt 203 rfl rfl rfl (fun ids H' fr => ⟨fr.ext0, rfl⟩)
      · obtain rfl := endS (show some _ = some r from hp)
        exact WJ.rt 227 rfl rfl rfl (fun ids H' fr => ⟨fr.ext0, rfl⟩)
    · obtain rfl := endS (show some _ = some r from hp)
      exact WJ.rt 231 rfl rfl rfl (fun ids H' fr => ⟨fr.ext0, rfl⟩)
  · obtain rfl := endS (show some _ = some r from hp)
    exact WJ.rt 234 rfl rfl rfl (fun ids H' fr => ⟨fr.ext0, rfl⟩)
end
end Go.Proofs.Ytenddpplfdgcfaa
