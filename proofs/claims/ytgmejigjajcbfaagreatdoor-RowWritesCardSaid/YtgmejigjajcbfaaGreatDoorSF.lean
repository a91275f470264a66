import Derived.Test.YtgmejigjajcbfaaGreatDoorSM
import Derived.Test.YtgmejigjajcbfaaGreatDoorST
import Derived.Test.YtgmejigjajcbfaaGreatDoorD51
set_option linter.unusedVariables false
set_option linter.unusedSimpArgs false
namespace Go.Proofs.YtgmejigjajcbfaaGreatDoor
open Go Go.Det Go.RowKit
noncomputable section
/-! 42 tipstaff/row.letter -/
def f42 (x0 : Int) : Option Bool :=
  if x0 ≥ 97 then
    if x0 ≤ 122 then
      some true
    else
      if x0 ≥ 65 then
        (some (decide (x0 ≤ 90))).bind fun t14 =>
        some t14
      else
        some false
  else
    if x0 ≥ 65 then
      (some (decide (x0 ≤ 90))).bind fun t14 =>
      some t14
    else
      some false
set_option maxRecDepth 20000 in
theorem f42_ok {H : Hp} {x0 : Int} {r : Bool} (hp : f42 x0 = some r) :
    SCall Tryz.prog 42 [.int .i32 x0] H (Ret fun v H' => Ext H H' ∧ R_4 r H.next H' v) := by
  unfold f42 at hp
  replace hp := topS hp
  refine SCall.g Tryz.func42 rfl rfl rfl rfl rfl (l := [(0, .v (.int .i32 x0))]) (fun _ => rfl) (fun B abB => ?_)
  refine WJ.ci 207 hp rfl rfl rfl rfl rfl rfl rfl rfl rfl (fun hc4 hp => ?_) (fun hc4 hp => ?_)
  · refine WJ.ci 202 hp rfl rfl rfl rfl rfl rfl rfl rfl rfl (fun hc7 hp => ?_) (fun hc7 hp => ?_)
    · obtain rfl := endS (show some _ = some r from hp)
      exact WJ.rt 211 rfl rfl rfl (fun ids H' fr => ⟨fr.ext0, rfl⟩)
    · refine WJ.ci 203 hp rfl rfl rfl rfl rfl rfl rfl rfl rfl (fun hc11 hp => ?_) (fun hc11 hp => ?_)
      · obtain ⟨t14, e14, hp⟩ := bindS hp
        refine WJ.cv 202 (b := t14) (H0 := ⟨.nil, 0, 0⟩) rfl rfl rfl rfl rfl rfl (by rw [← endS e14]; exact rfl) rfl ?_
        obtain rfl := endS (show some _ = some r from hp)
        exact WJ.rt 204 rfl rfl rfl (fun ids H' fr => ⟨fr.ext0, rfl⟩)
      · obtain rfl := endS (show some _ = some r from hp)
        exact WJ.rt 207 rfl rfl rfl (fun ids H' fr => ⟨fr.ext0, rfl⟩)
  · refine WJ.ci 206 hp rfl rfl rfl rfl rfl rfl rfl rfl rfl (fun hc11 hp => ?_) (fun hc11 hp => ?_)
    · obtain ⟨t14, e14, hp⟩ := bindS hp
      refine WJ.cv 202 (b := t14) (H0 := ⟨.nil, 0, 0⟩) rfl rfl rfl rfl rfl rfl (by rw [← endS e14]; exact rfl) rfl ?_
      obtain rfl := endS (show some _ = some r from hp)
      exact WJ.rt 204 rfl rfl rfl (fun ids H' fr => ⟨fr.ext0, rfl⟩)
    · obtain rfl := endS (show some _ = some r from hp)
      exact WJ.rt 207 rfl rfl rfl (fun ids H' fr => ⟨fr.ext0, rfl⟩)
/-! 16 tipstaff/row.Name -/
def f16_l1 (x0 : List UInt8) : Nat → Nat → Option ((Bool) ⊕ (Unit))
  | 0, _ => none
  | n + 1, p0 =>
    if p0 < x0.length then
      (f42 (decL x0 p0)).bind fun t12 =>
      if t12 then
        f16_l1 x0 n (p0 + decN x0 p0)
      else
        if ((p0 : Nat) : Int) = 0 then
          some (Sum.inl (false : Bool))
        else
          if (decL x0 p0) = 45 then
            f16_l1 x0 n (p0 + decN x0 p0)
          else
            if (decL x0 p0) < 48 then
              some (Sum.inl (false : Bool))
            else
              if (decL x0 p0) > 57 then
                some (Sum.inl (false : Bool))
              else
                f16_l1 x0 n (p0 + decN x0 p0)
    else
      some (Sum.inr ())

def f16 (k : Nat) (x0 : List UInt8) : Option Bool :=
  (f16_l1 x0 k 0).bind fun s => match s with
    | .inl st => some st
    | .inr _ => 
      if x0 = ([] : List UInt8) then
        some false
      else
        (some (decide ((x0.length : Int) ≤ 16))).bind fun t35 =>
        some t35
set_option maxRecDepth 20000 in
theorem f16_ok {k : Nat} {H : Hp} {x0 : List UInt8} {r : Bool} (hp : f16 k x0 = some r) :
    SCall Tryz.prog 16 [.string (bs x0)] H (Ret fun v H' => Ext H H' ∧ R_4 r H.next H' v) := by
  unfold f16 at hp
  replace hp := topS hp
  refine SCall.g Tryz.func16 rfl rfl rfl rfl rfl (l := [(0, .v (.string (bs x0)))]) (fun _ => rfl) (fun B abB => ?_)
  refine WJ.rg 208 rfl rfl rfl rfl rfl us9 rfl ?_
  rintro b6 B1 ⟨abB1, ivB1⟩ h06 it6
  refine ⟨_, rfl, ?_⟩
  refine WJ.adv 2 rfl ?_
  obtain ⟨K1, hK1, hp⟩ : ∃ K, K = _ ∧ Option.bind _ K = some r := ⟨_, rfl, cutS hp⟩
  refine WJ.cut 2 (α := Hp) (fun y => [(0, .v (.string (bs x0)))]) (fun y => []) (fun y => []) (fun y => y) (fun y => K1 (Sum.inr ()) = some r) ?_ (fun j1 => ?_)
  · rintro B5 hp
    subst hK1
    show WJ _ _ _ B5 [] _ _ ⟨[(0, .v (.string (bs x0)))], [], true, 0⟩
    refine WJ.cn 203 hp rfl rfl rfl rfl rfl rfl (opD_strne rfl rfl rfl) rfl rfl (fun hc31 hp => ?_) (fun hc31 hp => ?_)
    · obtain ⟨t35, e35, hp⟩ := bindS hp
      refine WJ.cv 203 (b := t35) (H0 := ⟨.nil, 0, 0⟩) rfl rfl rfl rfl rfl rfl (by rw [← endS e35]; exact rfl) rfl ?_
      obtain rfl := endS (show some _ = some r from hp)
      exact WJ.rt 203 rfl rfl rfl (fun ids H' fr => ⟨fr.ext0, rfl⟩)
    · obtain rfl := endS (show some _ = some r from hp)
      exact WJ.rt 207 rfl rfl rfl (fun ids H' fr => ⟨fr.ext0, rfl⟩)
  · refine WJ.lp 200 (α := Nat × Nat × Hp) (fun y => [(0, .v (.string (bs x0))), (6, .v (.pointer (some ⟨b6, 0, none⟩)))]) (fun y => []) (fun y => []) (fun y => y.2.2) (fun y => y.1) (fun y => Option.bind (f16_l1 x0 y.1 y.2.1) K1 = some r ∧ y.2.2.get b6 = some (.iter (bs x0) y.2.1)) (k, 0, B1) rfl ⟨hp, it6⟩ (by exact ⟨rfl, rfl, trivial⟩) rfl rfl rfl ?_
    rintro ⟨n, p0, B2⟩ ⟨hp, it6⟩ ih1
    show WJ _ _ _ B2 [] _ _ ⟨[(0, .v (.string (bs x0))), (6, .v (.pointer (some ⟨b6, 0, none⟩)))], [], true, 0⟩
    replace hp : Option.bind (f16_l1 x0 n p0) K1 = some r := hp
    cases n with
    | zero => rw [f16_l1] at hp; exact (noS hp).elim
    | succ n =>
      rw [f16_l1] at hp
      refine WJ.nx 202 hp rfl rfl rfl rfl rfl rfl it6 h06 rfl rfl (fun hp B3 abB3 neB3 it_new => ?_) (fun hp => ?_)
      · replace it6 := it_new
        obtain ⟨t12, e12, hp⟩ := bindS hp
        refine WJ.cl 216 (R := R_4 t12) (fun hm h k => R_4.mono hm h k) rfl (fun ids H' fr => f42_ok e12) ?_
        rintro v B4 ⟨abB4, ivB4⟩ rfl
        refine ⟨_, rfl, ?_⟩
        replace it6 := ivB4 _ _ it6
        cases t12
        · replace hp := (itS hp).2 Bool.false_ne_true
          refine WJ.ci 203 hp rfl rfl rfl rfl rfl rfl rfl rfl rfl (fun hc16 hp => ?_) (fun hc16 hp => ?_)
          · subst hK1
            obtain rfl := endS (show some _ = some r from hp)
            exact WJ.rt 219 rfl rfl rfl (fun ids H' fr => ⟨fr.ext0, rfl⟩)
          · refine WJ.cn 202 hp rfl rfl rfl rfl rfl rfl rfl rfl rfl (fun hc19 hp => ?_) (fun hc19 hp => ?_)
            · refine WJ.ci 202 hp rfl rfl rfl rfl rfl rfl rfl rfl rfl (fun hc22 hp => ?_) (fun hc22 hp => ?_)
              · subst hK1
                obtain rfl := endS (show some _ = some r from hp)
                exact WJ.rt 213 rfl rfl rfl (fun ids H' fr => ⟨fr.ext0, rfl⟩)
              · refine WJ.ci 202 hp rfl rfl rfl rfl rfl rfl rfl rfl rfl (fun hc25 hp => ?_) (fun hc25 hp => ?_)
                · subst hK1
                  obtain rfl := endS (show some _ = some r from hp)
                  exact WJ.rt 210 rfl rfl rfl (fun ids H' fr => ⟨fr.ext0, rfl⟩)
                · exact WJ.ag 208 rfl (by exact ⟨rfl, rfl, trivial⟩) rfl rfl rfl (ih1 (n, (p0 + decN x0 p0), B4) ⟨hp, it6⟩ (Nat.lt_succ_self _))
            · exact WJ.ag 214 rfl (by exact ⟨rfl, rfl, trivial⟩) rfl rfl rfl (ih1 (n, (p0 + decN x0 p0), B4) ⟨hp, it6⟩ (Nat.lt_succ_self _))
        · replace hp := (itS hp).1 rfl
          exact WJ.ag 221 rfl (by exact ⟨rfl, rfl, trivial⟩) rfl rfl rfl (ih1 (n, (p0 + decN x0 p0), B4) ⟨hp, it6⟩ (Nat.lt_succ_self _))
      · exact WJ.goto 5 (j1 B2 hp) rfl rfl (by exact ⟨rfl, trivial⟩) rfl rfl rfl
/-! 22 tipstaff/row.Sound -/
def f22 (k : Nat) (x0 : RowWord) : Option Int :=
  (if x0.Kind = 1 then
    (f16 k x0.Name).bind fun t10 =>
    if t10 then
      (some (x0.N == 0)).bind fun t14 =>
      some (Sum.inl t14)
    else
      some (Sum.inl false)
  else
    if x0.Kind = 2 then
      if x0.Name = ([] : List UInt8) then
        if x0.N ≥ (-1099511627776) then
          (some (decide (x0.N ≤ 1099511627776))).bind fun t29 =>
          some (Sum.inl t29)
        else
          some (Sum.inl false)
      else
        some (Sum.inl false)
    else
      if x0.Kind = 3 then
        (some (x0.N == 0)).bind fun t35 =>
        some (Sum.inl t35)
      else
        some (Sum.inr (11 : Int))).bind fun s => match s with
    | .inl x3_2 => 
      if x3_2 then
        some 0
      else
        some 3
    | .inr st => some st
set_option maxRecDepth 20000 in
theorem f22_ok {k : Nat} {H : Hp} {x0 : RowWord} {r : Int} (hp : f22 k x0 = some r) :
    SCall Tryz.prog 22 [.agg ⟨[.int .i64 x0.At, .int .i64 x0.Kind, .string (bs x0.Name), .int .i64 x0.N]⟩] H (Ret fun v H' => Ext H H' ∧ R_24 r H.next H' v) := by
  obtain ⟨x0_At, x0_Kind, x0_Name, x0_N⟩ := x0
  unfold f22 at hp
  replace hp := topS hp
  refine SCall.g Tryz.func22 rfl rfl rfl rfl rfl (l := [(0, .v (.agg ⟨[.int .i64 x0_At, .int .i64 x0_Kind, .string (bs x0_Name), .int .i64 x0_N]⟩))]) (fun _ => rfl) (fun B abB => ?_)
  refine WJ.adv 17 rfl ?_
  obtain ⟨K2, hK2, hp⟩ : ∃ K, K = _ ∧ Option.bind _ K = some r := ⟨_, rfl, cutS hp⟩
  refine WJ.cut 3 (α := Bool × Hp) (fun y => [(3, .v (.bool y.1))]) (fun y => [[.int .i64 x0_At, .int .i64 x0_Kind, .string (bs x0_Name), .int .i64 x0_N]]) (fun y => []) (fun y => y.2) (fun y => K2 ((Sum.inl y.1)) = some r) ?_ (fun j2 => ?_)
  · rintro ⟨x3_2, B2⟩ hp
    subst hK2
    show WJ _ _ _ B2 [] _ _ ⟨[(3, .v (.bool x3_2))], [[.int .i64 x0_At, .int .i64 x0_Kind, .string (bs x0_Name), .int .i64 x0_N]], true, 0⟩
    cases x3_2
    · replace hp := (itS hp).2 Bool.false_ne_true
      obtain rfl := endS (show some _ = some r from hp)
      exact WJ.rt 211 rfl rfl rfl (fun ids H' fr => ⟨fr.ext0, rfl⟩)
    · replace hp := (itS hp).1 rfl
      obtain rfl := endS (show some _ = some r from hp)
      exact WJ.rt 212 rfl rfl rfl (fun ids H' fr => ⟨fr.ext0, rfl⟩)
  · refine WJ.ci 201 hp rfl rfl rfl rfl rfl rfl rfl rfl rfl (fun hc7 hp => ?_) (fun hc7 hp => ?_)
    · obtain ⟨t10, e10, hp⟩ := bindS hp
      refine WJ.cl 206 (R := R_4 t10) (fun hm h k => R_4.mono hm h k) rfl (fun ids H' fr => f16_ok e10) ?_
      rintro v B1 ⟨abB1, ivB1⟩ rfl
      refine ⟨_, rfl, ?_⟩
      cases t10
      · replace hp := (itS hp).2 Bool.false_ne_true
        exact WJ.goto 8 (j2 (false, B1) hp) rfl rfl (by exact ⟨rfl, trivial⟩) rfl rfl rfl
      · replace hp := (itS hp).1 rfl
        obtain ⟨t14, e14, hp⟩ := bindS hp
        refine WJ.cv 203 (b := t14) (H0 := ⟨.nil, 0, 0⟩) rfl rfl rfl rfl rfl rfl (by rw [← endS e14]; exact rfl) rfl ?_
        exact WJ.goto 4 (j2 (t14, B1) hp) rfl rfl (by exact ⟨rfl, trivial⟩) rfl rfl rfl
    · refine WJ.ci 205 hp rfl rfl rfl rfl rfl rfl rfl rfl rfl (fun hc17 hp => ?_) (fun hc17 hp => ?_)
      · refine WJ.ci 206 hp rfl rfl rfl rfl rfl rfl (opD_streq rfl rfl rfl) rfl rfl (fun hc20 hp => ?_) (fun hc20 hp => ?_)
        · refine WJ.ci 203 hp rfl rfl rfl rfl rfl rfl rfl rfl rfl (fun hc24 hp => ?_) (fun hc24 hp => ?_)
          · obtain ⟨t29, e29, hp⟩ := bindS hp
            refine WJ.cv 204 (b := t29) (H0 := ⟨.nil, 0, 0⟩) rfl rfl rfl rfl rfl rfl (by rw [← endS e29]; exact rfl) rfl ?_
            exact WJ.goto 4 (j2 (t29, B) hp) rfl rfl (by exact ⟨rfl, trivial⟩) rfl rfl rfl
          · exact WJ.goto 9 (j2 (false, B) hp) rfl rfl (by exact ⟨rfl, trivial⟩) rfl rfl rfl
        · exact WJ.goto 13 (j2 (false, B) hp) rfl rfl (by exact ⟨rfl, trivial⟩) rfl rfl rfl
      · refine WJ.ci 205 hp rfl rfl rfl rfl rfl rfl rfl rfl rfl (fun hc32 hp => ?_) (fun hc32 hp => ?_)
        · obtain ⟨t35, e35, hp⟩ := bindS hp
          refine WJ.cv 206 (b := t35) (H0 := ⟨.nil, 0, 0⟩) rfl rfl rfl rfl rfl rfl (by rw [← endS e35]; exact rfl) rfl ?_
          exact WJ.goto 3 (j2 (t35, B) hp) rfl rfl (by exact ⟨rfl, trivial⟩) rfl rfl rfl
        · subst hK2
          obtain rfl := endS (show some _ = some r from hp)
          exact WJ.rt 207 rfl rfl rfl (fun ids H' fr => ⟨fr.ext0, rfl⟩)
/-! 34 unicode/utf8.RuneLen -/
def f34 (x0 : Int) : Option Int :=
  if x0 < 0 then
    some (-1)
  else
    if x0 ≤ 127 then
      some 1
    else
      if x0 ≤ 2047 then
        some 2
      else
        (if 55296 ≤ x0 then
          if x0 ≤ 57343 then
            some (Sum.inl ((-1) : Int))
          else
            if x0 ≤ 65535 then
              some (Sum.inl (3 : Int))
            else
              if x0 ≤ 1114111 then
                some (Sum.inl (4 : Int))
              else
                some (Sum.inr ())
        else
          if x0 ≤ 65535 then
            some (Sum.inl (3 : Int))
          else
            if x0 ≤ 1114111 then
              some (Sum.inl (4 : Int))
            else
              some (Sum.inr ())).bind fun s => match s with
          | .inl st => some st
          | .inr _ => 
            some (-1)
set_option maxRecDepth 20000 in
theorem f34_ok {H : Hp} {x0 : Int} {r : Int} (hp : f34 x0 = some r) :
    SCall Tryz.prog 34 [.int .i32 x0] H (Ret fun v H' => Ext H H' ∧ R_3 r H.next H' v) := by
  unfold f34 at hp
  replace hp := topS hp
  refine SCall.g Tryz.func34 rfl rfl rfl rfl rfl (l := [(0, .v (.int .i32 x0))]) (fun _ => rfl) (fun B abB => ?_)
  refine WJ.ci 209 hp rfl rfl rfl rfl rfl rfl rfl rfl rfl (fun hc5 hp => ?_) (fun hc5 hp => ?_)
  · obtain rfl := endS (show some _ = some r from hp)
    exact WJ.rt 207 rfl rfl rfl (fun ids H' fr => ⟨fr.ext0, rfl⟩)
  · refine WJ.ci 206 hp rfl rfl rfl rfl rfl rfl rfl rfl rfl (fun hc8 hp => ?_) (fun hc8 hp => ?_)
    · obtain rfl := endS (show some _ = some r from hp)
      exact WJ.rt 207 rfl rfl rfl (fun ids H' fr => ⟨fr.ext0, rfl⟩)
    · refine WJ.ci 206 hp rfl rfl rfl rfl rfl rfl rfl rfl rfl (fun hc11 hp => ?_) (fun hc11 hp => ?_)
      · obtain rfl := endS (show some _ = some r from hp)
        exact WJ.rt 207 rfl rfl rfl (fun ids H' fr => ⟨fr.ext0, rfl⟩)
      · refine WJ.adv 4 rfl ?_
        obtain ⟨K3, hK3, hp⟩ : ∃ K, K = _ ∧ Option.bind _ K = some r := ⟨_, rfl, cutS hp⟩
        refine WJ.cut 3 (α := Unit) (fun y => []) (fun y => []) (fun y => []) (fun y => B) (fun y => K3 ((Sum.inr ())) = some r) ?_ (fun j3 => ?_)
        · rintro u hp
          subst hK3
          show WJ _ _ _ B [] _ _ ⟨[], [], true, 0⟩
          obtain rfl := endS (show some _ = some r from hp)
          exact WJ.rt 204 rfl rfl rfl (fun ids H' fr => ⟨fr.ext0, rfl⟩)
        · refine WJ.ci 202 hp rfl rfl rfl rfl rfl rfl rfl rfl rfl (fun hc14 hp => ?_) (fun hc14 hp => ?_)
          · refine WJ.ci 202 hp rfl rfl rfl rfl rfl rfl rfl rfl rfl (fun hc17 hp => ?_) (fun hc17 hp => ?_)
            · subst hK3
              obtain rfl := endS (show some _ = some r from hp)
              exact WJ.rt 208 rfl rfl rfl (fun ids H' fr => ⟨fr.ext0, rfl⟩)
            · refine WJ.ci 207 hp rfl rfl rfl rfl rfl rfl rfl rfl rfl (fun hc21 hp => ?_) (fun hc21 hp => ?_)
              · subst hK3
                obtain rfl := endS (show some _ = some r from hp)
                exact WJ.rt 207 rfl rfl rfl (fun ids H' fr => ⟨fr.ext0, rfl⟩)
              · refine WJ.ci 206 hp rfl rfl rfl rfl rfl rfl rfl rfl rfl (fun hc24 hp => ?_) (fun hc24 hp => ?_)
                · subst hK3
                  obtain rfl := endS (show some _ = some r from hp)
                  exact WJ.rt 207 rfl rfl rfl (fun ids H' fr => ⟨fr.ext0, rfl⟩)
                · exact WJ.goto 5 (j3 () hp) rfl rfl (by exact trivial) rfl rfl rfl
          · refine WJ.ci 210 hp rfl rfl rfl rfl rfl rfl rfl rfl rfl (fun hc21 hp => ?_) (fun hc21 hp => ?_)
            · subst hK3
              obtain rfl := endS (show some _ = some r from hp)
              exact WJ.rt 207 rfl rfl rfl (fun ids H' fr => ⟨fr.ext0, rfl⟩)
            · refine WJ.ci 206 hp rfl rfl rfl rfl rfl rfl rfl rfl rfl (fun hc24 hp => ?_) (fun hc24 hp => ?_)
              · subst hK3
                obtain rfl := endS (show some _ = some r from hp)
                exact WJ.rt 207 rfl rfl rfl (fun ids H' fr => ⟨fr.ext0, rfl⟩)
              · exact WJ.goto 5 (j3 () hp) rfl rfl (by exact trivial) rfl rfl rfl
/-! 37 tipstaff/row.plain -/
def f37 (x0 : Int) (x1 : Int) : Option Bool :=
  if x0 = 34 then
    some false
  else
    if x0 = 92 then
      some false
    else
      if x1 = 1 then
        if x0 ≥ 32 then
          (some (decide (x0 ≤ 126))).bind fun t19 =>
          some t19
        else
          some false
      else
        (some (decide (x0 ≥ 160))).bind fun t22 =>
        some t22
set_option maxRecDepth 20000 in
theorem f37_ok {H : Hp} {x0 : Int} {x1 : Int} {r : Bool} (hp : f37 x0 x1 = some r) :
    SCall Tryz.prog 37 [.int .i32 x0, .int .i64 x1] H (Ret fun v H' => Ext H H' ∧ R_4 r H.next H' v) := by
  unfold f37 at hp
  replace hp := topS hp
  refine SCall.g Tryz.func37 rfl rfl rfl rfl rfl (l := [(0, .v (.int .i32 x0)), (1, .v (.int .i64 x1))]) (fun _ => rfl) (fun B abB => ?_)
  refine WJ.ci 209 hp rfl rfl rfl rfl rfl rfl rfl rfl rfl (fun hc7 hp => ?_) (fun hc7 hp => ?_)
  · obtain rfl := endS (show some _ = some r from hp)
    exact WJ.rt 211 rfl rfl rfl (fun ids H' fr => ⟨fr.ext0, rfl⟩)
  · refine WJ.ci 202 hp rfl rfl rfl rfl rfl rfl rfl rfl rfl (fun hc10 hp => ?_) (fun hc10 hp => ?_)
    · obtain rfl := endS (show some _ = some r from hp)
      exact WJ.rt 208 rfl rfl rfl (fun ids H' fr => ⟨fr.ext0, rfl⟩)
    · refine WJ.ci 207 hp rfl rfl rfl rfl rfl rfl rfl rfl rfl (fun hc14 hp => ?_) (fun hc14 hp => ?_)
      · refine WJ.ci 206 hp rfl rfl rfl rfl rfl rfl rfl rfl rfl (fun hc16 hp => ?_) (fun hc16 hp => ?_)
        · obtain ⟨t19, e19, hp⟩ := bindS hp
          refine WJ.cv 202 (b := t19) (H0 := ⟨.nil, 0, 0⟩) rfl rfl rfl rfl rfl rfl (by rw [← endS e19]; exact rfl) rfl ?_
          obtain rfl := endS (show some _ = some r from hp)
          exact WJ.rt 203 rfl rfl rfl (fun ids H' fr => ⟨fr.ext0, rfl⟩)
        · obtain rfl := endS (show some _ = some r from hp)
          exact WJ.rt 206 rfl rfl rfl (fun ids H' fr => ⟨fr.ext0, rfl⟩)
      · obtain ⟨t22, e22, hp⟩ := bindS hp
        refine WJ.cv 208 (b := t22) (H0 := ⟨.nil, 0, 0⟩) rfl rfl rfl rfl rfl rfl (by rw [← endS e22]; exact rfl) rfl ?_
        obtain rfl := endS (show some _ = some r from hp)
        exact WJ.rt 202 rfl rfl rfl (fun ids H' fr => ⟨fr.ext0, rfl⟩)
/-! 14 tipstaff/row.Quote -/
def f14_l2 (l33 : List Int) : Nat → (List UInt8) → Int → Nat → Option ((List UInt8) × Nat)
  | 0, _, _, _ => none
  | n + 1, l1_h9, x35_h9, p0_h9 =>
    (some (decide (x35_h9 < (l33.length : Int)))).bind fun t36u1 =>
    if t36u1 then
      (rd l33 x35_h9).bind fun t37u1 =>
      (sub ([48, 49, 50, 51, 52, 53, 54, 55, 56, 57, 97, 98, 99, 100, 101, 102] : List UInt8) (gshr .u8 t37u1 4) (IntKind.u8.wrap ((gshr .u8 t37u1 4) + 1))).bind fun s44u1 =>
      (scat ([92, 120] : List UInt8) s44u1).bind fun s45u1 =>
      (sub ([48, 49, 50, 51, 52, 53, 54, 55, 56, 57, 97, 98, 99, 100, 101, 102] : List UInt8) (bits .and .u8 t37u1 15) (IntKind.u8.wrap ((bits .and .u8 t37u1 15) + 1))).bind fun s51u1 =>
      (scat s45u1 s51u1).bind fun s52u1 =>
      (apd 1 l1_h9 s52u1).bind fun lB53u1 =>
      f14_l2 l33 n lB53u1 (IntKind.i64.wrap (x35_h9 + 1)) p0_h9
    else
      some ((l1_h9, p0_h9))

def f14_l1 (k : Nat) (x0 : List UInt8) : Nat → (List UInt8) → Nat → Option ((List UInt8))
  | 0, _, _ => none
  | n + 1, l1_h6, p0_h6 =>
    if p0_h6 < x0.length then
      (f34 (decL x0 p0_h6)).bind fun t17u1 =>
      (if (decL x0 p0_h6) = 65533 then
        (sub x0 ((p0_h6 : Nat) : Int) (x0.length : Int)).bind fun s23u1 =>
        (f35 s23u1).bind fun (t24u1_0, t24u1_1) =>
        some ((t24u1_1, (p0_h6 + decN x0 p0_h6)))
      else
        some ((t17u1, (p0_h6 + decN x0 p0_h6)))).bind fun (x6_7, p0_7) =>
        if (decL x0 p0_h6) = 34 then
          (c8 92).bind fun uB62u1 =>
          (apd 1 l1_h6 ([uB62u1])).bind fun lB62u1 =>
          (c7 (decL x0 p0_h6)).bind fun uB64u1 =>
          (apd 1 lB62u1 ([uB64u1])).bind fun lB64u1 =>
          f14_l1 k x0 n lB64u1 p0_7
        else
          if (decL x0 p0_h6) = 92 then
            (c8 92).bind fun uB62u2 =>
            (apd 1 l1_h6 ([uB62u2])).bind fun lB62u2 =>
            (c7 (decL x0 p0_h6)).bind fun uB64u2 =>
            (apd 1 lB62u2 ([uB64u2])).bind fun lB64u2 =>
            f14_l1 k x0 n lB64u2 p0_7
          else
            (f37 (decL x0 p0_h6) x6_7).bind fun t68 =>
            if t68 then
              (sub x0 ((p0_h6 : Nat) : Int) (IntKind.i64.wrap (((p0_h6 : Nat) : Int) + x6_7))).bind fun s74 =>
              (apd 1 l1_h6 s74).bind fun lB75 =>
              f14_l1 k x0 n lB75 p0_7
            else
              (sub x0 ((p0_h6 : Nat) : Int) (IntKind.i64.wrap (((p0_h6 : Nat) : Int) + x6_7))).bind fun s32 =>
              (ne8 s32).bind fun l33 =>
              (f14_l2 l33 k l1_h6 0 p0_7).bind fun st =>
                f14_l1 k x0 n st.1 st.2
    else
      some (l1_h6)

def f14 (k : Nat) (x0 : List UInt8) : Option (List UInt8) :=
  (c8 34).bind fun uB9 =>
  (apd 1 ([] : List UInt8) ([uB9])).bind fun lB9 =>
  (f14_l1 k x0 k lB9 0).bind fun l1_6 =>
    (c8 34).bind fun uB76 =>
    (apd 1 l1_6 ([uB76])).bind fun lB76 =>
    (apd 1 lB76 ([] : List UInt8)).bind fun lB77 =>
    some lB76
set_option maxHeartbeats 3200000 in
set_option maxRecDepth 20000 in
theorem f14_ok {k : Nat} {H : Hp} {x0 : List UInt8} {r : List UInt8} (hp : f14 k x0 = some r) :
    SCall Tryz.prog 14 [.string (bs x0)] H (Ret fun v H' => Ext H H' ∧ R_9 r H.next H' v) := by
  unfold f14 at hp
  replace hp := topS hp
  refine SCall.g Tryz.func14 rfl rfl rfl rfl rfl (l := [(0, .v (.string (bs x0)))]) (fun _ => rfl) (fun B abB => ?_)
  refine WJ.nb (U := 5) 206 rfl rfl rfl rfl rfl bzero bis rfl rfl ?_
  intro bw3
  refine ⟨_, rfl, ?_⟩
  obtain ⟨uB9, euB9, hp⟩ := bindS hp
  obtain ⟨lB9, eB9, hp⟩ := bindS hp
  obtain ⟨bdB9, rfl⟩ := apd_some eB9
  refine WJ.bw 203 (s := [uB9]) 0 rfl (wb_ok euB9) (fun _ => rfl) rfl rfl rfl bdB9 ?_
  intro aB9
  refine ⟨_, rfl, ?_⟩
  refine WJ.rg 205 rfl rfl rfl rfl rfl us9 rfl ?_
  rintro b11 B1 ⟨abB1, ivB1⟩ h011 it11
  refine ⟨_, rfl, ?_⟩
  refine WJ.adv 2 rfl ?_
  obtain ⟨K6, hK6, hp⟩ : ∃ K, K = _ ∧ Option.bind _ K = some r := ⟨_, rfl, cutS hp⟩
  refine WJ.cut 2 (α := (List UInt8) × (Option Addr) × Nat × Hp) (fun y => [(3, .v (.pointer (some ⟨bw3, 0, none⟩)))]) (fun y => []) (fun y => [bldS 63 bw3 y.2.1 y.1, bldB 5 y.2.1 y.1]) (fun y => y.2.2.2) (fun y => K6 (y.1) = some r) ?_ (fun j6 => ?_)
  · rintro ⟨l1_6, a1_6, c1_6, B9⟩ hp
    subst hK6
    show WJ _ _ _ B9 [bldS 63 bw3 a1_6 l1_6, bldB 5 a1_6 l1_6] _ _ ⟨[(3, .v (.pointer (some ⟨bw3, 0, none⟩)))], [], true, 0⟩
    obtain ⟨uB76, euB76, hp⟩ := bindS hp
    obtain ⟨lB76, eB76, hp⟩ := bindS hp
    obtain ⟨bdB76, rfl⟩ := apd_some eB76
    refine WJ.bw 202 (s := [uB76]) 0 rfl (wb_ok euB76) (fun _ => rfl) rfl rfl rfl bdB76 ?_
    intro aB76
    refine ⟨_, rfl, ?_⟩
    obtain ⟨lB77, eB77, hp⟩ := bindS hp
    obtain ⟨bdB77, rfl⟩ := apd_some eB77
    refine WJ.bg 203 0 rfl st_ok (fun _ => rfl) rfl rfl rfl (by simpa using bdB77) ?_
    refine ⟨_, rfl, ?_⟩
    obtain rfl := endS (show some _ = some r from hp)
    exact WJ.rt 202 rfl rfl rfl (fun ids H' fr => ⟨fr.ext0, rfl⟩)
  · refine WJ.lp 200 (α := Nat × (List UInt8) × Nat × (Option Addr) × Nat × Hp) (fun y => [(0, .v (.string (bs x0))), (3, .v (.pointer (some ⟨bw3, 0, none⟩))), (11, .v (.pointer (some ⟨b11, 0, none⟩)))]) (fun y => []) (fun y => [bldS 63 bw3 y.2.2.2.1 y.2.1, bldB 5 y.2.2.2.1 y.2.1]) (fun y => y.2.2.2.2.2) (fun y => y.1) (fun y => Option.bind (f14_l1 k x0 y.1 y.2.1 y.2.2.1) K6 = some r ∧ y.2.2.2.2.2.get b11 = some (.iter (bs x0) y.2.2.1)) (k, (([] : List UInt8) ++ ([uB9])), 0, aB9, 0, B1) rfl ⟨hp, it11⟩ (by exact ⟨rfl, rfl, rfl, trivial⟩) rfl rfl rfl ?_
    rintro ⟨n, l1_h6, p0_h6, a1_h6, c1_h6, B2⟩ ⟨hp, it11⟩ ih6
    show WJ _ _ _ B2 [bldS 63 bw3 a1_h6 l1_h6, bldB 5 a1_h6 l1_h6] _ _ ⟨[(0, .v (.string (bs x0))), (3, .v (.pointer (some ⟨bw3, 0, none⟩))), (11, .v (.pointer (some ⟨b11, 0, none⟩)))], [], true, 0⟩
    replace hp : Option.bind (f14_l1 k x0 n l1_h6 p0_h6) K6 = some r := hp
    cases n with
    | zero => rw [f14_l1] at hp; exact (noS hp).elim
    | succ n =>
      rw [f14_l1] at hp
      refine WJ.nx 202 hp rfl rfl rfl rfl rfl rfl it11 h011 rfl rfl (fun hp B3 abB3 neB3 it_new => ?_) (fun hp => ?_)
      · replace it11 := it_new
        obtain ⟨t17u1, e17u1, hp⟩ := bindS hp
        refine WJ.cl 216 (R := R_3 t17u1) (fun hm h k => R_3.mono hm h k) rfl (fun ids H' fr => f34_ok e17u1) ?_
        rintro v B4 ⟨abB4, ivB4⟩ rfl
        refine ⟨_, rfl, ?_⟩
        replace it11 := ivB4 _ _ it11
        refine WJ.adv 4 rfl ?_
        obtain ⟨K7, hK7, hp⟩ : ∃ K, K = _ ∧ Option.bind _ K = some r := ⟨_, rfl, cutS hp⟩
        refine WJ.cut 2 (α := Int × Nat × Hp) (fun y => [(0, .v (.string (bs x0))), (3, .v (.pointer (some ⟨bw3, 0, none⟩))), (4, .v (.int .i64 ((p0_h6 : Nat) : Int))), (5, .v (.int .i32 (decL x0 p0_h6))), (6, .v (.int .i64 y.1)), (11, .v (.pointer (some ⟨b11, 0, none⟩)))]) (fun y => []) (fun y => [bldS 63 bw3 a1_h6 l1_h6, bldB 5 a1_h6 l1_h6]) (fun y => y.2.2) (fun y => K7 (((y.1, y.2.1))) = some r ∧ y.2.2.get b11 = some (.iter (bs x0) y.2.1)) ?_ (fun j7 => ?_)
        · rintro ⟨x6_7, p0_7, B6⟩ ⟨hp, it11⟩
          subst hK7
          show WJ _ _ _ B6 [bldS 63 bw3 a1_h6 l1_h6, bldB 5 a1_h6 l1_h6] _ _ ⟨[(0, .v (.string (bs x0))), (3, .v (.pointer (some ⟨bw3, 0, none⟩))), (4, .v (.int .i64 ((p0_h6 : Nat) : Int))), (5, .v (.int .i32 (decL x0 p0_h6))), (6, .v (.int .i64 x6_7)), (11, .v (.pointer (some ⟨b11, 0, none⟩)))], [], true, 0⟩
          refine WJ.ci 204 hp rfl rfl rfl rfl rfl rfl rfl rfl rfl (fun hc57u1 hp => ?_) (fun hc57u1 hp => ?_)
          · obtain ⟨uB62u1, euB62u1, hp⟩ := bindS hp
            obtain ⟨lB62u1, eB62u1, hp⟩ := bindS hp
            obtain ⟨bdB62u1, rfl⟩ := apd_some eB62u1
            refine WJ.bw 209 (s := [uB62u1]) 0 rfl (wb_ok euB62u1) (fun _ => rfl) rfl rfl rfl bdB62u1 ?_
            intro aB62u1
            refine ⟨_, rfl, ?_⟩
            obtain ⟨uB64u1, euB64u1, hp⟩ := bindS hp
            obtain ⟨lB64u1, eB64u1, hp⟩ := bindS hp
            obtain ⟨bdB64u1, rfl⟩ := apd_some eB64u1
            refine WJ.bw 203 (s := [uB64u1]) 0 rfl (wr_ok euB64u1) (fun _ => rfl) rfl rfl rfl bdB64u1 ?_
            intro aB64u1
            refine ⟨_, rfl, ?_⟩
            exact WJ.ag 203 rfl (by exact ⟨rfl, rfl, rfl, trivial⟩) rfl rfl rfl (ih6 (n, ((l1_h6 ++ ([uB62u1])) ++ ([uB64u1])), p0_7, aB64u1, 0, B6) ⟨hp, it11⟩ (Nat.lt_succ_self _))
          · refine WJ.ci 202 hp rfl rfl rfl rfl rfl rfl rfl rfl rfl (fun hc60 hp => ?_) (fun hc60 hp => ?_)
            · obtain ⟨uB62u2, euB62u2, hp⟩ := bindS hp
              obtain ⟨lB62u2, eB62u2, hp⟩ := bindS hp
              obtain ⟨bdB62u2, rfl⟩ := apd_some eB62u2
              refine WJ.bw 206 (s := [uB62u2]) 0 rfl (wb_ok euB62u2) (fun _ => rfl) rfl rfl rfl bdB62u2 ?_
              intro aB62u2
              refine ⟨_, rfl, ?_⟩
              obtain ⟨uB64u2, euB64u2, hp⟩ := bindS hp
              obtain ⟨lB64u2, eB64u2, hp⟩ := bindS hp
              obtain ⟨bdB64u2, rfl⟩ := apd_some eB64u2
              refine WJ.bw 203 (s := [uB64u2]) 0 rfl (wr_ok euB64u2) (fun _ => rfl) rfl rfl rfl bdB64u2 ?_
              intro aB64u2
              refine ⟨_, rfl, ?_⟩
              exact WJ.ag 203 rfl (by exact ⟨rfl, rfl, rfl, trivial⟩) rfl rfl rfl (ih6 (n, ((l1_h6 ++ ([uB62u2])) ++ ([uB64u2])), p0_7, aB64u2, 0, B6) ⟨hp, it11⟩ (Nat.lt_succ_self _))
            · obtain ⟨t68, e68, hp⟩ := bindS hp
              refine WJ.cl 208 (R := R_4 t68) (fun hm h k => R_4.mono hm h k) rfl (fun ids H' fr => f37_ok e68) ?_
              rintro v B7 ⟨abB7, ivB7⟩ rfl
              refine ⟨_, rfl, ?_⟩
              replace it11 := ivB7 _ _ it11
              cases t68
              · replace hp := (itS hp).2 Bool.false_ne_true
                obtain ⟨s32, e32, hp⟩ := bindS hp
                refine WJ.hd (v := .string (bs s32)) 210 rfl rfl rfl rfl (fun ids H' fr => opD_slh rfl (evV_eq _ _ _ _ _ rfl) (evV_eq _ _ _ _ _ rfl) (evV_eq _ _ _ _ _ rfl) (sliceD_lh us9 e32)) rfl ?_
                obtain ⟨l33, e33, hp⟩ := bindS hp
                refine WJ.cb 200 (L := l33) rfl rfl rfl rfl rfl rfl us9 u61 u8_5 e33 ?_
                intro b33
                refine ⟨_, rfl, ?_⟩
                refine WJ.adv 4 rfl ?_
                obtain ⟨K9, hK9, hp⟩ : ∃ K, K = _ ∧ Option.bind _ K = some r := ⟨_, rfl, cutS hp⟩
                refine WJ.lp 200 (α := Nat × (List UInt8) × Int × Nat × (Option Addr) × Nat × Hp) (fun y => [(0, .v (.string (bs x0))), (3, .v (.pointer (some ⟨bw3, 0, none⟩))), (11, .v (.pointer (some ⟨b11, 0, none⟩))), (33, .v (.slice (some ⟨b33, 0, none⟩) l33.length LOOSE)), (34, .v (.int .i64 ((l33.length : Nat) : Int))), (35, .v (.int .i64 y.2.2.1))]) (fun y => []) (fun y => [bldS 63 bw3 y.2.2.2.2.1 y.2.1, bldB 5 y.2.2.2.2.1 y.2.1, ⟨(some ⟨b33, 0, none⟩), LOOSE, 1, encL (kE .u8) l33⟩]) (fun y => y.2.2.2.2.2.2) (fun y => y.1) (fun y => Option.bind (f14_l2 l33 y.1 y.2.1 y.2.2.1 y.2.2.2.1) K9 = some r ∧ y.2.2.2.2.2.2.get b11 = some (.iter (bs x0) y.2.2.2.1)) (k, l1_h6, 0, p0_7, a1_h6, 0, B7) rfl ⟨hp, it11⟩ (by exact ⟨rfl, rfl, rfl, rfl, rfl, rfl, trivial⟩) rfl rfl rfl ?_
                rintro ⟨n9, l1_h9, x35_h9, p0_h9, a1_h9, c1_h9, B8⟩ ⟨hp, it11⟩ ih9
                show WJ _ _ _ B8 [bldS 63 bw3 a1_h9 l1_h9, bldB 5 a1_h9 l1_h9, ⟨(some ⟨b33, 0, none⟩), LOOSE, 1, encL (kE .u8) l33⟩] _ _ ⟨[(0, .v (.string (bs x0))), (3, .v (.pointer (some ⟨bw3, 0, none⟩))), (11, .v (.pointer (some ⟨b11, 0, none⟩))), (33, .v (.slice (some ⟨b33, 0, none⟩) l33.length LOOSE)), (34, .v (.int .i64 ((l33.length : Nat) : Int))), (35, .v (.int .i64 x35_h9))], [], true, 0⟩
                replace hp : Option.bind (f14_l2 l33 n9 l1_h9 x35_h9 p0_h9) K9 = some r := hp
                cases n9 with
                | zero => rw [f14_l2] at hp; exact (noS hp).elim
                | succ n9 =>
                  rw [f14_l2] at hp
                  obtain ⟨t36u1, e36u1, hp⟩ := bindS hp
                  refine WJ.cv 202 (b := t36u1) (H0 := ⟨.nil, 0, 0⟩) rfl rfl rfl rfl rfl rfl (by rw [← endS e36u1]; exact rfl) rfl ?_
                  cases t36u1
                  · replace hp := (itS hp).2 Bool.false_ne_true
                    subst hK9
                    exact WJ.ag 206 rfl (by exact ⟨rfl, rfl, rfl, trivial⟩) rfl rfl rfl (ih6 (n, l1_h9, p0_h9, a1_h9, 0, B8) ⟨hp, it11⟩ (Nat.lt_succ_self _))
                  · replace hp := (itS hp).1 rfl
                    obtain ⟨t37u1, e37u1, hp⟩ := bindS hp
                    refine WJ.ownAddr (enc := (kE .u8)) (sz := 1) 2 (fun _ => rfl) rfl rfl e37u1 (fun b37u1 hb37u1 => ?_)
                    refine WJ.hd (v := .pointer (some ⟨b37u1, (x35_h9 : Int).toNat * 1, none⟩)) 208 rfl rfl rfl rfl (fun ids H' fr => opD_indexAddr rfl (evV_eq _ _ _ _ _ rfl) (evV_eq _ _ _ _ _ rfl) (ownIdx hb37u1 e37u1 u61 sz5)) rfl ?_
                    refine WJ.hd (v := .int .u8 t37u1) 200 rfl rfl rfl rfl (fun ids H' fr => opD_load rfl (evV_eq _ _ _ _ _ rfl) ((fr.ownEl (enc := (kE .u8)) (sz := 1) (j := 2) (fun _ => rfl) rfl hb37u1 e37u1).load (d := 0) ag5 rfl)) rfl ?_
                    refine WJ.dr 202 rfl gmix (by kernel_rfl) (by kernel_rfl) rfl ?_
                    refine WD.hd (v := .int .u8 (gshr .u8 t37u1 4)) rfl rfl rfl rfl (fun _ _ _ _ _ => side_no) (fun ids H' fr => opD_bin rfl (evV_eq _ _ _ _ _ rfl) (evV_eq _ _ _ _ _ rfl) (bin_shr (by decide))) rfl ?_
                    refine WD.hd (v := .int .u8 (gshr .u8 t37u1 4)) rfl rfl rfl rfl (fun _ _ _ _ _ => side_no) (fun ids H' fr => opD_bin rfl (evV_eq _ _ _ _ _ rfl) (evV_eq _ _ _ _ _ rfl) (bin_shr (by decide))) rfl ?_
                    obtain ⟨s44u1, e44u1, hp⟩ := bindS hp
                    refine WD.hd (v := .string (bs s44u1)) rfl rfl rfl rfl (fun _ _ _ _ _ => side_no) (fun ids H' fr => opD_slh rfl (evV_eq _ _ _ _ _ rfl) (evV_eq _ _ _ _ _ rfl) (evV_eq _ _ _ _ _ rfl) (sliceD_lh us9 e44u1)) rfl ?_
                    obtain ⟨s45u1, e45u1, hp⟩ := bindS hp
                    refine WD.hd (v := .string (bs s45u1)) rfl rfl rfl rfl (fun _ _ _ _ _ => side_no) (fun ids H' fr => opD_bin rfl (evV_eq _ _ _ _ _ rfl) (evV_eq _ _ _ _ _ rfl) (bin_sadd e45u1)) rfl ?_
                    obtain ⟨s51u1, e51u1, hp⟩ := bindS hp
                    refine WD.hd (v := .string (bs s51u1)) rfl rfl rfl rfl (fun _ _ _ _ _ => side_no) (fun ids H' fr => opD_slh rfl (evV_eq _ _ _ _ _ rfl) (evV_eq _ _ _ _ _ rfl) (evV_eq _ _ _ _ _ rfl) (sliceD_lh us9 e51u1)) rfl ?_
                    obtain ⟨s52u1, e52u1, hp⟩ := bindS hp
                    refine WD.hd (v := .string (bs s52u1)) rfl rfl rfl rfl (fun _ _ _ _ _ => side_no) (fun ids H' fr => opD_bin rfl (evV_eq _ _ _ _ _ rfl) (evV_eq _ _ _ _ _ rfl) (bin_sadd e52u1)) rfl ?_
                    obtain ⟨lB53u1, eB53u1, hp⟩ := bindS hp
                    obtain ⟨bdB53u1, rfl⟩ := apd_some eB53u1
                    refine WD.bw (s := s52u1) 0 rfl (ws_ok s52u1) (fun _ => rfl) rfl rfl rfl bdB53u1 ?_
                    intro aB53u1
                    refine ⟨_, rfl, ?_⟩
                    refine WD.done rfl ?_
                    exact WJ.ag 205 rfl (by exact ⟨rfl, rfl, rfl, rfl, rfl, rfl, trivial⟩) rfl rfl rfl (ih9 (n9, (l1_h9 ++ s52u1), IntKind.i64.wrap (x35_h9 + 1), p0_h9, aB53u1, 0, B8) ⟨hp, it11⟩ (Nat.lt_succ_self _))
              · replace hp := (itS hp).1 rfl
                obtain ⟨s74, e74, hp⟩ := bindS hp
                refine WJ.hd (v := .string (bs s74)) 209 rfl rfl rfl rfl (fun ids H' fr => opD_slh rfl (evV_eq _ _ _ _ _ rfl) (evV_eq _ _ _ _ _ rfl) (evV_eq _ _ _ _ _ rfl) (sliceD_lh us9 e74)) rfl ?_
                obtain ⟨lB75, eB75, hp⟩ := bindS hp
                obtain ⟨bdB75, rfl⟩ := apd_some eB75
                refine WJ.bw 200 (s := s74) 0 rfl (ws_ok s74) (fun _ => rfl) rfl rfl rfl bdB75 ?_
                intro aB75
                refine ⟨_, rfl, ?_⟩
                exact WJ.ag 203 rfl (by exact ⟨rfl, rfl, rfl, trivial⟩) rfl rfl rfl (ih6 (n, (l1_h6 ++ s74), p0_7, aB75, 0, B7) ⟨hp, it11⟩ (Nat.lt_succ_self _))
        · refine WJ.ci 202 hp rfl rfl rfl rfl rfl rfl rfl rfl rfl (fun hc19u1 hp => ?_) (fun hc19u1 hp => ?_)
          · obtain ⟨s23u1, e23u1, hp⟩ := bindS hp
            refine WJ.hd (v := .string (bs s23u1)) 205 rfl rfl rfl rfl (fun ids H' fr => opD_sl rfl (evV_eq _ _ _ _ _ rfl) (evV_eq _ _ _ _ _ rfl) (sliceD_l us9 e23u1)) rfl ?_
            obtain ⟨⟨t24u1_0, t24u1_1⟩, e24u1, hp⟩ := bindS hp
            refine WJ.cl 200 (R := R_21_3 ⟨t24u1_0, t24u1_1⟩) (fun hm h k => R_21_3.mono hm h k) rfl (fun ids H' fr => f35_ok e24u1) ?_
            rintro v B5 ⟨abB5, ivB5⟩ rfl
            refine ⟨_, rfl, ?_⟩
            replace it11 := ivB5 _ _ it11
            exact WJ.goto 5 (j7 (t24u1_1, (p0_h6 + decN x0 p0_h6), B5) ⟨hp, it11⟩) rfl rfl (by exact ⟨rfl, rfl, rfl, rfl, rfl, rfl, trivial⟩) rfl rfl rfl
          · exact WJ.goto 3 (j7 (t17u1, (p0_h6 + decN x0 p0_h6), B4) ⟨hp, it11⟩) rfl rfl (by exact ⟨rfl, rfl, rfl, rfl, rfl, rfl, trivial⟩) rfl rfl rfl
      · exact WJ.goto 5 (j6 (l1_h6, a1_h6, 0, B2) hp) rfl rfl (by exact ⟨rfl, trivial⟩) rfl rfl rfl
/-! 46 tipstaff/row.spell -/
def f46 (k : Nat) (x0 : RowWord) : Option (List UInt8) :=
  if x0.Kind = 1 then
    some x0.Name
  else
    if x0.Kind = 2 then
      (f61 x0.N).bind fun t13 =>
      some t13
    else
      (f14 k x0.Name).bind fun t16 =>
      some t16
set_option maxRecDepth 20000 in
theorem f46_ok {k : Nat} {H : Hp} {x0 : RowWord} {r : List UInt8} (hp : f46 k x0 = some r) :
    SCall Tryz.prog 46 [.agg ⟨[.int .i64 x0.At, .int .i64 x0.Kind, .string (bs x0.Name), .int .i64 x0.N]⟩] H (Ret fun v H' => Ext H H' ∧ R_9 r H.next H' v) := by
  obtain ⟨x0_At, x0_Kind, x0_Name, x0_N⟩ := x0
  unfold f46 at hp
  replace hp := topS hp
  refine SCall.g Tryz.func46 rfl rfl rfl rfl rfl (l := [(0, .v (.agg ⟨[.int .i64 x0_At, .int .i64 x0_Kind, .string (bs x0_Name), .int .i64 x0_N]⟩))]) (fun _ => rfl) (fun B abB => ?_)
  refine WJ.ci 214 hp rfl rfl rfl rfl rfl rfl rfl rfl rfl (fun hc6 hp => ?_) (fun hc6 hp => ?_)
  · obtain rfl := endS (show some _ = some r from hp)
    exact WJ.rt 209 rfl rfl rfl (fun ids H' fr => ⟨fr.ext0, rfl⟩)
  · refine WJ.ci 205 hp rfl rfl rfl rfl rfl rfl rfl rfl rfl (fun hc10 hp => ?_) (fun hc10 hp => ?_)
    · obtain ⟨t13, e13, hp⟩ := bindS hp
      refine WJ.cl 207 (R := R_9 t13) (fun hm h k => R_9.mono hm h k) rfl (fun ids H' fr => f61_ok e13) ?_
      rintro v B1 ⟨abB1, ivB1⟩ rfl
      refine ⟨_, rfl, ?_⟩
      obtain rfl := endS (show some _ = some r from hp)
      exact WJ.rt 202 rfl rfl rfl (fun ids H' fr => ⟨fr.ext0, rfl⟩)
    · obtain ⟨t16, e16, hp⟩ := bindS hp
      refine WJ.cl 209 (R := R_9 t16) (fun hm h k => R_9.mono hm h k) rfl (fun ids H' fr => f14_ok e16) ?_
      rintro v B2 ⟨abB2, ivB2⟩ rfl
      refine ⟨_, rfl, ?_⟩
      obtain rfl := endS (show some _ = some r from hp)
      exact WJ.rt 202 rfl rfl rfl (fun ids H' fr => ⟨fr.ext0, rfl⟩)
/-! 24 tipstaff/row.Text -/
def f24_l2 (k : Nat) (t16u1_Words : List RowWord) : Nat → (List (List UInt8)) → Int → Option (((List (List UInt8))) ⊕ ((List UInt8) × Int))
  | 0, _, _ => none
  | n + 1, l3_h13, x25_h13 =>
    (some (decide (x25_h13 < (t16u1_Words.length : Int)))).bind fun t26u1 =>
    if t26u1 then
      (rd t16u1_Words x25_h13).bind fun t27u1 =>
      (f22 k (RowWord.mk t27u1.At t27u1.Kind t27u1.Name t27u1.N)).bind fun t30u1 =>
      if t30u1 = 0 then
        (f46 k (RowWord.mk t27u1.At t27u1.Kind t27u1.Name t27u1.N)).bind fun t36u1 =>
        (apd 16 l3_h13 ([t36u1] : List (List UInt8))).bind fun l38u1 =>
        f24_l2 k t16u1_Words n l38u1 (IntKind.i64.wrap (x25_h13 + 1))
      else
        some (Sum.inr ((([] : List UInt8), t30u1) : (List UInt8) × Int))
    else
      some (Sum.inl l3_h13)

def f24_l1 (k : Nat) (x0 : List Row) : Nat → (List UInt8) → Int → Option (((List UInt8)) ⊕ ((List UInt8) × Int))
  | 0, _, _ => none
  | n + 1, l1_h12, x14_h12 =>
    (some (decide (x14_h12 < (x0.length : Int)))).bind fun t15u1 =>
    if t15u1 then
      (rd x0 x14_h12).bind fun t16u1 =>
      if (t16u1.Words.length : Int) = 0 then
        some (Sum.inr ((([] : List UInt8), 3) : (List UInt8) × Int))
      else
        (f24_l2 k t16u1.Words k ([]) 0).bind fun s => match s with
          | .inl l3_13 => 
            (f47 l3_13 ([32] : List UInt8)).bind fun t41u1 =>
            if (t41u1.length : Int) > 1000 then
              some (Sum.inr ((([] : List UInt8), 4) : (List UInt8) × Int))
            else
              (apd 1 l1_h12 ([] : List UInt8)).bind fun lB46u1 =>
              if (IntKind.i64.wrap ((IntKind.i64.wrap ((l1_h12.length : Int) + (t41u1.length : Int))) + 1)) > 20000 then
                some (Sum.inr ((([] : List UInt8), 4) : (List UInt8) × Int))
              else
                (scat t41u1 ([10] : List UInt8)).bind fun s54u1 =>
                (apd 1 lB46u1 s54u1).bind fun lB55u1 =>
                f24_l1 k x0 n lB55u1 (IntKind.i64.wrap (x14_h12 + 1))
          | .inr st => some (Sum.inr st)
    else
      some (Sum.inl l1_h12)

def f24 (k : Nat) (x0 : List Row) : Option ((List UInt8) × Int) :=
  (f24_l1 k x0 k ([]) 0).bind fun s => match s with
    | .inl l1_12 => 
      (apd 1 l1_12 ([] : List UInt8)).bind fun lB57 =>
      some (l1_12, 0)
    | .inr st => some st
set_option maxHeartbeats 3200000 in
set_option maxRecDepth 20000 in
theorem f24_ok {k : Nat} {H : Hp} {a_x0 : Option Addr} {c_x0 : Nat} {x0 : List Row} {r : (List UInt8) × Int} (g_x0 : SlF 0 H RowC a_x0 c_x0 x0) (hp : f24 k x0 = some r) :
    SCall Tryz.prog 24 [.slice a_x0 x0.length c_x0] H (Ret fun v H' => Ext H H' ∧ R_9_24 r H.next H' v) := by
  unfold f24 at hp
  replace hp := topS hp
  refine SCall.g Tryz.func24 rfl rfl rfl rfl rfl (l := [(0, .v (.slice a_x0 x0.length c_x0))]) (fun _ => rfl) (fun B abB => ?_)
  have gbg_x0 := g_x0.mono (Nat.le_refl _) abB
  refine WJ.nb (U := 5) 207 rfl rfl rfl rfl rfl bzero bis rfl rfl ?_
  intro bw4
  refine ⟨_, rfl, ?_⟩
  refine WJ.adv 9 rfl ?_
  obtain ⟨K12, hK12, hp⟩ : ∃ K, K = _ ∧ Option.bind _ K = some r := ⟨_, rfl, cutS hp⟩
  refine WJ.cut 2 (α := (List UInt8) × (Option Addr) × Nat × Hp) (fun y => [(4, .v (.pointer (some ⟨bw4, 0, none⟩)))]) (fun y => []) (fun y => [bldS 63 bw4 y.2.1 y.1, bldB 5 y.2.1 y.1]) (fun y => y.2.2.2) (fun y => K12 (Sum.inl y.1) = some r ∧ SlF 0 y.2.2.2 RowC a_x0 c_x0 x0) ?_ (fun j12 => ?_)
  · rintro ⟨l1_12, a1_12, c1_12, B7⟩ ⟨hp, gbg_x0⟩
    subst hK12
    show WJ _ _ _ B7 [bldS 63 bw4 a1_12 l1_12, bldB 5 a1_12 l1_12] _ _ ⟨[(4, .v (.pointer (some ⟨bw4, 0, none⟩)))], [], true, 0⟩
    obtain ⟨lB57, eB57, hp⟩ := bindS hp
    obtain ⟨bdB57, rfl⟩ := apd_some eB57
    refine WJ.bg 202 0 rfl st_ok (fun _ => rfl) rfl rfl rfl (by simpa using bdB57) ?_
    refine ⟨_, rfl, ?_⟩
    obtain rfl := endS (show some _ = some r from hp)
    exact WJ.rt 203 rfl rfl rfl (fun ids H' fr => ⟨fr.ext0, rfl⟩)
  · refine WJ.lp 200 (α := Nat × (List UInt8) × Int × (Option Addr) × Nat × Hp) (fun y => [(4, .v (.pointer (some ⟨bw4, 0, none⟩))), (12, .v (.slice a_x0 x0.length c_x0)), (13, .v (.int .i64 ((x0.length : Nat) : Int))), (14, .v (.int .i64 y.2.2.1))]) (fun y => []) (fun y => [bldS 63 bw4 y.2.2.2.1 y.2.1, bldB 5 y.2.2.2.1 y.2.1]) (fun y => y.2.2.2.2.2) (fun y => y.1) (fun y => Option.bind (f24_l1 k x0 y.1 y.2.1 y.2.2.1) K12 = some r ∧ SlF 0 y.2.2.2.2.2 RowC a_x0 c_x0 x0) (k, ([] : List UInt8), 0, none, 0, B) rfl ⟨hp, gbg_x0⟩ (by exact ⟨rfl, rfl, rfl, rfl, trivial⟩) rfl rfl rfl ?_
    rintro ⟨n, l1_h12, x14_h12, a1_h12, c1_h12, B1⟩ ⟨hp, gbg_x0⟩ ih12
    show WJ _ _ _ B1 [bldS 63 bw4 a1_h12 l1_h12, bldB 5 a1_h12 l1_h12] _ _ ⟨[(4, .v (.pointer (some ⟨bw4, 0, none⟩))), (12, .v (.slice a_x0 x0.length c_x0)), (13, .v (.int .i64 ((x0.length : Nat) : Int))), (14, .v (.int .i64 x14_h12))], [], true, 0⟩
    replace hp : Option.bind (f24_l1 k x0 n l1_h12 x14_h12) K12 = some r := hp
    cases n with
    | zero => rw [f24_l1] at hp; exact (noS hp).elim
    | succ n =>
      rw [f24_l1] at hp
      obtain ⟨t15u1, e15u1, hp⟩ := bindS hp
      refine WJ.cv 202 (b := t15u1) (H0 := ⟨.nil, 0, 0⟩) rfl rfl rfl rfl rfl rfl (by rw [← endS e15u1]; exact rfl) rfl ?_
      cases t15u1
      · replace hp := (itS hp).2 Bool.false_ne_true
        exact WJ.goto 4 (j12 (l1_h12, a1_h12, 0, B1) ⟨hp, gbg_x0⟩) rfl rfl (by exact ⟨rfl, trivial⟩) rfl rfl rfl
      · replace hp := (itS hp).1 rfl
        obtain ⟨⟨t16u1_At, t16u1_Words⟩, e16u1, hp⟩ := bindS hp
        obtain ⟨b16u1, o16u1, cs16u1, i16u1, ⟨a_t16u1_Words, c_t16u1_Words, rfl, g_t16u1_Words⟩, p16u1⟩ := gbg_x0.at e16u1 u23 sz45
        refine WJ.hd (v := .pointer (some ⟨b16u1, o16u1, none⟩)) 208 rfl rfl rfl rfl (fun ids H' fr => opD_indexAddr rfl (evV_eq _ _ _ _ _ rfl) (evV_eq _ _ _ _ _ rfl) (i16u1 _)) rfl ?_
        refine WJ.hd (v := .agg ⟨[.int .i64 t16u1_At, .slice a_t16u1_Words t16u1_Words.length c_t16u1_Words]⟩) 200 rfl rfl rfl rfl (fun ids H' fr => opD_load rfl (evV_eq _ _ _ _ _ rfl) ((p16u1.mono (Nat.zero_le _) (fr.abv.le (Nat.zero_le _))).loadN (d := 0) ag45 sz45 rfl rfl)) rfl ?_
        refine WJ.adv 1 rfl ?_
        refine WJ.liftS (loc := []) rfl rfl (fun bv0u1 => ?_)
        refine WJ.sb 200 (j := 2) rfl rfl rfl rfl rfl rfl rfl rfl rfl rfl ?_
        refine WJ.hd (v := .slice a_t16u1_Words t16u1_Words.length c_t16u1_Words) 205 rfl rfl rfl rfl (fun ids H' fr => opD_load rfl (evV_eq _ _ _ _ _ rfl) (fr.ldOwn (j := 2) rfl rfl)) rfl ?_
        refine WJ.ci 201 hp rfl rfl rfl rfl rfl rfl rfl rfl rfl (fun hc21u1 hp => ?_) (fun hc21u1 hp => ?_)
        · subst hK12
          obtain rfl := endS (show some _ = some r from hp)
          exact WJ.rt 207 rfl rfl rfl (fun ids H' fr => ⟨fr.ext0, rfl⟩)
        · refine WJ.hd (v := .slice a_t16u1_Words t16u1_Words.length c_t16u1_Words) 211 rfl rfl rfl rfl (fun ids H' fr => opD_load rfl (evV_eq _ _ _ _ _ rfl) (fr.ldOwn (j := 2) rfl rfl)) rfl ?_
          refine WJ.adv 4 rfl ?_
          refine WJ.nw 1 ?_
          obtain ⟨K13, hK13, hp⟩ : ∃ K, K = _ ∧ Option.bind _ K = some r := ⟨_, rfl, cutS hp⟩
          refine WJ.cut 2 (α := (List (List UInt8)) × (Option Addr) × Nat × Hp) (fun y => [(4, .v (.pointer (some ⟨bw4, 0, none⟩))), (7, .v (.slice y.2.1 y.1.length y.2.2.1)), (12, .v (.slice a_x0 x0.length c_x0)), (13, .v (.int .i64 ((x0.length : Nat) : Int))), (14, .v (.int .i64 x14_h12))]) (fun y => []) (fun y => [bldS 63 bw4 a1_h12 l1_h12, bldB 5 a1_h12 l1_h12, ⟨some ⟨bv0u1, 0, none⟩, 2, 1, [.int .i64 t16u1_At, .slice a_t16u1_Words t16u1_Words.length c_t16u1_Words]⟩, ⟨y.2.1, y.2.2.1, 1, encL sE y.1⟩]) (fun y => y.2.2.2) (fun y => K13 (Sum.inl y.1) = some r ∧ SlF 0 y.2.2.2 RowC a_x0 c_x0 x0 ∧ SlF 0 y.2.2.2 RowWordC a_t16u1_Words c_t16u1_Words t16u1_Words) ?_ (fun j13 => ?_)
          · rintro ⟨l3_13, a3_13, c3_13, B5⟩ ⟨hp, gbg_x0, g_t16u1_Words⟩
            subst hK13
            show WJ _ _ _ B5 [bldS 63 bw4 a1_h12 l1_h12, bldB 5 a1_h12 l1_h12, ⟨some ⟨bv0u1, 0, none⟩, 2, 1, [.int .i64 t16u1_At, .slice a_t16u1_Words t16u1_Words.length c_t16u1_Words]⟩, ⟨a3_13, c3_13, 1, encL sE l3_13⟩] _ _ ⟨[(4, .v (.pointer (some ⟨bw4, 0, none⟩))), (7, .v (.slice a3_13 l3_13.length c3_13)), (12, .v (.slice a_x0 x0.length c_x0)), (13, .v (.int .i64 ((x0.length : Nat) : Int))), (14, .v (.int .i64 x14_h12))], [], true, 0⟩
            obtain ⟨t41u1, e41u1, hp⟩ := bindS hp
            refine WJ.cl 203 (R := R_9 t41u1) (fun hm h k => R_9.mono hm h k) rfl (fun ids H' fr => f47_ok (fr.slOwn (j := 3) rfl rfl (Nat.zero_le _)) e41u1) ?_
            rintro v B6 ⟨abB6, ivB6⟩ rfl
            refine ⟨_, rfl, ?_⟩
            replace gbg_x0 := gbg_x0.mono (Nat.le_refl _) (abB6.le (Nat.zero_le _))
            replace g_t16u1_Words := g_t16u1_Words.mono (Nat.le_refl _) (abB6.le (Nat.zero_le _))
            refine WJ.ci 207 hp rfl rfl rfl rfl rfl rfl rfl rfl rfl (fun hc44u1 hp => ?_) (fun hc44u1 hp => ?_)
            · subst hK12
              obtain rfl := endS (show some _ = some r from hp)
              exact WJ.rt 215 rfl rfl rfl (fun ids H' fr => ⟨fr.ext0, rfl⟩)
            · obtain ⟨lB46u1, eB46u1, hp⟩ := bindS hp
              obtain ⟨bdB46u1, rfl⟩ := apd_some eB46u1
              refine WJ.bw 201 (s := ([] : List UInt8)) 0 rfl ln_ok (fun _ => rfl) rfl rfl rfl bdB46u1 ?_
              intro aB46u1
              refine ⟨_, rfl, ?_⟩
              refine WJ.ci 204 hp rfl rfl rfl rfl rfl rfl rfl rfl rfl (fun hc51u1 hp => ?_) (fun hc51u1 hp => ?_)
              · subst hK12
                obtain rfl := endS (show some _ = some r from hp)
                exact WJ.rt 208 rfl rfl rfl (fun ids H' fr => ⟨fr.ext0, rfl⟩)
              · obtain ⟨s54u1, e54u1, hp⟩ := bindS hp
                refine WJ.hd (v := .string (bs s54u1)) 206 rfl rfl rfl rfl (fun ids H' fr => opD_bin rfl (evV_eq _ _ _ _ _ rfl) (evV_eq _ _ _ _ _ rfl) (bin_sadd e54u1)) rfl ?_
                obtain ⟨lB55u1, eB55u1, hp⟩ := bindS hp
                obtain ⟨bdB55u1, rfl⟩ := apd_some eB55u1
                refine WJ.bw 200 (s := s54u1) 0 rfl (ws_ok s54u1) (fun _ => rfl) rfl rfl rfl bdB55u1 ?_
                intro aB55u1
                refine ⟨_, rfl, ?_⟩
                exact WJ.ag 206 rfl (by exact ⟨rfl, rfl, rfl, rfl, trivial⟩) rfl rfl rfl (ih12 (n, ((l1_h12 ++ ([] : List UInt8)) ++ s54u1), IntKind.i64.wrap (x14_h12 + 1), aB55u1, 0, B6) ⟨hp, gbg_x0⟩ (Nat.lt_succ_self _))
          · refine WJ.lp 200 (α := Nat × (List (List UInt8)) × Int × (Option Addr) × Nat × Hp) (fun y => [(4, .v (.pointer (some ⟨bw4, 0, none⟩))), (7, .v (.slice y.2.2.2.1 y.2.1.length y.2.2.2.2.1)), (12, .v (.slice a_x0 x0.length c_x0)), (13, .v (.int .i64 ((x0.length : Nat) : Int))), (14, .v (.int .i64 x14_h12)), (23, .v (.slice a_t16u1_Words t16u1_Words.length c_t16u1_Words)), (24, .v (.int .i64 ((t16u1_Words.length : Nat) : Int))), (25, .v (.int .i64 y.2.2.1))]) (fun y => []) (fun y => [bldS 63 bw4 a1_h12 l1_h12, bldB 5 a1_h12 l1_h12, ⟨some ⟨bv0u1, 0, none⟩, 2, 1, [.int .i64 t16u1_At, .slice a_t16u1_Words t16u1_Words.length c_t16u1_Words]⟩, ⟨y.2.2.2.1, y.2.2.2.2.1, 1, encL sE y.2.1⟩]) (fun y => y.2.2.2.2.2) (fun y => y.1) (fun y => Option.bind (f24_l2 k t16u1_Words y.1 y.2.1 y.2.2.1) K13 = some r ∧ SlF 0 y.2.2.2.2.2 RowC a_x0 c_x0 x0 ∧ SlF 0 y.2.2.2.2.2 RowWordC a_t16u1_Words c_t16u1_Words t16u1_Words) (k, ([] : List (List UInt8)), 0, none, 0, B1) rfl ⟨hp, gbg_x0, g_t16u1_Words⟩ (by exact ⟨rfl, rfl, rfl, rfl, rfl, rfl, rfl, rfl, trivial⟩) rfl rfl rfl ?_
            rintro ⟨n13, l3_h13, x25_h13, a3_h13, c3_h13, B2⟩ ⟨hp, gbg_x0, g_t16u1_Words⟩ ih13
            show WJ _ _ _ B2 [bldS 63 bw4 a1_h12 l1_h12, bldB 5 a1_h12 l1_h12, ⟨some ⟨bv0u1, 0, none⟩, 2, 1, [.int .i64 t16u1_At, .slice a_t16u1_Words t16u1_Words.length c_t16u1_Words]⟩, ⟨a3_h13, c3_h13, 1, encL sE l3_h13⟩] _ _ ⟨[(4, .v (.pointer (some ⟨bw4, 0, none⟩))), (7, .v (.slice a3_h13 l3_h13.length c3_h13)), (12, .v (.slice a_x0 x0.length c_x0)), (13, .v (.int .i64 ((x0.length : Nat) : Int))), (14, .v (.int .i64 x14_h12)), (23, .v (.slice a_t16u1_Words t16u1_Words.length c_t16u1_Words)), (24, .v (.int .i64 ((t16u1_Words.length : Nat) : Int))), (25, .v (.int .i64 x25_h13))], [], true, 0⟩
            replace hp : Option.bind (f24_l2 k t16u1_Words n13 l3_h13 x25_h13) K13 = some r := hp
            cases n13 with
            | zero => rw [f24_l2] at hp; exact (noS hp).elim
            | succ n13 =>
              rw [f24_l2] at hp
              obtain ⟨t26u1, e26u1, hp⟩ := bindS hp
              refine WJ.cv 202 (b := t26u1) (H0 := ⟨.nil, 0, 0⟩) rfl rfl rfl rfl rfl rfl (by rw [← endS e26u1]; exact rfl) rfl ?_
              cases t26u1
              · replace hp := (itS hp).2 Bool.false_ne_true
                exact WJ.goto 4 (j13 (l3_h13, a3_h13, c3_h13, B2) ⟨hp, gbg_x0, g_t16u1_Words⟩) rfl rfl (by exact ⟨rfl, rfl, rfl, rfl, rfl, trivial⟩) rfl rfl rfl
              · replace hp := (itS hp).1 rfl
                obtain ⟨⟨t27u1_At, t27u1_Kind, t27u1_Name, t27u1_N⟩, e27u1, hp⟩ := bindS hp
                obtain ⟨b27u1, o27u1, cs27u1, i27u1, rfl, p27u1⟩ := g_t16u1_Words.at e27u1 u43 sz36
                refine WJ.hd (v := .pointer (some ⟨b27u1, o27u1, none⟩)) 208 rfl rfl rfl rfl (fun ids H' fr => opD_indexAddr rfl (evV_eq _ _ _ _ _ rfl) (evV_eq _ _ _ _ _ rfl) (i27u1 _)) rfl ?_
                refine WJ.hd (v := .agg ⟨[.int .i64 t27u1_At, .int .i64 t27u1_Kind, .string (bs t27u1_Name), .int .i64 t27u1_N]⟩) 200 rfl rfl rfl rfl (fun ids H' fr => opD_load rfl (evV_eq _ _ _ _ _ rfl) ((p27u1.mono (Nat.zero_le _) (fr.abv.le (Nat.zero_le _))).loadN (d := 0) ag36 sz36 rfl rfl)) rfl ?_
                refine WJ.adv 1 rfl ?_
                refine WJ.liftS (loc := []) rfl rfl (fun bv1u1 => ?_)
                refine WJ.sb 200 (j := 4) rfl rfl rfl rfl rfl rfl rfl rfl rfl rfl ?_
                refine WJ.hd (v := .agg ⟨[.int .i64 t27u1_At, .int .i64 t27u1_Kind, .string (bs t27u1_Name), .int .i64 t27u1_N]⟩) 204 rfl rfl rfl rfl (fun ids H' fr => opD_load rfl (evV_eq _ _ _ _ _ rfl) (fr.ldOwn (j := 4) rfl rfl)) rfl ?_
                obtain ⟨t30u1, e30u1, hp⟩ := bindS hp
                refine WJ.cl 200 (R := R_24 t30u1) (fun hm h k => R_24.mono hm h k) rfl (fun ids H' fr => f22_ok (x0 := (RowWord.mk t27u1_At t27u1_Kind t27u1_Name t27u1_N)) e30u1) ?_
                rintro v B3 ⟨abB3, ivB3⟩ rfl
                refine ⟨_, rfl, ?_⟩
                replace gbg_x0 := gbg_x0.mono (Nat.le_refl _) (abB3.le (Nat.zero_le _))
                replace g_t16u1_Words := g_t16u1_Words.mono (Nat.le_refl _) (abB3.le (Nat.zero_le _))
                replace p27u1 := p27u1.mono (Nat.le_refl _) (abB3.le (Nat.zero_le _))
                refine WJ.cn 205 hp rfl rfl rfl rfl rfl rfl rfl rfl rfl (fun hc32u1 hp => ?_) (fun hc32u1 hp => ?_)
                · subst hK13
                  subst hK12
                  obtain rfl := endS (show some _ = some r from hp)
                  exact WJ.rt 208 rfl rfl rfl (fun ids H' fr => ⟨fr.ext0, rfl⟩)
                · refine WJ.hd (v := .agg ⟨[.int .i64 t27u1_At, .int .i64 t27u1_Kind, .string (bs t27u1_Name), .int .i64 t27u1_N]⟩) 205 rfl rfl rfl rfl (fun ids H' fr => opD_load rfl (evV_eq _ _ _ _ _ rfl) (fr.ldOwn (j := 4) rfl rfl)) rfl ?_
                  obtain ⟨t36u1, e36u1, hp⟩ := bindS hp
                  refine WJ.cl 200 (R := R_9 t36u1) (fun hm h k => R_9.mono hm h k) rfl (fun ids H' fr => f46_ok (x0 := (RowWord.mk t27u1_At t27u1_Kind t27u1_Name t27u1_N)) e36u1) ?_
                  rintro v B4 ⟨abB4, ivB4⟩ rfl
                  refine ⟨_, rfl, ?_⟩
                  replace gbg_x0 := gbg_x0.mono (Nat.le_refl _) (abB4.le (Nat.zero_le _))
                  replace g_t16u1_Words := g_t16u1_Words.mono (Nat.le_refl _) (abB4.le (Nat.zero_le _))
                  replace p27u1 := p27u1.mono (Nat.le_refl _) (abB4.le (Nat.zero_le _))
                  refine WJ.bs (cs := encL sE ([t36u1] : List (List UInt8))) (sz := 1) (pl := [(0, .string (bs t36u1))]) 200 rfl rfl rfl rfl rfl (fun _ _ => rfl) (fun _ => by rfl) rfl rfl ?_
                  intro b37u1
                  refine ⟨_, rfl, ?_⟩
                  obtain ⟨l38u1, e38u1, hp⟩ := bindS hp
                  obtain ⟨bd38u1, rfl⟩ := apd_some e38u1
                  refine WJ.ap (L := l3_h13) (L2 := ([t36u1] : List (List UInt8))) 200 3 rfl rfl rfl rfl rfl rfl rfl rfl (el37 rfl) rfl (fun _ => rfl) (fun _ => rfl) rfl (fun ids H' fr => fr.srcOwn (enc := sE) (sz := 1) (j := 5) (fun _ => rfl) (by decide) rfl) bd38u1 ?_
                  intro a38u1 c38u1
                  refine ⟨_, rfl, ?_⟩
                  refine WJ.pop [bldS 63 bw4 a1_h12 l1_h12, bldB 5 a1_h12 l1_h12, ⟨some ⟨bv0u1, 0, none⟩, 2, 1, [.int .i64 t16u1_At, .slice a_t16u1_Words t16u1_Words.length c_t16u1_Words]⟩, ⟨a38u1, c38u1, 1, encL sE (l3_h13 ++ ([t36u1] : List (List UInt8)))⟩, ⟨some ⟨bv1u1, 0, none⟩, 4, 1, [.int .i64 t27u1_At, .int .i64 t27u1_Kind, .string (bs t27u1_Name), .int .i64 t27u1_N]⟩] rfl ?_
                  exact WJ.ag 207 rfl (by exact ⟨rfl, rfl, rfl, rfl, rfl, rfl, rfl, rfl, trivial⟩) rfl rfl rfl (ih13 (n13, (l3_h13 ++ ([t36u1] : List (List UInt8))), IntKind.i64.wrap (x25_h13 + 1), a38u1, c38u1, B4) ⟨hp, gbg_x0, g_t16u1_Words⟩ (Nat.lt_succ_self _))
/-! 43 tipstaff/tipstaffref03.letter -/
def f43 (x0 : Int) : Option Bool :=
  if x0 ≥ 97 then
    if x0 ≤ 122 then
      some true
    else
      if x0 ≥ 65 then
        (some (decide (x0 ≤ 90))).bind fun t14 =>
        some t14
      else
        some false
  else
    if x0 ≥ 65 then
      (some (decide (x0 ≤ 90))).bind fun t14 =>
      some t14
    else
      some false
set_option maxRecDepth 20000 in
theorem f43_ok {H : Hp} {x0 : Int} {r : Bool} (hp : f43 x0 = some r) :
    SCall Tryz.prog 43 [.int .u8 x0] H (Ret fun v H' => Ext H H' ∧ R_4 r H.next H' v) := by
  unfold f43 at hp
  replace hp := topS hp
  refine SCall.g Tryz.func43 rfl rfl rfl rfl rfl (l := [(0, .v (.int .u8 x0))]) (fun _ => rfl) (fun B abB => ?_)
  refine WJ.ci 207 hp rfl rfl rfl rfl rfl rfl rfl rfl rfl (fun hc4 hp => ?_) (fun hc4 hp => ?_)
  · refine WJ.ci 202 hp rfl rfl rfl rfl rfl rfl rfl rfl rfl (fun hc7 hp => ?_) (fun hc7 hp => ?_)
    · obtain rfl := endS (show some _ = some r from hp)
      exact WJ.rt 211 rfl rfl rfl (fun ids H' fr => ⟨fr.ext0, rfl⟩)
    · refine WJ.ci 203 hp rfl rfl rfl rfl rfl rfl rfl rfl rfl (fun hc11 hp => ?_) (fun hc11 hp => ?_)
      · obtain ⟨t14, e14, hp⟩ := bindS hp
        refine WJ.cv 202 (b := t14) (H0 := ⟨.nil, 0, 0⟩) rfl rfl rfl rfl rfl rfl (by rw [← endS e14]; exact rfl) rfl ?_
        obtain rfl := endS (show some _ = some r from hp)
        exact WJ.rt 204 rfl rfl rfl (fun ids H' fr => ⟨fr.ext0, rfl⟩)
      · obtain rfl := endS (show some _ = some r from hp)
        exact WJ.rt 207 rfl rfl rfl (fun ids H' fr => ⟨fr.ext0, rfl⟩)
  · refine WJ.ci 206 hp rfl rfl rfl rfl rfl rfl rfl rfl rfl (fun hc11 hp => ?_) (fun hc11 hp => ?_)
    · obtain ⟨t14, e14, hp⟩ := bindS hp
      refine WJ.cv 202 (b := t14) (H0 := ⟨.nil, 0, 0⟩) rfl rfl rfl rfl rfl rfl (by rw [← endS e14]; exact rfl) rfl ?_
      obtain rfl := endS (show some _ = some r from hp)
      exact WJ.rt 204 rfl rfl rfl (fun ids H' fr => ⟨fr.ext0, rfl⟩)
    · obtain rfl := endS (show some _ = some r from hp)
      exact WJ.rt 207 rfl rfl rfl (fun ids H' fr => ⟨fr.ext0, rfl⟩)
/-! 44 tipstaff/tipstaffref03.digit -/
def f44 (x0 : Int) : Option Bool :=
  if x0 ≥ 48 then
    (some (decide (x0 ≤ 57))).bind fun t7 =>
    some t7
  else
    some false
set_option maxRecDepth 20000 in
theorem f44_ok {H : Hp} {x0 : Int} {r : Bool} (hp : f44 x0 = some r) :
    SCall Tryz.prog 44 [.int .u8 x0] H (Ret fun v H' => Ext H H' ∧ R_4 r H.next H' v) := by
  unfold f44 at hp
  replace hp := topS hp
  refine SCall.g Tryz.func44 rfl rfl rfl rfl rfl (l := [(0, .v (.int .u8 x0))]) (fun _ => rfl) (fun B abB => ?_)
  refine WJ.ci 207 hp rfl rfl rfl rfl rfl rfl rfl rfl rfl (fun hc4 hp => ?_) (fun hc4 hp => ?_)
  · obtain ⟨t7, e7, hp⟩ := bindS hp
    refine WJ.cv 202 (b := t7) (H0 := ⟨.nil, 0, 0⟩) rfl rfl rfl rfl rfl rfl (by rw [← endS e7]; exact rfl) rfl ?_
    obtain rfl := endS (show some _ = some r from hp)
    exact WJ.rt 203 rfl rfl rfl (fun ids H' fr => ⟨fr.ext0, rfl⟩)
  · obtain rfl := endS (show some _ = some r from hp)
    exact WJ.rt 206 rfl rfl rfl (fun ids H' fr => ⟨fr.ext0, rfl⟩)
/-! 17 tipstaff/tipstaffref03.Name -/
def f17_l1 (x0 : List UInt8) : Nat → Int → Option ((Bool) ⊕ (Unit))
  | 0, _ => none
  | n + 1, x3 =>
    if x3 < (x0.length : Int) then
      (rd x0 x3).bind fun b26 =>
      (f43 ((b26.toNat : Nat) : Int)).bind fun t27 =>
      if t27 then
        f17_l1 x0 n (IntKind.i64.wrap (x3 + 1))
      else
        (rd x0 x3).bind fun b32 =>
        (f44 ((b32.toNat : Nat) : Int)).bind fun t33 =>
        if t33 then
          f17_l1 x0 n (IntKind.i64.wrap (x3 + 1))
        else
          (rd x0 x3).bind fun b39 =>
          if ((b39.toNat : Nat) : Int) = 45 then
            f17_l1 x0 n (IntKind.i64.wrap (x3 + 1))
          else
            some (Sum.inl (false : Bool))
    else
      some (Sum.inr ())

def f17 (k : Nat) (x0 : List UInt8) : Option Bool :=
  if (x0.length : Int) < 1 then
    some false
  else
    if (x0.length : Int) > 16 then
      some false
    else
      (rd x0 0).bind fun b14 =>
      (f43 ((b14.toNat : Nat) : Int)).bind fun t15 =>
      if t15 then
        (f17_l1 x0 k 0).bind fun s => match s with
          | .inl st => some st
          | .inr _ => 
            some true
      else
        some false
set_option maxRecDepth 20000 in
theorem f17_ok {k : Nat} {H : Hp} {x0 : List UInt8} {r : Bool} (hp : f17 k x0 = some r) :
    SCall Tryz.prog 17 [.string (bs x0)] H (Ret fun v H' => Ext H H' ∧ R_4 r H.next H' v) := by
  unfold f17 at hp
  replace hp := topS hp
  refine SCall.g Tryz.func17 rfl rfl rfl rfl rfl (l := [(0, .v (.string (bs x0)))]) (fun _ => rfl) (fun B abB => ?_)
  refine WJ.ci 209 hp rfl rfl rfl rfl rfl rfl rfl rfl rfl (fun hc6 hp => ?_) (fun hc6 hp => ?_)
  · obtain rfl := endS (show some _ = some r from hp)
    exact WJ.rt 217 rfl rfl rfl (fun ids H' fr => ⟨fr.ext0, rfl⟩)
  · refine WJ.ci 203 hp rfl rfl rfl rfl rfl rfl rfl rfl rfl (fun hc10 hp => ?_) (fun hc10 hp => ?_)
    · obtain rfl := endS (show some _ = some r from hp)
      exact WJ.rt 213 rfl rfl rfl (fun ids H' fr => ⟨fr.ext0, rfl⟩)
    · obtain ⟨b14, e14, hp⟩ := bindS hp
      refine WJ.hd (v := .int .u8 ((b14.toNat : Nat) : Int)) 203 rfl rfl rfl rfl (fun ids H' fr => opD_index rfl (evV_eq _ _ _ _ _ rfl) (evV_eq _ _ _ _ _ rfl) (sidx us9 e14)) rfl ?_
      obtain ⟨t15, e15, hp⟩ := bindS hp
      refine WJ.cl 200 (R := R_4 t15) (fun hm h k => R_4.mono hm h k) rfl (fun ids H' fr => f43_ok e15) ?_
      rintro v B1 ⟨abB1, ivB1⟩ rfl
      refine ⟨_, rfl, ?_⟩
      cases t15
      · replace hp := (itS hp).2 Bool.false_ne_true
        obtain rfl := endS (show some _ = some r from hp)
        exact WJ.rt 208 rfl rfl rfl (fun ids H' fr => ⟨fr.ext0, rfl⟩)
      · replace hp := (itS hp).1 rfl
        refine WJ.adv 11 rfl ?_
        obtain ⟨K14, hK14, hp⟩ : ∃ K, K = _ ∧ Option.bind _ K = some r := ⟨_, rfl, cutS hp⟩
        refine WJ.cut 2 (α := Hp) (fun y => []) (fun y => []) (fun y => []) (fun y => y) (fun y => K14 (Sum.inr ()) = some r) ?_ (fun j14 => ?_)
        · rintro B5 hp
          subst hK14
          show WJ _ _ _ B5 [] _ _ ⟨[], [], true, 0⟩
          obtain rfl := endS (show some _ = some r from hp)
          exact WJ.rt 204 rfl rfl rfl (fun ids H' fr => ⟨fr.ext0, rfl⟩)
        · refine WJ.lp 200 (α := Nat × Int × Hp) (fun y => [(0, .v (.string (bs x0))), (3, .v (.int .i64 y.2.1))]) (fun y => []) (fun y => []) (fun y => y.2.2) (fun y => y.1) (fun y => Option.bind (f17_l1 x0 y.1 y.2.1) K14 = some r) (k, 0, B1) rfl hp (by exact ⟨rfl, rfl, trivial⟩) rfl rfl rfl ?_
          rintro ⟨n, x3, B2⟩ hp ih14
          show WJ _ _ _ B2 [] _ _ ⟨[(0, .v (.string (bs x0))), (3, .v (.int .i64 x3))], [], true, 0⟩
          replace hp : Option.bind (f17_l1 x0 n x3) K14 = some r := hp
          cases n with
          | zero => rw [f17_l1] at hp; exact (noS hp).elim
          | succ n =>
            rw [f17_l1] at hp
            refine WJ.ci 206 hp rfl rfl rfl rfl rfl rfl rfl rfl rfl (fun hc21 hp => ?_) (fun hc21 hp => ?_)
            · obtain ⟨b26, e26, hp⟩ := bindS hp
              refine WJ.hd (v := .int .u8 ((b26.toNat : Nat) : Int)) 209 rfl rfl rfl rfl (fun ids H' fr => opD_index rfl (evV_eq _ _ _ _ _ rfl) (evV_eq _ _ _ _ _ rfl) (sidx us9 e26)) rfl ?_
              obtain ⟨t27, e27, hp⟩ := bindS hp
              refine WJ.cl 200 (R := R_4 t27) (fun hm h k => R_4.mono hm h k) rfl (fun ids H' fr => f43_ok e27) ?_
              rintro v B3 ⟨abB3, ivB3⟩ rfl
              refine ⟨_, rfl, ?_⟩
              cases t27
              · replace hp := (itS hp).2 Bool.false_ne_true
                obtain ⟨b32, e32, hp⟩ := bindS hp
                refine WJ.hd (v := .int .u8 ((b32.toNat : Nat) : Int)) 204 rfl rfl rfl rfl (fun ids H' fr => opD_index rfl (evV_eq _ _ _ _ _ rfl) (evV_eq _ _ _ _ _ rfl) (sidx us9 e32)) rfl ?_
                obtain ⟨t33, e33, hp⟩ := bindS hp
                refine WJ.cl 200 (R := R_4 t33) (fun hm h k => R_4.mono hm h k) rfl (fun ids H' fr => f44_ok e33) ?_
                rintro v B4 ⟨abB4, ivB4⟩ rfl
                refine ⟨_, rfl, ?_⟩
                cases t33
                · replace hp := (itS hp).2 Bool.false_ne_true
                  obtain ⟨b39, e39, hp⟩ := bindS hp
                  refine WJ.hd (v := .int .u8 ((b39.toNat : Nat) : Int)) 205 rfl rfl rfl rfl (fun ids H' fr => opD_index rfl (evV_eq _ _ _ _ _ rfl) (evV_eq _ _ _ _ _ rfl) (sidx us9 e39)) rfl ?_
                  refine WJ.cn 200 hp rfl rfl rfl rfl rfl rfl rfl rfl rfl (fun hc40 hp => ?_) (fun hc40 hp => ?_)
                  · subst hK14
                    obtain rfl := endS (show some _ = some r from hp)
                    exact WJ.rt 207 rfl rfl rfl (fun ids H' fr => ⟨fr.ext0, rfl⟩)
                  · exact WJ.ag 210 rfl (by exact ⟨rfl, rfl, trivial⟩) rfl rfl rfl (ih14 (n, IntKind.i64.wrap (x3 + 1), B4) hp (Nat.lt_succ_self _))
                · replace hp := (itS hp).1 rfl
                  exact WJ.ag 217 rfl (by exact ⟨rfl, rfl, trivial⟩) rfl rfl rfl (ih14 (n, IntKind.i64.wrap (x3 + 1), B4) hp (Nat.lt_succ_self _))
              · replace hp := (itS hp).1 rfl
                exact WJ.ag 223 rfl (by exact ⟨rfl, rfl, trivial⟩) rfl rfl rfl (ih14 (n, IntKind.i64.wrap (x3 + 1), B3) hp (Nat.lt_succ_self _))
            · exact WJ.goto 3 (j14 B2 hp) rfl rfl (by exact trivial) rfl rfl rfl
/-! 23 tipstaff/tipstaffref03.Sound -/
def f23 (k : Nat) (x0 : RowWord) : Option Int :=
  if x0.Kind < 1 then
    some 11
  else
    if x0.Kind > 3 then
      some 11
    else
      (if x0.Kind = 1 then
        (f17 k x0.Name).bind fun t19 =>
        if t19 then
          if x0.N = 0 then
            if x0.Kind = 2 then
              if x0.Name = ([] : List UInt8) then
                if x0.N < (-1099511627776) then
                  some (Sum.inl (3 : Int))
                else
                  if x0.N > 1099511627776 then
                    some (Sum.inl (3 : Int))
                  else
                    if x0.Kind = 3 then
                      if x0.N = 0 then
                        some (Sum.inr ())
                      else
                        some (Sum.inl (3 : Int))
                    else
                      some (Sum.inr ())
              else
                some (Sum.inl (3 : Int))
            else
              if x0.Kind = 3 then
                if x0.N = 0 then
                  some (Sum.inr ())
                else
                  some (Sum.inl (3 : Int))
              else
                some (Sum.inr ())
          else
            some (Sum.inl (3 : Int))
        else
          some (Sum.inl (3 : Int))
      else
        if x0.Kind = 2 then
          if x0.Name = ([] : List UInt8) then
            if x0.N < (-1099511627776) then
              some (Sum.inl (3 : Int))
            else
              if x0.N > 1099511627776 then
                some (Sum.inl (3 : Int))
              else
                if x0.Kind = 3 then
                  if x0.N = 0 then
                    some (Sum.inr ())
                  else
                    some (Sum.inl (3 : Int))
                else
                  some (Sum.inr ())
          else
            some (Sum.inl (3 : Int))
        else
          if x0.Kind = 3 then
            if x0.N = 0 then
              some (Sum.inr ())
            else
              some (Sum.inl (3 : Int))
          else
            some (Sum.inr ())).bind fun s => match s with
        | .inl st => some st
        | .inr _ => 
          some 0
set_option maxRecDepth 20000 in
theorem f23_ok {k : Nat} {H : Hp} {x0 : RowWord} {r : Int} (hp : f23 k x0 = some r) :
    SCall Tryz.prog 23 [.agg ⟨[.int .i64 x0.At, .int .i64 x0.Kind, .string (bs x0.Name), .int .i64 x0.N]⟩] H (Ret fun v H' => Ext H H' ∧ R_24 r H.next H' v) := by
  obtain ⟨x0_At, x0_Kind, x0_Name, x0_N⟩ := x0
  unfold f23 at hp
  replace hp := topS hp
  refine SCall.g Tryz.func23 rfl rfl rfl rfl rfl (l := [(0, .v (.agg ⟨[.int .i64 x0_At, .int .i64 x0_Kind, .string (bs x0_Name), .int .i64 x0_N]⟩))]) (fun _ => rfl) (fun B abB => ?_)
  refine WJ.ci 211 hp rfl rfl rfl rfl rfl rfl rfl rfl rfl (fun hc6 hp => ?_) (fun hc6 hp => ?_)
  · obtain rfl := endS (show some _ = some r from hp)
    exact WJ.rt 212 rfl rfl rfl (fun ids H' fr => ⟨fr.ext0, rfl⟩)
  · refine WJ.ci 203 hp rfl rfl rfl rfl rfl rfl rfl rfl rfl (fun hc10 hp => ?_) (fun hc10 hp => ?_)
    · obtain rfl := endS (show some _ = some r from hp)
      exact WJ.rt 208 rfl rfl rfl (fun ids H' fr => ⟨fr.ext0, rfl⟩)
    · refine WJ.adv 5 rfl ?_
      obtain ⟨K15, hK15, hp⟩ : ∃ K, K = _ ∧ Option.bind _ K = some r := ⟨_, rfl, cutS hp⟩
      refine WJ.cut 3 (α := Hp) (fun y => []) (fun y => [[.int .i64 x0_At, .int .i64 x0_Kind, .string (bs x0_Name), .int .i64 x0_N]]) (fun y => []) (fun y => y) (fun y => K15 ((Sum.inr ())) = some r) ?_ (fun j15 => ?_)
      · rintro B2 hp
        subst hK15
        show WJ _ _ _ B2 [] _ _ ⟨[], [[.int .i64 x0_At, .int .i64 x0_Kind, .string (bs x0_Name), .int .i64 x0_N]], true, 0⟩
        obtain rfl := endS (show some _ = some r from hp)
        exact WJ.rt 204 rfl rfl rfl (fun ids H' fr => ⟨fr.ext0, rfl⟩)
      · refine WJ.ci 203 hp rfl rfl rfl rfl rfl rfl rfl rfl rfl (fun hc15 hp => ?_) (fun hc15 hp => ?_)
        · obtain ⟨t19, e19, hp⟩ := bindS hp
          refine WJ.cl 203 (R := R_4 t19) (fun hm h k => R_4.mono hm h k) rfl (fun ids H' fr => f17_ok e19) ?_
          rintro v B1 ⟨abB1, ivB1⟩ rfl
          refine ⟨_, rfl, ?_⟩
          cases t19
          · replace hp := (itS hp).2 Bool.false_ne_true
            subst hK15
            obtain rfl := endS (show some _ = some r from hp)
            exact WJ.rt 214 rfl rfl rfl (fun ids H' fr => ⟨fr.ext0, rfl⟩)
          · replace hp := (itS hp).1 rfl
            refine WJ.cn 204 hp rfl rfl rfl rfl rfl rfl rfl rfl rfl (fun hc24 hp => ?_) (fun hc24 hp => ?_)
            · subst hK15
              obtain rfl := endS (show some _ = some r from hp)
              exact WJ.rt 209 rfl rfl rfl (fun ids H' fr => ⟨fr.ext0, rfl⟩)
            · refine WJ.ci 209 hp rfl rfl rfl rfl rfl rfl rfl rfl rfl (fun hc30 hp => ?_) (fun hc30 hp => ?_)
              · refine WJ.cn 203 hp rfl rfl rfl rfl rfl rfl (opD_strne rfl rfl rfl) rfl rfl (fun hc34 hp => ?_) (fun hc34 hp => ?_)
                · subst hK15
                  obtain rfl := endS (show some _ = some r from hp)
                  exact WJ.rt 218 rfl rfl rfl (fun ids H' fr => ⟨fr.ext0, rfl⟩)
                · refine WJ.ci 203 hp rfl rfl rfl rfl rfl rfl rfl rfl rfl (fun hc38 hp => ?_) (fun hc38 hp => ?_)
                  · subst hK15
                    obtain rfl := endS (show some _ = some r from hp)
                    exact WJ.rt 214 rfl rfl rfl (fun ids H' fr => ⟨fr.ext0, rfl⟩)
                  · refine WJ.ci 204 hp rfl rfl rfl rfl rfl rfl rfl rfl rfl (fun hc43 hp => ?_) (fun hc43 hp => ?_)
                    · subst hK15
                      obtain rfl := endS (show some _ = some r from hp)
                      exact WJ.rt 209 rfl rfl rfl (fun ids H' fr => ⟨fr.ext0, rfl⟩)
                    · refine WJ.ci 209 hp rfl rfl rfl rfl rfl rfl rfl rfl rfl (fun hc49 hp => ?_) (fun hc49 hp => ?_)
                      · refine WJ.cn 203 hp rfl rfl rfl rfl rfl rfl rfl rfl rfl (fun hc53 hp => ?_) (fun hc53 hp => ?_)
                        · subst hK15
                          obtain rfl := endS (show some _ = some r from hp)
                          exact WJ.rt 208 rfl rfl rfl (fun ids H' fr => ⟨fr.ext0, rfl⟩)
                        · exact WJ.goto 6 (j15 B1 hp) rfl rfl (by exact trivial) rfl rfl rfl
                      · exact WJ.goto 10 (j15 B1 hp) rfl rfl (by exact trivial) rfl rfl rfl
              · refine WJ.ci 222 hp rfl rfl rfl rfl rfl rfl rfl rfl rfl (fun hc49 hp => ?_) (fun hc49 hp => ?_)
                · refine WJ.cn 203 hp rfl rfl rfl rfl rfl rfl rfl rfl rfl (fun hc53 hp => ?_) (fun hc53 hp => ?_)
                  · subst hK15
                    obtain rfl := endS (show some _ = some r from hp)
                    exact WJ.rt 208 rfl rfl rfl (fun ids H' fr => ⟨fr.ext0, rfl⟩)
                  · exact WJ.goto 6 (j15 B1 hp) rfl rfl (by exact trivial) rfl rfl rfl
                · exact WJ.goto 10 (j15 B1 hp) rfl rfl (by exact trivial) rfl rfl rfl
        · refine WJ.ci 218 hp rfl rfl rfl rfl rfl rfl rfl rfl rfl (fun hc30 hp => ?_) (fun hc30 hp => ?_)
          · refine WJ.cn 203 hp rfl rfl rfl rfl rfl rfl (opD_strne rfl rfl rfl) rfl rfl (fun hc34 hp => ?_) (fun hc34 hp => ?_)
            · subst hK15
              obtain rfl := endS (show some _ = some r from hp)
              exact WJ.rt 218 rfl rfl rfl (fun ids H' fr => ⟨fr.ext0, rfl⟩)
            · refine WJ.ci 203 hp rfl rfl rfl rfl rfl rfl rfl rfl rfl (fun hc38 hp => ?_) (fun hc38 hp => ?_)
              · subst hK15
                obtain rfl := endS (show some _ = some r from hp)
                exact WJ.rt 214 rfl rfl rfl (fun ids H' fr => ⟨fr.ext0, rfl⟩)
              · refine WJ.ci 204 hp rfl rfl rfl rfl rfl rfl rfl rfl rfl (fun hc43 hp => ?_) (fun hc43 hp => ?_)
                · subst hK15
                  obtain rfl := endS (show some _ = some r from hp)
                  exact WJ.rt 209 rfl rfl rfl (fun ids H' fr => ⟨fr.ext0, rfl⟩)
                · refine WJ.ci 209 hp rfl rfl rfl rfl rfl rfl rfl rfl rfl (fun hc49 hp => ?_) (fun hc49 hp => ?_)
                  · refine WJ.cn 203 hp rfl rfl rfl rfl rfl rfl rfl rfl rfl (fun hc53 hp => ?_) (fun hc53 hp => ?_)
                    · subst hK15
                      obtain rfl := endS (show some _ = some r from hp)
                      exact WJ.rt 208 rfl rfl rfl (fun ids H' fr => ⟨fr.ext0, rfl⟩)
                    · exact WJ.goto 6 (j15 B hp) rfl rfl (by exact trivial) rfl rfl rfl
                  · exact WJ.goto 10 (j15 B hp) rfl rfl (by exact trivial) rfl rfl rfl
          · refine WJ.ci 222 hp rfl rfl rfl rfl rfl rfl rfl rfl rfl (fun hc49 hp => ?_) (fun hc49 hp => ?_)
            · refine WJ.cn 203 hp rfl rfl rfl rfl rfl rfl rfl rfl rfl (fun hc53 hp => ?_) (fun hc53 hp => ?_)
              · subst hK15
                obtain rfl := endS (show some _ = some r from hp)
                exact WJ.rt 208 rfl rfl rfl (fun ids H' fr => ⟨fr.ext0, rfl⟩)
              · exact WJ.goto 6 (j15 B hp) rfl rfl (by exact trivial) rfl rfl rfl
            · exact WJ.goto 10 (j15 B hp) rfl rfl (by exact trivial) rfl rfl rfl
/-! 63 tipstaff/tipstaffref03.digits -/
def f63 : Nat → Int → Option (List UInt8)
  | 0, _ => none
  | k + 1, x0 =>
    if x0 < 0 then
      (f63 k (IntKind.i64.wrap (0 - (gmax x0 (-1099511627776))))).bind fun t8 =>
      (scat ([45] : List UInt8) t8).bind fun s9 =>
      some s9
    else
      if x0 < 10 then
        (sub ([48, 49, 50, 51, 52, 53, 54, 55, 56, 57, 97, 98, 99, 100, 101, 102] : List UInt8) x0 (IntKind.i64.wrap (x0 + 1))).bind fun s15 =>
        some s15
      else
        (f63 k (IntKind.i64.wrap (x0.tdiv 10))).bind fun t18 =>
        (sub ([48, 49, 50, 51, 52, 53, 54, 55, 56, 57, 97, 98, 99, 100, 101, 102] : List UInt8) (x0.tmod 10) (IntKind.i64.wrap ((x0.tmod 10) + 1))).bind fun s24 =>
        (scat t18 s24).bind fun s25 =>
        some s25
set_option maxRecDepth 20000 in
theorem f63_ok {k : Nat} {H : Hp} {x0 : Int} {r : List UInt8} (hp : f63 k x0 = some r) :
    SCall Tryz.prog 63 [.int .i64 x0] H (Ret fun v H' => Ext H H' ∧ R_9 r H.next H' v) := by
  induction k generalizing H x0 r with
  | zero => rw [f63] at hp; cases hp
  | succ k ih =>
  rw [f63] at hp
  replace hp := topS hp
  refine SCall.g Tryz.func63 rfl rfl rfl rfl rfl (l := [(0, .v (.int .i64 x0))]) (fun _ => rfl) (fun B abB => ?_)
  refine WJ.ci 208 hp rfl rfl rfl rfl rfl rfl rfl rfl rfl (fun hc4 hp => ?_) (fun hc4 hp => ?_)
  · refine WJ.hd (v := .int .i64 (gmax x0 (-1099511627776))) 205 rfl rfl rfl rfl (fun ids H' fr => opD_max rfl rfl rfl (evV_eq (v := .v (.int .i64 x0)) _ _ _ _ _ rfl) (evV_eq (v := .v (.int .i64 (-1099511627776))) _ _ _ _ _ rfl)) rfl ?_
    obtain ⟨t8, e8, hp⟩ := bindS hp
    refine WJ.cl 201 (R := R_9 t8) (fun hm h k => R_9.mono hm h k) rfl (fun ids H' fr => ih e8) ?_
    rintro v B1 ⟨abB1, ivB1⟩ rfl
    refine ⟨_, rfl, ?_⟩
    obtain ⟨s9, e9, hp⟩ := bindS hp
    refine WJ.hd (v := .string (bs s9)) 200 rfl rfl rfl rfl (fun ids H' fr => opD_bin rfl (evV_eq _ _ _ _ _ rfl) (evV_eq _ _ _ _ _ rfl) (bin_sadd e9)) rfl ?_
    obtain rfl := endS (show some _ = some r from hp)
    exact WJ.rt 202 rfl rfl rfl (fun ids H' fr => ⟨fr.ext0, rfl⟩)
  · refine WJ.ci 207 hp rfl rfl rfl rfl rfl rfl rfl rfl rfl (fun hc11 hp => ?_) (fun hc11 hp => ?_)
    · obtain ⟨s15, e15, hp⟩ := bindS hp
      refine WJ.hd (v := .string (bs s15)) 207 rfl rfl rfl rfl (fun ids H' fr => opD_slh rfl (evV_eq _ _ _ _ _ rfl) (evV_eq _ _ _ _ _ rfl) (evV_eq _ _ _ _ _ rfl) (sliceD_lh us9 e15)) rfl ?_
      obtain rfl := endS (show some _ = some r from hp)
      exact WJ.rt 202 rfl rfl rfl (fun ids H' fr => ⟨fr.ext0, rfl⟩)
    · refine WJ.drF 204 rfl gmix (by kernel_rfl) (by kernel_rfl) rfl (fun D2 eD2 abD2 => ?_)
      refine WD.hd (v := .int .i64 (IntKind.i64.wrap (x0.tdiv 10))) rfl rfl rfl rfl (fun ids H' s0 h0 f => side_pure rfl rfl h0 f) (fun ids H' fr => opD_bin rfl (evV_eq _ _ _ _ _ rfl) (evV_eq _ _ _ _ _ rfl) (bin_quo (by decide))) rfl ?_
      obtain ⟨t18, e18, hp⟩ := bindS hp
      refine WD.cl (R := R_9 t18) (fun hm h k => R_9.mono hm h k) rfl (fun ids H' fr => ih e18) ?_
      rintro v B3 ⟨abB3, ivB3⟩ rfl
      refine ⟨_, rfl, ?_⟩
      refine WD.hd (v := .int .i64 (x0.tmod 10)) rfl rfl rfl rfl (fun ids H' s0 h0 f => side_pure rfl rfl h0 f) (fun ids H' fr => opD_bin rfl (evV_eq _ _ _ _ _ rfl) (evV_eq _ _ _ _ _ rfl) (bin_rem (by decide))) rfl ?_
      refine WD.hd (v := .int .i64 (x0.tmod 10)) rfl rfl rfl rfl (fun ids H' s0 h0 f => side_pure rfl rfl h0 f) (fun ids H' fr => opD_bin rfl (evV_eq _ _ _ _ _ rfl) (evV_eq _ _ _ _ _ rfl) (bin_rem (by decide))) rfl ?_
      obtain ⟨s24, e24, hp⟩ := bindS hp
      refine WD.hd (v := .string (bs s24)) rfl rfl rfl rfl (fun ids H' s0 h0 f => side_str rfl rfl rfl h0 f) (fun ids H' fr => opD_slh rfl (evV_eq _ _ _ _ _ rfl) (evV_eq _ _ _ _ _ rfl) (evV_eq _ _ _ _ _ rfl) (sliceD_lh us9 e24)) rfl ?_
      obtain ⟨s25, e25, hp⟩ := bindS hp
      refine WD.hd (v := .string (bs s25)) rfl rfl rfl rfl (fun ids H' s0 h0 f => side_pure rfl rfl h0 f) (fun ids H' fr => opD_bin rfl (evV_eq _ _ _ _ _ rfl) (evV_eq _ _ _ _ _ rfl) (bin_sadd e25)) rfl ?_
      refine WD.done rfl ?_
      obtain rfl := endS (show some _ = some r from hp)
      exact WJ.rt 200 rfl rfl rfl (fun ids H' fr => ⟨fr.ext0, rfl⟩)
/-! 40 tipstaff/tipstaffref03.long -/
def f40_l1 (x0 : List UInt8) : Nat → Nat → Option ((Int) ⊕ (Unit))
  | 0, _ => none
  | n + 1, p0_h16 =>
    if p0_h16 < x0.length then
      (some (encR (decL x0 p0_h16))).bind fun s12 =>
      (if (decL x0 p0_h16) ≥ 160 then
        if (s12.length : Int) ≤ (x0.length : Int) then
          (sub x0 0 (s12.length : Int)).bind fun s25 =>
          (some (encR (decL x0 p0_h16))).bind fun s27 =>
          if s25 = s27 then
            some (Sum.inl ((s12.length : Int) : Int))
          else
            some (Sum.inr ())
        else
          some (Sum.inr ())
      else
        some (Sum.inr ())).bind fun s => match s with
        | .inl st => some (Sum.inl st)
        | .inr _ => 
          some (Sum.inl (0 : Int))
    else
      some (Sum.inr ())

def f40 (k : Nat) (x0 : List UInt8) : Option Int :=
  (f40_l1 x0 k 0).bind fun s => match s with
    | .inl st => some st
    | .inr _ => 
      some 0
set_option maxHeartbeats 3200000 in
set_option maxRecDepth 20000 in
theorem f40_ok {k : Nat} {H : Hp} {x0 : List UInt8} {r : Int} (hp : f40 k x0 = some r) :
    SCall Tryz.prog 40 [.string (bs x0)] H (Ret fun v H' => Ext H H' ∧ R_3 r H.next H' v) := by
  unfold f40 at hp
  replace hp := topS hp
  refine SCall.g Tryz.func40 rfl rfl rfl rfl rfl (l := [(0, .v (.string (bs x0)))]) (fun _ => rfl) (fun B abB => ?_)
  refine WJ.rg 208 rfl rfl rfl rfl rfl us9 rfl ?_
  rintro b7 B1 ⟨abB1, ivB1⟩ h07 it7
  refine ⟨_, rfl, ?_⟩
  refine WJ.adv 2 rfl ?_
  obtain ⟨K16, hK16, hp⟩ : ∃ K, K = _ ∧ Option.bind _ K = some r := ⟨_, rfl, cutS hp⟩
  refine WJ.cut 2 (α := Hp) (fun y => []) (fun y => []) (fun y => []) (fun y => y) (fun y => K16 (Sum.inr ()) = some r) ?_ (fun j16 => ?_)
  · rintro B4 hp
    subst hK16
    show WJ _ _ _ B4 [] _ _ ⟨[], [], true, 0⟩
    obtain rfl := endS (show some _ = some r from hp)
    exact WJ.rt 204 rfl rfl rfl (fun ids H' fr => ⟨fr.ext0, rfl⟩)
  · refine WJ.lp 200 (α := Nat × Nat × Hp) (fun y => [(0, .v (.string (bs x0))), (7, .v (.pointer (some ⟨b7, 0, none⟩)))]) (fun y => []) (fun y => []) (fun y => y.2.2) (fun y => y.1) (fun y => Option.bind (f40_l1 x0 y.1 y.2.1) K16 = some r ∧ y.2.2.get b7 = some (.iter (bs x0) y.2.1)) (k, 0, B1) rfl ⟨hp, it7⟩ (by exact ⟨rfl, rfl, trivial⟩) rfl rfl rfl ?_
    rintro ⟨n, p0_h16, B2⟩ ⟨hp, it7⟩ ih16
    show WJ _ _ _ B2 [] _ _ ⟨[(0, .v (.string (bs x0))), (7, .v (.pointer (some ⟨b7, 0, none⟩)))], [], true, 0⟩
    replace hp : Option.bind (f40_l1 x0 n p0_h16) K16 = some r := hp
    cases n with
    | zero => rw [f40_l1] at hp; exact (noS hp).elim
    | succ n =>
      rw [f40_l1] at hp
      refine WJ.nx 202 hp rfl rfl rfl rfl rfl rfl it7 h07 rfl rfl (fun hp B3 abB3 neB3 it_new => ?_) (fun hp => ?_)
      · replace it7 := it_new
        obtain ⟨s12, e12, hp⟩ := bindS hp
        refine WJ.adv 15 rfl ?_
        rw [enc_eq, Option.some.inj e12]
        refine WJ.adv 5 rfl ?_
        obtain ⟨K17, hK17, hp⟩ : ∃ K, K = _ ∧ Option.bind _ K = some r := ⟨_, rfl, cutS hp⟩
        refine WJ.cut 2 (α := Unit) (fun y => []) (fun y => []) (fun y => []) (fun y => B3) (fun y => K17 ((Sum.inr ())) = some r) ?_ (fun j17 => ?_)
        · rintro u hp
          subst hK17
          show WJ _ _ _ B3 [] _ _ ⟨[], [], true, 0⟩
          subst hK16
          obtain rfl := endS (show some _ = some r from hp)
          exact WJ.rt 204 rfl rfl rfl (fun ids H' fr => ⟨fr.ext0, rfl⟩)
        · refine WJ.ci 202 hp rfl rfl rfl rfl rfl rfl rfl rfl rfl (fun hc15 hp => ?_) (fun hc15 hp => ?_)
          · refine WJ.ci 204 hp rfl rfl rfl rfl rfl rfl rfl rfl rfl (fun hc20 hp => ?_) (fun hc20 hp => ?_)
            · obtain ⟨s25, e25, hp⟩ := bindS hp
              refine WJ.hd (v := .string (bs s25)) 204 rfl rfl rfl rfl (fun ids H' fr => opD_sh rfl (evV_eq _ _ _ _ _ rfl) (evV_eq _ _ _ _ _ rfl) (sliceD_h us9 e25)) rfl ?_
              obtain ⟨s27, e27, hp⟩ := bindS hp
              refine WJ.adv 2 rfl ?_
              rw [enc_eq, Option.some.inj e27]
              refine WJ.ci 200 hp rfl rfl rfl rfl rfl rfl (opD_streq rfl rfl rfl) rfl rfl (fun hc28 hp => ?_) (fun hc28 hp => ?_)
              · subst hK17
                subst hK16
                obtain rfl := endS (show some _ = some r from hp)
                exact WJ.rt 208 rfl rfl rfl (fun ids H' fr => ⟨fr.ext0, rfl⟩)
              · exact WJ.goto 4 (j17 () hp) rfl rfl (by exact trivial) rfl rfl rfl
            · exact WJ.goto 12 (j17 () hp) rfl rfl (by exact trivial) rfl rfl rfl
          · exact WJ.goto 17 (j17 () hp) rfl rfl (by exact trivial) rfl rfl rfl
      · exact WJ.goto 5 (j16 B2 hp) rfl rfl (by exact trivial) rfl rfl rfl
/-! 41 tipstaff/tipstaffref03.plain -/
def f41 (x0 : Int) : Option Bool :=
  if x0 ≥ 32 then
    if x0 ≤ 126 then
      if x0 = 34 then
        some false
      else
        (some (x0 != 92)).bind fun t15 =>
        some t15
    else
      some false
  else
    some false
set_option maxRecDepth 20000 in
theorem f41_ok {H : Hp} {x0 : Int} {r : Bool} (hp : f41 x0 = some r) :
    SCall Tryz.prog 41 [.int .u8 x0] H (Ret fun v H' => Ext H H' ∧ R_4 r H.next H' v) := by
  unfold f41 at hp
  replace hp := topS hp
  refine SCall.g Tryz.func41 rfl rfl rfl rfl rfl (l := [(0, .v (.int .u8 x0))]) (fun _ => rfl) (fun B abB => ?_)
  refine WJ.ci 207 hp rfl rfl rfl rfl rfl rfl rfl rfl rfl (fun hc4 hp => ?_) (fun hc4 hp => ?_)
  · refine WJ.ci 202 hp rfl rfl rfl rfl rfl rfl rfl rfl rfl (fun hc7 hp => ?_) (fun hc7 hp => ?_)
    · refine WJ.cn 203 hp rfl rfl rfl rfl rfl rfl rfl rfl rfl (fun hc11 hp => ?_) (fun hc11 hp => ?_)
      · obtain ⟨t15, e15, hp⟩ := bindS hp
        refine WJ.cv 203 (b := t15) (H0 := ⟨.nil, 0, 0⟩) rfl rfl rfl rfl rfl rfl (by rw [← endS e15]; exact rfl) rfl ?_
        obtain rfl := endS (show some _ = some r from hp)
        exact WJ.rt 203 rfl rfl rfl (fun ids H' fr => ⟨fr.ext0, rfl⟩)
      · obtain rfl := endS (show some _ = some r from hp)
        exact WJ.rt 207 rfl rfl rfl (fun ids H' fr => ⟨fr.ext0, rfl⟩)
    · obtain rfl := endS (show some _ = some r from hp)
      exact WJ.rt 211 rfl rfl rfl (fun ids H' fr => ⟨fr.ext0, rfl⟩)
  · obtain rfl := endS (show some _ = some r from hp)
    exact WJ.rt 214 rfl rfl rfl (fun ids H' fr => ⟨fr.ext0, rfl⟩)
/-! 15 tipstaff/tipstaffref03.Quote -/
def f15_l1 (k : Nat) (x0 : List UInt8) : Nat → (List UInt8) → Int → Option ((List UInt8))
  | 0, _, _ => none
  | n + 1, x3, x4 =>
    if x4 < (x0.length : Int) then
      (sub x0 x4 (x0.length : Int)).bind fun s12 =>
      (f40 k s12).bind fun t13 =>
      if t13 > 0 then
        (sub x0 x4 (IntKind.i64.wrap (x4 + t13))).bind fun s47 =>
        (scat x3 s47).bind fun s48 =>
        f15_l1 k x0 n s48 (IntKind.i64.wrap (x4 + t13))
      else
        ((rd x0 x4).bind fun b55 =>
        if ((b55.toNat : Nat) : Int) = 34 then
          (scat x3 ([92] : List UInt8)).bind fun s64 =>
          (sub x0 x4 (IntKind.i64.wrap (x4 + 1))).bind fun s69 =>
          (scat s64 s69).bind fun s70 =>
          some (s70)
        else
          (rd x0 x4).bind fun b60 =>
          if ((b60.toNat : Nat) : Int) = 92 then
            (scat x3 ([92] : List UInt8)).bind fun s64 =>
            (sub x0 x4 (IntKind.i64.wrap (x4 + 1))).bind fun s69 =>
            (scat s64 s69).bind fun s70 =>
            some (s70)
          else
            (rd x0 x4).bind fun b74 =>
            (f41 ((b74.toNat : Nat) : Int)).bind fun t75 =>
            if t75 then
              (sub x0 x4 (IntKind.i64.wrap (x4 + 1))).bind fun s81 =>
              (scat x3 s81).bind fun s82 =>
              some (s82)
            else
              (scat x3 ([92, 120] : List UInt8)).bind fun s15 =>
              (rd x0 x4).bind fun b18 =>
              (rd x0 x4).bind fun b22 =>
              (sub ([48, 49, 50, 51, 52, 53, 54, 55, 56, 57, 97, 98, 99, 100, 101, 102] : List UInt8) (IntKind.u8.wrap (((b18.toNat : Nat) : Int).tdiv 16)) (IntKind.u8.wrap ((IntKind.u8.wrap (((b22.toNat : Nat) : Int).tdiv 16)) + 1))).bind fun s25 =>
              (scat s15 s25).bind fun s26 =>
              (rd x0 x4).bind fun b29 =>
              (rd x0 x4).bind fun b33 =>
              (sub ([48, 49, 50, 51, 52, 53, 54, 55, 56, 57, 97, 98, 99, 100, 101, 102] : List UInt8) (((b29.toNat : Nat) : Int).tmod 16) (IntKind.u8.wrap ((((b33.toNat : Nat) : Int).tmod 16) + 1))).bind fun s36 =>
              (scat s26 s36).bind fun s37 =>
              some (s37)).bind fun x3_19 =>
          f15_l1 k x0 n x3_19 (IntKind.i64.wrap (x4 + 1))
    else
      some (x3)

def f15 (k : Nat) (x0 : List UInt8) : Option (List UInt8) :=
  (f15_l1 k x0 k ([34] : List UInt8) 0).bind fun x3_18 =>
    (scat x3_18 ([34] : List UInt8)).bind fun s86 =>
    some s86
set_option maxRecDepth 20000 in
theorem f15_ok {k : Nat} {H : Hp} {x0 : List UInt8} {r : List UInt8} (hp : f15 k x0 = some r) :
    SCall Tryz.prog 15 [.string (bs x0)] H (Ret fun v H' => Ext H H' ∧ R_9 r H.next H' v) := by
  unfold f15 at hp
  replace hp := topS hp
  refine SCall.g Tryz.func15 rfl rfl rfl rfl rfl (l := [(0, .v (.string (bs x0)))]) (fun _ => rfl) (fun B abB => ?_)
  refine WJ.adv 14 rfl ?_
  obtain ⟨K18, hK18, hp⟩ : ∃ K, K = _ ∧ Option.bind _ K = some r := ⟨_, rfl, cutS hp⟩
  refine WJ.cut 2 (α := (List UInt8) × Hp) (fun y => [(3, .v (.string (bs y.1)))]) (fun y => []) (fun y => []) (fun y => y.2) (fun y => K18 (y.1) = some r) ?_ (fun j18 => ?_)
  · rintro ⟨x3_18, B5⟩ hp
    subst hK18
    show WJ _ _ _ B5 [] _ _ ⟨[(3, .v (.string (bs x3_18)))], [], true, 0⟩
    obtain ⟨s86, e86, hp⟩ := bindS hp
    refine WJ.hd (v := .string (bs s86)) 203 rfl rfl rfl rfl (fun ids H' fr => opD_bin rfl (evV_eq _ _ _ _ _ rfl) (evV_eq _ _ _ _ _ rfl) (bin_sadd e86)) rfl ?_
    obtain rfl := endS (show some _ = some r from hp)
    exact WJ.rt 202 rfl rfl rfl (fun ids H' fr => ⟨fr.ext0, rfl⟩)
  · refine WJ.lp 200 (α := Nat × (List UInt8) × Int × Hp) (fun y => [(0, .v (.string (bs x0))), (3, .v (.string (bs y.2.1))), (4, .v (.int .i64 y.2.2.1))]) (fun y => []) (fun y => []) (fun y => y.2.2.2) (fun y => y.1) (fun y => Option.bind (f15_l1 k x0 y.1 y.2.1 y.2.2.1) K18 = some r) (k, ([34] : List UInt8), 0, B) rfl hp (by exact ⟨rfl, rfl, rfl, trivial⟩) rfl rfl rfl ?_
    rintro ⟨n, x3, x4, B1⟩ hp ih18
    show WJ _ _ _ B1 [] _ _ ⟨[(0, .v (.string (bs x0))), (3, .v (.string (bs x3))), (4, .v (.int .i64 x4))], [], true, 0⟩
    replace hp : Option.bind (f15_l1 k x0 n x3 x4) K18 = some r := hp
    cases n with
    | zero => rw [f15_l1] at hp; exact (noS hp).elim
    | succ n =>
      rw [f15_l1] at hp
      refine WJ.ci 206 hp rfl rfl rfl rfl rfl rfl rfl rfl rfl (fun hc9 hp => ?_) (fun hc9 hp => ?_)
      · obtain ⟨s12, e12, hp⟩ := bindS hp
        refine WJ.hd (v := .string (bs s12)) 208 rfl rfl rfl rfl (fun ids H' fr => opD_sl rfl (evV_eq _ _ _ _ _ rfl) (evV_eq _ _ _ _ _ rfl) (sliceD_l us9 e12)) rfl ?_
        obtain ⟨t13, e13, hp⟩ := bindS hp
        refine WJ.cl 200 (R := R_3 t13) (fun hm h k => R_3.mono hm h k) rfl (fun ids H' fr => f40_ok e13) ?_
        rintro v B2 ⟨abB2, ivB2⟩ rfl
        refine ⟨_, rfl, ?_⟩
        refine WJ.ci 207 hp rfl rfl rfl rfl rfl rfl rfl rfl rfl (fun hc40 hp => ?_) (fun hc40 hp => ?_)
        · obtain ⟨s47, e47, hp⟩ := bindS hp
          refine WJ.hd (v := .string (bs s47)) 211 rfl rfl rfl rfl (fun ids H' fr => opD_slh rfl (evV_eq _ _ _ _ _ rfl) (evV_eq _ _ _ _ _ rfl) (evV_eq _ _ _ _ _ rfl) (sliceD_lh us9 e47)) rfl ?_
          obtain ⟨s48, e48, hp⟩ := bindS hp
          refine WJ.hd (v := .string (bs s48)) 200 rfl rfl rfl rfl (fun ids H' fr => opD_bin rfl (evV_eq _ _ _ _ _ rfl) (evV_eq _ _ _ _ _ rfl) (bin_sadd e48)) rfl ?_
          exact WJ.ag 210 rfl (by exact ⟨rfl, rfl, rfl, trivial⟩) rfl rfl rfl (ih18 (n, s48, IntKind.i64.wrap (x4 + t13), B2) hp (Nat.lt_succ_self _))
        · refine WJ.adv 4 rfl ?_
          obtain ⟨K19, hK19, hp⟩ : ∃ K, K = _ ∧ Option.bind _ K = some r := ⟨_, rfl, cutS hp⟩
          refine WJ.cut 3 (α := (List UInt8) × Hp) (fun y => [(0, .v (.string (bs x0))), (3, .v (.string (bs y.1))), (4, .v (.int .i64 x4))]) (fun y => []) (fun y => []) (fun y => y.2) (fun y => K19 ((y.1)) = some r) ?_ (fun j19 => ?_)
          · rintro ⟨x3_19, B4⟩ hp
            subst hK19
            show WJ _ _ _ B4 [] _ _ ⟨[(0, .v (.string (bs x0))), (3, .v (.string (bs x3_19))), (4, .v (.int .i64 x4))], [], true, 0⟩
            exact WJ.ag 206 rfl (by exact ⟨rfl, rfl, rfl, trivial⟩) rfl rfl rfl (ih18 (n, x3_19, IntKind.i64.wrap (x4 + 1), B4) hp (Nat.lt_succ_self _))
          · obtain ⟨b55, e55, hp⟩ := bindS hp
            refine WJ.hd (v := .int .u8 ((b55.toNat : Nat) : Int)) 203 rfl rfl rfl rfl (fun ids H' fr => opD_index rfl (evV_eq _ _ _ _ _ rfl) (evV_eq _ _ _ _ _ rfl) (sidx us9 e55)) rfl ?_
            refine WJ.ci 200 hp rfl rfl rfl rfl rfl rfl rfl rfl rfl (fun hc56 hp => ?_) (fun hc56 hp => ?_)
            · obtain ⟨s64, e64, hp⟩ := bindS hp
              refine WJ.hd (v := .string (bs s64)) 211 rfl rfl rfl rfl (fun ids H' fr => opD_bin rfl (evV_eq _ _ _ _ _ rfl) (evV_eq _ _ _ _ _ rfl) (bin_sadd e64)) rfl ?_
              obtain ⟨s69, e69, hp⟩ := bindS hp
              refine WJ.hd (v := .string (bs s69)) 204 rfl rfl rfl rfl (fun ids H' fr => opD_slh rfl (evV_eq _ _ _ _ _ rfl) (evV_eq _ _ _ _ _ rfl) (evV_eq _ _ _ _ _ rfl) (sliceD_lh us9 e69)) rfl ?_
              obtain ⟨s70, e70, hp⟩ := bindS hp
              refine WJ.hd (v := .string (bs s70)) 200 rfl rfl rfl rfl (fun ids H' fr => opD_bin rfl (evV_eq _ _ _ _ _ rfl) (evV_eq _ _ _ _ _ rfl) (bin_sadd e70)) rfl ?_
              exact WJ.goto 3 (j19 (s70, B2) hp) rfl rfl (by exact ⟨rfl, rfl, rfl, trivial⟩) rfl rfl rfl
            · obtain ⟨b60, e60, hp⟩ := bindS hp
              refine WJ.hd (v := .int .u8 ((b60.toNat : Nat) : Int)) 203 rfl rfl rfl rfl (fun ids H' fr => opD_index rfl (evV_eq _ _ _ _ _ rfl) (evV_eq _ _ _ _ _ rfl) (sidx us9 e60)) rfl ?_
              refine WJ.ci 200 hp rfl rfl rfl rfl rfl rfl rfl rfl rfl (fun hc61 hp => ?_) (fun hc61 hp => ?_)
              · obtain ⟨s64, e64, hp⟩ := bindS hp
                refine WJ.hd (v := .string (bs s64)) 206 rfl rfl rfl rfl (fun ids H' fr => opD_bin rfl (evV_eq _ _ _ _ _ rfl) (evV_eq _ _ _ _ _ rfl) (bin_sadd e64)) rfl ?_
                obtain ⟨s69, e69, hp⟩ := bindS hp
                refine WJ.hd (v := .string (bs s69)) 204 rfl rfl rfl rfl (fun ids H' fr => opD_slh rfl (evV_eq _ _ _ _ _ rfl) (evV_eq _ _ _ _ _ rfl) (evV_eq _ _ _ _ _ rfl) (sliceD_lh us9 e69)) rfl ?_
                obtain ⟨s70, e70, hp⟩ := bindS hp
                refine WJ.hd (v := .string (bs s70)) 200 rfl rfl rfl rfl (fun ids H' fr => opD_bin rfl (evV_eq _ _ _ _ _ rfl) (evV_eq _ _ _ _ _ rfl) (bin_sadd e70)) rfl ?_
                exact WJ.goto 3 (j19 (s70, B2) hp) rfl rfl (by exact ⟨rfl, rfl, rfl, trivial⟩) rfl rfl rfl
              · obtain ⟨b74, e74, hp⟩ := bindS hp
                refine WJ.hd (v := .int .u8 ((b74.toNat : Nat) : Int)) 208 rfl rfl rfl rfl (fun ids H' fr => opD_index rfl (evV_eq _ _ _ _ _ rfl) (evV_eq _ _ _ _ _ rfl) (sidx us9 e74)) rfl ?_
                obtain ⟨t75, e75, hp⟩ := bindS hp
                refine WJ.cl 200 (R := R_4 t75) (fun hm h k => R_4.mono hm h k) rfl (fun ids H' fr => f41_ok e75) ?_
                rintro v B3 ⟨abB3, ivB3⟩ rfl
                refine ⟨_, rfl, ?_⟩
                cases t75
                · replace hp := (itS hp).2 Bool.false_ne_true
                  refine WJ.dr 203 rfl gmix (by kernel_rfl) (by kernel_rfl) rfl ?_
                  obtain ⟨s15, e15, hp⟩ := bindS hp
                  refine WD.hd (v := .string (bs s15)) rfl rfl rfl rfl (fun _ _ _ _ _ => side_no) (fun ids H' fr => opD_bin rfl (evV_eq _ _ _ _ _ rfl) (evV_eq _ _ _ _ _ rfl) (bin_sadd e15)) rfl ?_
                  obtain ⟨b18, e18, hp⟩ := bindS hp
                  refine WD.hd (v := .int .u8 ((b18.toNat : Nat) : Int)) rfl rfl rfl rfl (fun _ _ _ _ _ => side_no) (fun ids H' fr => opD_index rfl (evV_eq _ _ _ _ _ rfl) (evV_eq _ _ _ _ _ rfl) (sidx us9 e18)) rfl ?_
                  refine WD.hd (v := .int .u8 (IntKind.u8.wrap (((b18.toNat : Nat) : Int).tdiv 16))) rfl rfl rfl rfl (fun _ _ _ _ _ => side_no) (fun ids H' fr => opD_bin rfl (evV_eq _ _ _ _ _ rfl) (evV_eq _ _ _ _ _ rfl) (bin_quo (by decide))) rfl ?_
                  obtain ⟨b22, e22, hp⟩ := bindS hp
                  refine WD.hd (v := .int .u8 ((b22.toNat : Nat) : Int)) rfl rfl rfl rfl (fun _ _ _ _ _ => side_no) (fun ids H' fr => opD_index rfl (evV_eq _ _ _ _ _ rfl) (evV_eq _ _ _ _ _ rfl) (sidx us9 e22)) rfl ?_
                  refine WD.hd (v := .int .u8 (IntKind.u8.wrap (((b22.toNat : Nat) : Int).tdiv 16))) rfl rfl rfl rfl (fun _ _ _ _ _ => side_no) (fun ids H' fr => opD_bin rfl (evV_eq _ _ _ _ _ rfl) (evV_eq _ _ _ _ _ rfl) (bin_quo (by decide))) rfl ?_
                  obtain ⟨s25, e25, hp⟩ := bindS hp
                  refine WD.hd (v := .string (bs s25)) rfl rfl rfl rfl (fun _ _ _ _ _ => side_no) (fun ids H' fr => opD_slh rfl (evV_eq _ _ _ _ _ rfl) (evV_eq _ _ _ _ _ rfl) (evV_eq _ _ _ _ _ rfl) (sliceD_lh us9 e25)) rfl ?_
                  obtain ⟨s26, e26, hp⟩ := bindS hp
                  refine WD.hd (v := .string (bs s26)) rfl rfl rfl rfl (fun _ _ _ _ _ => side_no) (fun ids H' fr => opD_bin rfl (evV_eq _ _ _ _ _ rfl) (evV_eq _ _ _ _ _ rfl) (bin_sadd e26)) rfl ?_
                  obtain ⟨b29, e29, hp⟩ := bindS hp
                  refine WD.hd (v := .int .u8 ((b29.toNat : Nat) : Int)) rfl rfl rfl rfl (fun _ _ _ _ _ => side_no) (fun ids H' fr => opD_index rfl (evV_eq _ _ _ _ _ rfl) (evV_eq _ _ _ _ _ rfl) (sidx us9 e29)) rfl ?_
                  refine WD.hd (v := .int .u8 (((b29.toNat : Nat) : Int).tmod 16)) rfl rfl rfl rfl (fun _ _ _ _ _ => side_no) (fun ids H' fr => opD_bin rfl (evV_eq _ _ _ _ _ rfl) (evV_eq _ _ _ _ _ rfl) (bin_rem (by decide))) rfl ?_
                  obtain ⟨b33, e33, hp⟩ := bindS hp
                  refine WD.hd (v := .int .u8 ((b33.toNat : Nat) : Int)) rfl rfl rfl rfl (fun _ _ _ _ _ => side_no) (fun ids H' fr => opD_index rfl (evV_eq _ _ _ _ _ rfl) (evV_eq _ _ _ _ _ rfl) (sidx us9 e33)) rfl ?_
                  refine WD.hd (v := .int .u8 (((b33.toNat : Nat) : Int).tmod 16)) rfl rfl rfl rfl (fun _ _ _ _ _ => side_no) (fun ids H' fr => opD_bin rfl (evV_eq _ _ _ _ _ rfl) (evV_eq _ _ _ _ _ rfl) (bin_rem (by decide))) rfl ?_
                  obtain ⟨s36, e36, hp⟩ := bindS hp
                  refine WD.hd (v := .string (bs s36)) rfl rfl rfl rfl (fun _ _ _ _ _ => side_no) (fun ids H' fr => opD_slh rfl (evV_eq _ _ _ _ _ rfl) (evV_eq _ _ _ _ _ rfl) (evV_eq _ _ _ _ _ rfl) (sliceD_lh us9 e36)) rfl ?_
                  obtain ⟨s37, e37, hp⟩ := bindS hp
                  refine WD.hd (v := .string (bs s37)) rfl rfl rfl rfl (fun _ _ _ _ _ => side_no) (fun ids H' fr => opD_bin rfl (evV_eq _ _ _ _ _ rfl) (evV_eq _ _ _ _ _ rfl) (bin_sadd e37)) rfl ?_
                  refine WD.done rfl ?_
                  exact WJ.goto 1 (j19 (s37, B3) hp) rfl rfl (by exact ⟨rfl, rfl, rfl, trivial⟩) rfl rfl rfl
                · replace hp := (itS hp).1 rfl
                  obtain ⟨s81, e81, hp⟩ := bindS hp
                  refine WJ.hd (v := .string (bs s81)) 209 rfl rfl rfl rfl (fun ids H' fr => opD_slh rfl (evV_eq _ _ _ _ _ rfl) (evV_eq _ _ _ _ _ rfl) (evV_eq _ _ _ _ _ rfl) (sliceD_lh us9 e81)) rfl ?_
                  obtain ⟨s82, e82, hp⟩ := bindS hp
                  refine WJ.hd (v := .string (bs s82)) 200 rfl rfl rfl rfl (fun ids H' fr => opD_bin rfl (evV_eq _ _ _ _ _ rfl) (evV_eq _ _ _ _ _ rfl) (bin_sadd e82)) rfl ?_
                  exact WJ.goto 3 (j19 (s82, B3) hp) rfl rfl (by exact ⟨rfl, rfl, rfl, trivial⟩) rfl rfl rfl
      · exact WJ.goto 3 (j18 (x3, B1) hp) rfl rfl (by exact ⟨rfl, trivial⟩) rfl rfl rfl
/-! 49 tipstaff/tipstaffref03.form -/
def f49 (k : Nat) (x0 : RowWord) : Option (List UInt8) :=
  if x0.Kind = 1 then
    some x0.Name
  else
    if x0.Kind = 2 then
      (f63 k x0.N).bind fun t13 =>
      some t13
    else
      (f15 k x0.Name).bind fun t16 =>
      some t16
set_option maxRecDepth 20000 in
theorem f49_ok {k : Nat} {H : Hp} {x0 : RowWord} {r : List UInt8} (hp : f49 k x0 = some r) :
    SCall Tryz.prog 49 [.agg ⟨[.int .i64 x0.At, .int .i64 x0.Kind, .string (bs x0.Name), .int .i64 x0.N]⟩] H (Ret fun v H' => Ext H H' ∧ R_9 r H.next H' v) := by
  obtain ⟨x0_At, x0_Kind, x0_Name, x0_N⟩ := x0
  unfold f49 at hp
  replace hp := topS hp
  refine SCall.g Tryz.func49 rfl rfl rfl rfl rfl (l := [(0, .v (.agg ⟨[.int .i64 x0_At, .int .i64 x0_Kind, .string (bs x0_Name), .int .i64 x0_N]⟩))]) (fun _ => rfl) (fun B abB => ?_)
  refine WJ.ci 214 hp rfl rfl rfl rfl rfl rfl rfl rfl rfl (fun hc6 hp => ?_) (fun hc6 hp => ?_)
  · obtain rfl := endS (show some _ = some r from hp)
    exact WJ.rt 209 rfl rfl rfl (fun ids H' fr => ⟨fr.ext0, rfl⟩)
  · refine WJ.ci 205 hp rfl rfl rfl rfl rfl rfl rfl rfl rfl (fun hc10 hp => ?_) (fun hc10 hp => ?_)
    · obtain ⟨t13, e13, hp⟩ := bindS hp
      refine WJ.cl 207 (R := R_9 t13) (fun hm h k => R_9.mono hm h k) rfl (fun ids H' fr => f63_ok e13) ?_
      rintro v B1 ⟨abB1, ivB1⟩ rfl
      refine ⟨_, rfl, ?_⟩
      obtain rfl := endS (show some _ = some r from hp)
      exact WJ.rt 202 rfl rfl rfl (fun ids H' fr => ⟨fr.ext0, rfl⟩)
    · obtain ⟨t16, e16, hp⟩ := bindS hp
      refine WJ.cl 209 (R := R_9 t16) (fun hm h k => R_9.mono hm h k) rfl (fun ids H' fr => f15_ok e16) ?_
      rintro v B2 ⟨abB2, ivB2⟩ rfl
      refine ⟨_, rfl, ?_⟩
      obtain rfl := endS (show some _ = some r from hp)
      exact WJ.rt 202 rfl rfl rfl (fun ids H' fr => ⟨fr.ext0, rfl⟩)
/-! 25 tipstaff/tipstaffref03.Text -/
def f25_l3 (k : Nat) (t19_Words : List RowWord) : Nat → (List UInt8) → Int → Option ((List UInt8))
  | 0, _, _ => none
  | n + 1, x9, x10 =>
    if x10 < (t19_Words.length : Int) then
      (if x10 > 0 then
        (scat x9 ([32] : List UInt8)).bind fun s48 =>
        some (s48)
      else
        some (x9)).bind fun x9_23 =>
        (rd t19_Words x10).bind fun t52 =>
        (f49 k t52).bind fun t54 =>
        (scat x9_23 t54).bind fun s55 =>
        f25_l3 k t19_Words n s55 (IntKind.i64.wrap (x10 + 1))
    else
      some (x9)

def f25_l2 (k : Nat) (t19_Words : List RowWord) : Nat → Int → Option (((List UInt8) × Int) ⊕ (Unit))
  | 0, _ => none
  | n + 1, x7 =>
    if x7 < (t19_Words.length : Int) then
      (rd t19_Words x7).bind fun t33 =>
      (f23 k t33).bind fun t35 =>
      if t35 = 0 then
        f25_l2 k t19_Words n (IntKind.i64.wrap (x7 + 1))
      else
        some (Sum.inl ((([] : List UInt8), t35) : (List UInt8) × Int))
    else
      some (Sum.inr ())

def f25_l1 (k : Nat) (x0 : List Row) : Nat → (List UInt8) → Int → Option (((List UInt8) × Int) ⊕ ((List UInt8)))
  | 0, _, _ => none
  | n + 1, x4, x5 =>
    if x5 < (x0.length : Int) then
      (rd x0 x5).bind fun t19 =>
      if (t19.Words.length : Int) = 0 then
        some (Sum.inl ((([] : List UInt8), 3) : (List UInt8) × Int))
      else
        (f25_l2 k t19.Words k 0).bind fun s => match s with
          | .inl st => some (Sum.inl st)
          | .inr _ => 
            (f25_l3 k t19.Words k ([] : List UInt8) 0).bind fun x9_22 =>
              if (x9_22.length : Int) > 1000 then
                some (Sum.inl ((([] : List UInt8), 4) : (List UInt8) × Int))
              else
                if (IntKind.i64.wrap ((IntKind.i64.wrap ((x4.length : Int) + (x9_22.length : Int))) + 1)) > 20000 then
                  some (Sum.inl ((([] : List UInt8), 4) : (List UInt8) × Int))
                else
                  (scat x4 x9_22).bind fun s70 =>
                  (scat s70 ([10] : List UInt8)).bind fun s71 =>
                  f25_l1 k x0 n s71 (IntKind.i64.wrap (x5 + 1))
    else
      some (Sum.inr x4)

def f25 (k : Nat) (x0 : List Row) : Option ((List UInt8) × Int) :=
  (f25_l1 k x0 k ([] : List UInt8) 0).bind fun s => match s with
    | .inl st => some st
    | .inr x4_20 => 
      some (x4_20, 0)
set_option maxRecDepth 20000 in
theorem f25_ok {k : Nat} {H : Hp} {a_x0 : Option Addr} {c_x0 : Nat} {x0 : List Row} {r : (List UInt8) × Int} (g_x0 : SlF 0 H RowC a_x0 c_x0 x0) (hp : f25 k x0 = some r) :
    SCall Tryz.prog 25 [.slice a_x0 x0.length c_x0] H (Ret fun v H' => Ext H H' ∧ R_9_24 r H.next H' v) := by
  unfold f25 at hp
  replace hp := topS hp
  refine SCall.g Tryz.func25 rfl rfl rfl rfl rfl (l := [(0, .v (.slice a_x0 x0.length c_x0))]) (fun _ => rfl) (fun B abB => ?_)
  refine WJ.adv 15 rfl ?_
  obtain ⟨K20, hK20, hp⟩ : ∃ K, K = _ ∧ Option.bind _ K = some r := ⟨_, rfl, cutS hp⟩
  refine WJ.cut 2 (α := (List UInt8) × Hp) (fun y => [(4, .v (.string (bs y.1)))]) (fun y => []) (fun y => []) (fun y => y.2) (fun y => K20 (Sum.inr y.1) = some r) ?_ (fun j20 => ?_)
  · rintro ⟨x4_20, B8⟩ hp
    subst hK20
    show WJ _ _ _ B8 [] _ _ ⟨[(4, .v (.string (bs x4_20)))], [], true, 0⟩
    obtain rfl := endS (show some _ = some r from hp)
    exact WJ.rt 206 rfl rfl rfl (fun ids H' fr => ⟨fr.ext0, rfl⟩)
  · refine WJ.lp 200 (α := Nat × (List UInt8) × Int × Hp) (fun y => [(0, .v (.slice a_x0 x0.length c_x0)), (4, .v (.string (bs y.2.1))), (5, .v (.int .i64 y.2.2.1))]) (fun y => []) (fun y => []) (fun y => y.2.2.2) (fun y => y.1) (fun y => Option.bind (f25_l1 k x0 y.1 y.2.1 y.2.2.1) K20 = some r) (k, ([] : List UInt8), 0, B) rfl hp (by exact ⟨rfl, rfl, rfl, trivial⟩) rfl rfl rfl ?_
    rintro ⟨n, x4, x5, B1⟩ hp ih20
    show WJ _ _ _ B1 [] _ _ ⟨[(0, .v (.slice a_x0 x0.length c_x0)), (4, .v (.string (bs x4))), (5, .v (.int .i64 x5))], [], true, 0⟩
    replace hp : Option.bind (f25_l1 k x0 n x4 x5) K20 = some r := hp
    cases n with
    | zero => rw [f25_l1] at hp; exact (noS hp).elim
    | succ n =>
      rw [f25_l1] at hp
      refine WJ.ci 206 hp rfl rfl rfl rfl rfl rfl rfl rfl rfl (fun hc14 hp => ?_) (fun hc14 hp => ?_)
      · obtain ⟨⟨t19_At, t19_Words⟩, e19, hp⟩ := bindS hp
        obtain ⟨b19, o19, cs19, i19, ⟨a_t19_Words, c_t19_Words, rfl, g_t19_Words⟩, p19⟩ := g_x0.at e19 u23 sz45
        refine WJ.hd (v := .pointer (some ⟨b19, o19, none⟩)) 209 rfl rfl rfl rfl (fun ids H' fr => opD_indexAddr rfl (evV_eq _ _ _ _ _ rfl) (evV_eq _ _ _ _ _ rfl) (i19 _)) rfl ?_
        refine WJ.hd (v := .slice a_t19_Words t19_Words.length c_t19_Words) 201 rfl rfl rfl rfl (fun ids H' fr => opD_load rfl (evV_eq _ _ _ _ _ rfl) ((p19.mono (Nat.zero_le _) fr.ext0.abv).load (d := 1) ag43 rfl)) rfl ?_
        refine WJ.ci 207 hp rfl rfl rfl rfl rfl rfl rfl rfl rfl (fun hc24 hp => ?_) (fun hc24 hp => ?_)
        · subst hK20
          obtain rfl := endS (show some _ = some r from hp)
          exact WJ.rt 207 rfl rfl rfl (fun ids H' fr => ⟨fr.ext0, rfl⟩)
        · refine WJ.adv 9 rfl ?_
          obtain ⟨K21, hK21, hp⟩ : ∃ K, K = _ ∧ Option.bind _ K = some r := ⟨_, rfl, cutS hp⟩
          refine WJ.cut 2 (α := Hp) (fun y => [(0, .v (.slice a_x0 x0.length c_x0)), (4, .v (.string (bs x4))), (5, .v (.int .i64 x5)), (6, .v (.slice a_t19_Words t19_Words.length c_t19_Words))]) (fun y => []) (fun y => []) (fun y => y) (fun y => K21 (Sum.inr ()) = some r) ?_ (fun j21 => ?_)
          · rintro B4 hp
            subst hK21
            show WJ _ _ _ B4 [] _ _ ⟨[(0, .v (.slice a_x0 x0.length c_x0)), (4, .v (.string (bs x4))), (5, .v (.int .i64 x5)), (6, .v (.slice a_t19_Words t19_Words.length c_t19_Words))], [], true, 0⟩
            refine WJ.adv 10 rfl ?_
            obtain ⟨K22, hK22, hp⟩ : ∃ K, K = _ ∧ Option.bind _ K = some r := ⟨_, rfl, cutS hp⟩
            refine WJ.cut 2 (α := (List UInt8) × Hp) (fun y => [(0, .v (.slice a_x0 x0.length c_x0)), (4, .v (.string (bs x4))), (5, .v (.int .i64 x5)), (9, .v (.string (bs y.1)))]) (fun y => []) (fun y => []) (fun y => y.2) (fun y => K22 (y.1) = some r) ?_ (fun j22 => ?_)
            · rintro ⟨x9_22, B7⟩ hp
              subst hK22
              show WJ _ _ _ B7 [] _ _ ⟨[(0, .v (.slice a_x0 x0.length c_x0)), (4, .v (.string (bs x4))), (5, .v (.int .i64 x5)), (9, .v (.string (bs x9_22)))], [], true, 0⟩
              refine WJ.ci 205 hp rfl rfl rfl rfl rfl rfl rfl rfl rfl (fun hc58 hp => ?_) (fun hc58 hp => ?_)
              · subst hK20
                obtain rfl := endS (show some _ = some r from hp)
                exact WJ.rt 216 rfl rfl rfl (fun ids H' fr => ⟨fr.ext0, rfl⟩)
              · refine WJ.ci 207 hp rfl rfl rfl rfl rfl rfl rfl rfl rfl (fun hc66 hp => ?_) (fun hc66 hp => ?_)
                · subst hK20
                  obtain rfl := endS (show some _ = some r from hp)
                  exact WJ.rt 208 rfl rfl rfl (fun ids H' fr => ⟨fr.ext0, rfl⟩)
                · obtain ⟨s70, e70, hp⟩ := bindS hp
                  refine WJ.hd (v := .string (bs s70)) 207 rfl rfl rfl rfl (fun ids H' fr => opD_bin rfl (evV_eq _ _ _ _ _ rfl) (evV_eq _ _ _ _ _ rfl) (bin_sadd e70)) rfl ?_
                  obtain ⟨s71, e71, hp⟩ := bindS hp
                  refine WJ.hd (v := .string (bs s71)) 200 rfl rfl rfl rfl (fun ids H' fr => opD_bin rfl (evV_eq _ _ _ _ _ rfl) (evV_eq _ _ _ _ _ rfl) (bin_sadd e71)) rfl ?_
                  exact WJ.ag 208 rfl (by exact ⟨rfl, rfl, rfl, trivial⟩) rfl rfl rfl (ih20 (n, s71, IntKind.i64.wrap (x5 + 1), B7) hp (Nat.lt_succ_self _))
            · refine WJ.lp 200 (α := Nat × (List UInt8) × Int × Hp) (fun y => [(0, .v (.slice a_x0 x0.length c_x0)), (4, .v (.string (bs x4))), (5, .v (.int .i64 x5)), (6, .v (.slice a_t19_Words t19_Words.length c_t19_Words)), (9, .v (.string (bs y.2.1))), (10, .v (.int .i64 y.2.2.1))]) (fun y => []) (fun y => []) (fun y => y.2.2.2) (fun y => y.1) (fun y => Option.bind (f25_l3 k t19_Words y.1 y.2.1 y.2.2.1) K22 = some r) (k, ([] : List UInt8), 0, B4) rfl hp (by exact ⟨rfl, rfl, rfl, rfl, rfl, rfl, trivial⟩) rfl rfl rfl ?_
              rintro ⟨n22, x9, x10, B5⟩ hp ih22
              show WJ _ _ _ B5 [] _ _ ⟨[(0, .v (.slice a_x0 x0.length c_x0)), (4, .v (.string (bs x4))), (5, .v (.int .i64 x5)), (6, .v (.slice a_t19_Words t19_Words.length c_t19_Words)), (9, .v (.string (bs x9))), (10, .v (.int .i64 x10))], [], true, 0⟩
              replace hp : Option.bind (f25_l3 k t19_Words n22 x9 x10) K22 = some r := hp
              cases n22 with
              | zero => rw [f25_l3] at hp; exact (noS hp).elim
              | succ n22 =>
                rw [f25_l3] at hp
                refine WJ.ci 206 hp rfl rfl rfl rfl rfl rfl rfl rfl rfl (fun hc42 hp => ?_) (fun hc42 hp => ?_)
                · refine WJ.adv 7 rfl ?_
                  obtain ⟨K23, hK23, hp⟩ : ∃ K, K = _ ∧ Option.bind _ K = some r := ⟨_, rfl, cutS hp⟩
                  refine WJ.cut 2 (α := (List UInt8)) (fun y => [(0, .v (.slice a_x0 x0.length c_x0)), (4, .v (.string (bs x4))), (5, .v (.int .i64 x5)), (6, .v (.slice a_t19_Words t19_Words.length c_t19_Words)), (9, .v (.string (bs y))), (10, .v (.int .i64 x10))]) (fun y => []) (fun y => []) (fun y => B5) (fun y => K23 ((y)) = some r) ?_ (fun j23 => ?_)
                  · rintro x9_23 hp
                    subst hK23
                    show WJ _ _ _ B5 [] _ _ ⟨[(0, .v (.slice a_x0 x0.length c_x0)), (4, .v (.string (bs x4))), (5, .v (.int .i64 x5)), (6, .v (.slice a_t19_Words t19_Words.length c_t19_Words)), (9, .v (.string (bs x9_23))), (10, .v (.int .i64 x10))], [], true, 0⟩
                    obtain ⟨⟨t52_At, t52_Kind, t52_Name, t52_N⟩, e52, hp⟩ := bindS hp
                    obtain ⟨b52, o52, cs52, i52, rfl, p52⟩ := g_t19_Words.at e52 u43 sz36
                    refine WJ.hd (v := .pointer (some ⟨b52, o52, none⟩)) 204 rfl rfl rfl rfl (fun ids H' fr => opD_indexAddr rfl (evV_eq _ _ _ _ _ rfl) (evV_eq _ _ _ _ _ rfl) (i52 _)) rfl ?_
                    refine WJ.hd (v := .agg ⟨[.int .i64 t52_At, .int .i64 t52_Kind, .string (bs t52_Name), .int .i64 t52_N]⟩) 200 rfl rfl rfl rfl (fun ids H' fr => opD_load rfl (evV_eq _ _ _ _ _ rfl) ((p52.mono (Nat.zero_le _) fr.ext0.abv).loadN (d := 0) ag36 sz36 rfl rfl)) rfl ?_
                    obtain ⟨t54, e54, hp⟩ := bindS hp
                    refine WJ.cl 200 (R := R_9 t54) (fun hm h k => R_9.mono hm h k) rfl (fun ids H' fr => f49_ok (x0 := (RowWord.mk t52_At t52_Kind t52_Name t52_N)) e54) ?_
                    rintro v B6 ⟨abB6, ivB6⟩ rfl
                    refine ⟨_, rfl, ?_⟩
                    obtain ⟨s55, e55, hp⟩ := bindS hp
                    refine WJ.hd (v := .string (bs s55)) 200 rfl rfl rfl rfl (fun ids H' fr => opD_bin rfl (evV_eq _ _ _ _ _ rfl) (evV_eq _ _ _ _ _ rfl) (bin_sadd e55)) rfl ?_
                    exact WJ.ag 208 rfl (by exact ⟨rfl, rfl, rfl, rfl, rfl, rfl, trivial⟩) rfl rfl rfl (ih22 (n22, s55, IntKind.i64.wrap (x10 + 1), B6) hp (Nat.lt_succ_self _))
                  · refine WJ.ci 202 hp rfl rfl rfl rfl rfl rfl rfl rfl rfl (fun hc46 hp => ?_) (fun hc46 hp => ?_)
                    · obtain ⟨s48, e48, hp⟩ := bindS hp
                      refine WJ.hd (v := .string (bs s48)) 204 rfl rfl rfl rfl (fun ids H' fr => opD_bin rfl (evV_eq _ _ _ _ _ rfl) (evV_eq _ _ _ _ _ rfl) (bin_sadd e48)) rfl ?_
                      exact WJ.goto 2 (j23 s48 hp) rfl rfl (by exact ⟨rfl, rfl, rfl, rfl, rfl, rfl, trivial⟩) rfl rfl rfl
                    · exact WJ.goto 3 (j23 x9 hp) rfl rfl (by exact ⟨rfl, rfl, rfl, rfl, rfl, rfl, trivial⟩) rfl rfl rfl
                · exact WJ.goto 3 (j22 (x9, B5) hp) rfl rfl (by exact ⟨rfl, rfl, rfl, rfl, trivial⟩) rfl rfl rfl
          · refine WJ.lp 200 (α := Nat × Int × Hp) (fun y => [(0, .v (.slice a_x0 x0.length c_x0)), (4, .v (.string (bs x4))), (5, .v (.int .i64 x5)), (6, .v (.slice a_t19_Words t19_Words.length c_t19_Words)), (7, .v (.int .i64 y.2.1))]) (fun y => []) (fun y => []) (fun y => y.2.2) (fun y => y.1) (fun y => Option.bind (f25_l2 k t19_Words y.1 y.2.1) K21 = some r) (k, 0, B1) rfl hp (by exact ⟨rfl, rfl, rfl, rfl, rfl, trivial⟩) rfl rfl rfl ?_
            rintro ⟨n21, x7, B2⟩ hp ih21
            show WJ _ _ _ B2 [] _ _ ⟨[(0, .v (.slice a_x0 x0.length c_x0)), (4, .v (.string (bs x4))), (5, .v (.int .i64 x5)), (6, .v (.slice a_t19_Words t19_Words.length c_t19_Words)), (7, .v (.int .i64 x7))], [], true, 0⟩
            replace hp : Option.bind (f25_l2 k t19_Words n21 x7) K21 = some r := hp
            cases n21 with
            | zero => rw [f25_l2] at hp; exact (noS hp).elim
            | succ n21 =>
              rw [f25_l2] at hp
              refine WJ.ci 206 hp rfl rfl rfl rfl rfl rfl rfl rfl rfl (fun hc28 hp => ?_) (fun hc28 hp => ?_)
              · obtain ⟨⟨t33_At, t33_Kind, t33_Name, t33_N⟩, e33, hp⟩ := bindS hp
                obtain ⟨b33, o33, cs33, i33, rfl, p33⟩ := g_t19_Words.at e33 u43 sz36
                refine WJ.hd (v := .pointer (some ⟨b33, o33, none⟩)) 209 rfl rfl rfl rfl (fun ids H' fr => opD_indexAddr rfl (evV_eq _ _ _ _ _ rfl) (evV_eq _ _ _ _ _ rfl) (i33 _)) rfl ?_
                refine WJ.hd (v := .agg ⟨[.int .i64 t33_At, .int .i64 t33_Kind, .string (bs t33_Name), .int .i64 t33_N]⟩) 200 rfl rfl rfl rfl (fun ids H' fr => opD_load rfl (evV_eq _ _ _ _ _ rfl) ((p33.mono (Nat.zero_le _) fr.ext0.abv).loadN (d := 0) ag36 sz36 rfl rfl)) rfl ?_
                obtain ⟨t35, e35, hp⟩ := bindS hp
                refine WJ.cl 200 (R := R_24 t35) (fun hm h k => R_24.mono hm h k) rfl (fun ids H' fr => f23_ok (x0 := (RowWord.mk t33_At t33_Kind t33_Name t33_N)) e35) ?_
                rintro v B3 ⟨abB3, ivB3⟩ rfl
                refine ⟨_, rfl, ?_⟩
                refine WJ.cn 205 hp rfl rfl rfl rfl rfl rfl rfl rfl rfl (fun hc37 hp => ?_) (fun hc37 hp => ?_)
                · subst hK21
                  subst hK20
                  obtain rfl := endS (show some _ = some r from hp)
                  exact WJ.rt 208 rfl rfl rfl (fun ids H' fr => ⟨fr.ext0, rfl⟩)
                · exact WJ.ag 209 rfl (by exact ⟨rfl, rfl, rfl, rfl, rfl, trivial⟩) rfl rfl rfl (ih21 (n21, IntKind.i64.wrap (x7 + 1), B3) hp (Nat.lt_succ_self _))
              · exact WJ.goto 3 (j21 B2 hp) rfl rfl (by exact ⟨rfl, rfl, rfl, rfl, trivial⟩) rfl rfl rfl
      · exact WJ.goto 3 (j20 (x4, B1) hp) rfl rfl (by exact ⟨rfl, trivial⟩) rfl rfl rfl
/-! 11 tipstaff/tipstafflaw03.sameRows -/
def f11_l2 (x0 : List Row) (x1 : List Row) (x2 : Bool) (x7 : Int) : Nat → Int → Option ((Bool) ⊕ (Unit))
  | 0, _ => none
  | n + 1, x8 =>
    (rd x0 x7).bind fun t54 =>
    if x8 < (t54.Words.length : Int) then
      (rd x0 x7).bind fun t63 =>
      (rd t63.Words x8).bind fun t67 =>
      (rd x1 x7).bind fun t71 =>
      (rd t71.Words x8).bind fun t75 =>
      if x2 then
        if (RowWord.mk t67.At t67.Kind t67.Name t67.N) = (RowWord.mk t75.At t75.Kind t75.Name t75.N) then
          f11_l2 x0 x1 x2 x7 n (IntKind.i64.wrap (x8 + 1))
        else
          some (Sum.inl (false : Bool))
      else
        if (RowWord.mk 0 t67.Kind t67.Name t67.N) = (RowWord.mk 0 t75.Kind t75.Name t75.N) then
          f11_l2 x0 x1 x2 x7 n (IntKind.i64.wrap (x8 + 1))
        else
          some (Sum.inl (false : Bool))
    else
      some (Sum.inr ())

def f11_l1 (k : Nat) (x0 : List Row) (x1 : List Row) (x2 : Bool) : Nat → Int → Option ((Bool) ⊕ (Unit))
  | 0, _ => none
  | n + 1, x7 =>
    if x7 < (x0.length : Int) then
      (if x2 then
        (rd x0 x7).bind fun t26 =>
        (rd x1 x7).bind fun t31 =>
        if t26.At = t31.At then
          (rd x0 x7).bind fun t39 =>
          (rd x1 x7).bind fun t45 =>
          if (t39.Words.length : Int) = (t45.Words.length : Int) then
            some (Sum.inr ())
          else
            some (Sum.inl (false : Bool))
        else
          some (Sum.inl (false : Bool))
      else
        (rd x0 x7).bind fun t39 =>
        (rd x1 x7).bind fun t45 =>
        if (t39.Words.length : Int) = (t45.Words.length : Int) then
          some (Sum.inr ())
        else
          some (Sum.inl (false : Bool))).bind fun s => match s with
        | .inl st => some (Sum.inl st)
        | .inr _ => 
          (f11_l2 x0 x1 x2 x7 k 0).bind fun s => match s with
            | .inl st => some (Sum.inl st)
            | .inr _ => 
              f11_l1 k x0 x1 x2 n (IntKind.i64.wrap (x7 + 1))
    else
      some (Sum.inr ())

def f11 (k : Nat) (x0 : List Row) (x1 : List Row) (x2 : Bool) : Option Bool :=
  if (x0.length : Int) = (x1.length : Int) then
    (f11_l1 k x0 x1 x2 k 0).bind fun s => match s with
      | .inl st => some st
      | .inr _ => 
        some true
  else
    some false
set_option maxRecDepth 20000 in
theorem f11_ok {k : Nat} {H : Hp} {a_x0 : Option Addr} {c_x0 : Nat} {a_x1 : Option Addr} {c_x1 : Nat} {x0 : List Row} {x1 : List Row} {x2 : Bool} {r : Bool} (g_x0 : SlF 0 H RowC a_x0 c_x0 x0) (g_x1 : SlF 0 H RowC a_x1 c_x1 x1) (hp : f11 k x0 x1 x2 = some r) :
    SCall Tryz.prog 11 [.slice a_x0 x0.length c_x0, .slice a_x1 x1.length c_x1, .bool x2] H (Ret fun v H' => Ext H H' ∧ R_4 r H.next H' v) := by
  unfold f11 at hp
  replace hp := topS hp
  refine SCall.g Tryz.func11 rfl rfl rfl rfl rfl (l := [(0, .v (.slice a_x0 x0.length c_x0)), (1, .v (.slice a_x1 x1.length c_x1)), (2, .v (.bool x2))]) (fun _ => rfl) (fun B abB => ?_)
  refine WJ.cn 211 hp rfl rfl rfl rfl rfl rfl rfl rfl rfl (fun hc15 hp => ?_) (fun hc15 hp => ?_)
  · obtain rfl := endS (show some _ = some r from hp)
    exact WJ.rt 206 rfl rfl rfl (fun ids H' fr => ⟨fr.ext0, rfl⟩)
  · refine WJ.adv 9 rfl ?_
    obtain ⟨K24, hK24, hp⟩ : ∃ K, K = _ ∧ Option.bind _ K = some r := ⟨_, rfl, cutS hp⟩
    refine WJ.cut 2 (α := Unit) (fun y => []) (fun y => []) (fun y => []) (fun y => B) (fun y => K24 (Sum.inr ()) = some r) ?_ (fun j24 => ?_)
    · rintro u hp
      subst hK24
      show WJ _ _ _ B [] _ _ ⟨[], [], true, 0⟩
      obtain rfl := endS (show some _ = some r from hp)
      exact WJ.rt 204 rfl rfl rfl (fun ids H' fr => ⟨fr.ext0, rfl⟩)
    · refine WJ.lp 200 (α := Nat × Int) (fun y => [(0, .v (.slice a_x0 x0.length c_x0)), (1, .v (.slice a_x1 x1.length c_x1)), (2, .v (.bool x2)), (7, .v (.int .i64 y.2))]) (fun y => []) (fun y => []) (fun y => B) (fun y => y.1) (fun y => Option.bind (f11_l1 k x0 x1 x2 y.1 y.2) K24 = some r) (k, 0) rfl hp (by exact ⟨rfl, rfl, rfl, rfl, trivial⟩) rfl rfl rfl ?_
      rintro ⟨n, x7⟩ hp ih24
      show WJ _ _ _ B [] _ _ ⟨[(0, .v (.slice a_x0 x0.length c_x0)), (1, .v (.slice a_x1 x1.length c_x1)), (2, .v (.bool x2)), (7, .v (.int .i64 x7))], [], true, 0⟩
      replace hp : Option.bind (f11_l1 k x0 x1 x2 n x7) K24 = some r := hp
      cases n with
      | zero => rw [f11_l1] at hp; exact (noS hp).elim
      | succ n =>
        rw [f11_l1] at hp
        refine WJ.ci 206 hp rfl rfl rfl rfl rfl rfl rfl rfl rfl (fun hc19 hp => ?_) (fun hc19 hp => ?_)
        · refine WJ.adv 7 rfl ?_
          obtain ⟨K25, hK25, hp⟩ : ∃ K, K = _ ∧ Option.bind _ K = some r := ⟨_, rfl, cutS hp⟩
          refine WJ.cut 2 (α := Unit) (fun y => [(0, .v (.slice a_x0 x0.length c_x0)), (1, .v (.slice a_x1 x1.length c_x1)), (2, .v (.bool x2)), (7, .v (.int .i64 x7))]) (fun y => []) (fun y => []) (fun y => B) (fun y => K25 ((Sum.inr ())) = some r) ?_ (fun j25 => ?_)
          · rintro u hp
            subst hK25
            show WJ _ _ _ B [] _ _ ⟨[(0, .v (.slice a_x0 x0.length c_x0)), (1, .v (.slice a_x1 x1.length c_x1)), (2, .v (.bool x2)), (7, .v (.int .i64 x7))], [], true, 0⟩
            refine WJ.adv 5 rfl ?_
            obtain ⟨K26, hK26, hp⟩ : ∃ K, K = _ ∧ Option.bind _ K = some r := ⟨_, rfl, cutS hp⟩
            refine WJ.cut 3 (α := Unit) (fun y => [(0, .v (.slice a_x0 x0.length c_x0)), (1, .v (.slice a_x1 x1.length c_x1)), (2, .v (.bool x2)), (7, .v (.int .i64 x7))]) (fun y => []) (fun y => []) (fun y => B) (fun y => K26 (Sum.inr ()) = some r) ?_ (fun j26 => ?_)
            · rintro u hp
              subst hK26
              show WJ _ _ _ B [] _ _ ⟨[(0, .v (.slice a_x0 x0.length c_x0)), (1, .v (.slice a_x1 x1.length c_x1)), (2, .v (.bool x2)), (7, .v (.int .i64 x7))], [], true, 0⟩
              exact WJ.ag 205 rfl (by exact ⟨rfl, rfl, rfl, rfl, trivial⟩) rfl rfl rfl (ih24 (n, IntKind.i64.wrap (x7 + 1)) hp (Nat.lt_succ_self _))
            · refine WJ.lp 200 (α := Nat × Int) (fun y => [(0, .v (.slice a_x0 x0.length c_x0)), (1, .v (.slice a_x1 x1.length c_x1)), (2, .v (.bool x2)), (7, .v (.int .i64 x7)), (8, .v (.int .i64 y.2))]) (fun y => []) (fun y => []) (fun y => B) (fun y => y.1) (fun y => Option.bind (f11_l2 x0 x1 x2 x7 y.1 y.2) K26 = some r) (k, 0) rfl hp (by exact ⟨rfl, rfl, rfl, rfl, rfl, trivial⟩) rfl rfl rfl ?_
              rintro ⟨n26, x8⟩ hp ih26
              show WJ _ _ _ B [] _ _ ⟨[(0, .v (.slice a_x0 x0.length c_x0)), (1, .v (.slice a_x1 x1.length c_x1)), (2, .v (.bool x2)), (7, .v (.int .i64 x7)), (8, .v (.int .i64 x8))], [], true, 0⟩
              replace hp : Option.bind (f11_l2 x0 x1 x2 x7 n26 x8) K26 = some r := hp
              cases n26 with
              | zero => rw [f11_l2] at hp; exact (noS hp).elim
              | succ n26 =>
                rw [f11_l2] at hp
                obtain ⟨⟨t54_At, t54_Words⟩, e54, hp⟩ := bindS hp
                obtain ⟨b54, o54, cs54, i54, ⟨a_t54_Words, c_t54_Words, rfl, g_t54_Words⟩, p54⟩ := g_x0.at e54 u23 sz45
                refine WJ.hd (v := .pointer (some ⟨b54, o54, none⟩)) 206 rfl rfl rfl rfl (fun ids H' fr => opD_indexAddr rfl (evV_eq _ _ _ _ _ rfl) (evV_eq _ _ _ _ _ rfl) (i54 _)) rfl ?_
                refine WJ.hd (v := .slice a_t54_Words t54_Words.length c_t54_Words) 201 rfl rfl rfl rfl (fun ids H' fr => opD_load rfl (evV_eq _ _ _ _ _ rfl) ((p54.mono (Nat.zero_le _) fr.ext0.abv).load (d := 1) ag43 rfl)) rfl ?_
                refine WJ.ci 201 hp rfl rfl rfl rfl rfl rfl rfl rfl rfl (fun hc58 hp => ?_) (fun hc58 hp => ?_)
                · refine WJ.drF 206 rfl gmix (by kernel_rfl) (by kernel_rfl) rfl (fun D1 eD1 abD1 => ?_)
                  obtain ⟨⟨t63_At, t63_Words⟩, e63, hp⟩ := bindS hp
                  obtain ⟨b63, o63, cs63, i63, ⟨a_t63_Words, c_t63_Words, rfl, g_t63_Words⟩, p63⟩ := g_x0.at e63 u23 sz45
                  have lt63 := Nat.lt_of_lt_of_le p63.2.1 eD1.next
                  refine WD.hd (v := .pointer (some ⟨b63, o63, none⟩)) rfl rfl rfl rfl (fun ids H' s0 h0 f => side_pure rfl rfl h0 f) (fun ids H' fr => opD_indexAddr rfl (evV_eq _ _ _ _ _ rfl) (evV_eq _ _ _ _ _ rfl) (i63 _)) rfl ?_
                  refine WD.hd (v := .slice a_t63_Words t63_Words.length c_t63_Words) rfl rfl rfl rfl (fun ids H' s0 h0 f => side_load rfl rfl rfl lt63 h0 f) (fun ids H' fr => opD_load rfl (evV_eq _ _ _ _ _ rfl) ((p63.mono (Nat.zero_le _) fr.ext0.abv).load (d := 1) ag43 rfl)) rfl ?_
                  obtain ⟨⟨t67_At, t67_Kind, t67_Name, t67_N⟩, e67, hp⟩ := bindS hp
                  obtain ⟨b67, o67, cs67, i67, rfl, p67⟩ := g_t63_Words.at e67 u43 sz36
                  have lt67 := Nat.lt_of_lt_of_le p67.2.1 eD1.next
                  refine WD.hd (v := .pointer (some ⟨b67, o67, none⟩)) rfl rfl rfl rfl (fun ids H' s0 h0 f => side_pure rfl rfl h0 f) (fun ids H' fr => opD_indexAddr rfl (evV_eq _ _ _ _ _ rfl) (evV_eq _ _ _ _ _ rfl) (i67 _)) rfl ?_
                  refine WD.hd (v := .agg ⟨[.int .i64 t67_At, .int .i64 t67_Kind, .string (bs t67_Name), .int .i64 t67_N]⟩) rfl rfl rfl rfl (fun ids H' s0 h0 f => side_load rfl rfl rfl lt67 h0 f) (fun ids H' fr => opD_load rfl (evV_eq _ _ _ _ _ rfl) ((p67.mono (Nat.zero_le _) fr.ext0.abv).loadN (d := 0) ag36 sz36 rfl rfl)) rfl ?_
                  obtain ⟨⟨t71_At, t71_Words⟩, e71, hp⟩ := bindS hp
                  obtain ⟨b71, o71, cs71, i71, ⟨a_t71_Words, c_t71_Words, rfl, g_t71_Words⟩, p71⟩ := g_x1.at e71 u23 sz45
                  have lt71 := Nat.lt_of_lt_of_le p71.2.1 eD1.next
                  refine WD.hd (v := .pointer (some ⟨b71, o71, none⟩)) rfl rfl rfl rfl (fun ids H' s0 h0 f => side_pure rfl rfl h0 f) (fun ids H' fr => opD_indexAddr rfl (evV_eq _ _ _ _ _ rfl) (evV_eq _ _ _ _ _ rfl) (i71 _)) rfl ?_
                  refine WD.hd (v := .slice a_t71_Words t71_Words.length c_t71_Words) rfl rfl rfl rfl (fun ids H' s0 h0 f => side_load rfl rfl rfl lt71 h0 f) (fun ids H' fr => opD_load rfl (evV_eq _ _ _ _ _ rfl) ((p71.mono (Nat.zero_le _) fr.ext0.abv).load (d := 1) ag43 rfl)) rfl ?_
                  obtain ⟨⟨t75_At, t75_Kind, t75_Name, t75_N⟩, e75, hp⟩ := bindS hp
                  obtain ⟨b75, o75, cs75, i75, rfl, p75⟩ := g_t71_Words.at e75 u43 sz36
                  have lt75 := Nat.lt_of_lt_of_le p75.2.1 eD1.next
                  refine WD.hd (v := .pointer (some ⟨b75, o75, none⟩)) rfl rfl rfl rfl (fun ids H' s0 h0 f => side_pure rfl rfl h0 f) (fun ids H' fr => opD_indexAddr rfl (evV_eq _ _ _ _ _ rfl) (evV_eq _ _ _ _ _ rfl) (i75 _)) rfl ?_
                  refine WD.hd (v := .agg ⟨[.int .i64 t75_At, .int .i64 t75_Kind, .string (bs t75_Name), .int .i64 t75_N]⟩) rfl rfl rfl rfl (fun ids H' s0 h0 f => side_load rfl rfl rfl lt75 h0 f) (fun ids H' fr => opD_load rfl (evV_eq _ _ _ _ _ rfl) ((p75.mono (Nat.zero_le _) fr.ext0.abv).loadN (d := 0) ag36 sz36 rfl rfl)) rfl ?_
                  refine WD.done rfl ?_
                  cases x2
                  · replace hp := (itS hp).2 Bool.false_ne_true
                    refine WJ.cn 217 hp rfl rfl rfl rfl rfl rfl (opD_neS rfl rfl rfl rfl gd36 (eq36 0 t67_Kind t67_Name t67_N 0 t75_Kind t75_Name t75_N)) rfl rfl (fun hc83 hp => ?_) (fun hc83 hp => ?_)
                    · subst hK26
                      subst hK24
                      obtain rfl := endS (show some _ = some r from hp)
                      exact WJ.rt 206 rfl rfl rfl (fun ids H' fr => ⟨fr.ext0, rfl⟩)
                    · exact WJ.ag 209 rfl (by exact ⟨rfl, rfl, rfl, rfl, rfl, trivial⟩) rfl rfl rfl (ih26 (n26, IntKind.i64.wrap (x8 + 1)) hp (Nat.lt_succ_self _))
                  · replace hp := (itS hp).1 rfl
                    refine WJ.cn 212 hp rfl rfl rfl rfl rfl rfl (opD_neS rfl rfl rfl rfl gd36 (eq36 t67_At t67_Kind t67_Name t67_N t75_At t75_Kind t75_Name t75_N)) rfl rfl (fun hc83 hp => ?_) (fun hc83 hp => ?_)
                    · subst hK26
                      subst hK24
                      obtain rfl := endS (show some _ = some r from hp)
                      exact WJ.rt 206 rfl rfl rfl (fun ids H' fr => ⟨fr.ext0, rfl⟩)
                    · exact WJ.ag 209 rfl (by exact ⟨rfl, rfl, rfl, rfl, rfl, trivial⟩) rfl rfl rfl (ih26 (n26, IntKind.i64.wrap (x8 + 1)) hp (Nat.lt_succ_self _))
                · exact WJ.goto 4 (j26 () hp) rfl rfl (by exact ⟨rfl, rfl, rfl, rfl, trivial⟩) rfl rfl rfl
          · refine WJ.dr 200 rfl gmix (by kernel_rfl) (by kernel_rfl) rfl ?_
            cases x2
            · replace hp := (itS hp).2 Bool.false_ne_true
              obtain ⟨⟨t39_At, t39_Words⟩, e39, hp⟩ := bindS hp
              obtain ⟨b39, o39, cs39, i39, ⟨a_t39_Words, c_t39_Words, rfl, g_t39_Words⟩, p39⟩ := g_x0.at e39 u23 sz45
              refine WD.hd (v := .pointer (some ⟨b39, o39, none⟩)) rfl rfl rfl rfl (fun _ _ _ _ _ => side_no) (fun ids H' fr => opD_indexAddr rfl (evV_eq _ _ _ _ _ rfl) (evV_eq _ _ _ _ _ rfl) (i39 _)) rfl ?_
              refine WD.hd (v := .slice a_t39_Words t39_Words.length c_t39_Words) rfl rfl rfl rfl (fun _ _ _ _ _ => side_no) (fun ids H' fr => opD_load rfl (evV_eq _ _ _ _ _ rfl) ((p39.mono (Nat.zero_le _) fr.ext0.abv).load (d := 1) ag43 rfl)) rfl ?_
              obtain ⟨⟨t45_At, t45_Words⟩, e45, hp⟩ := bindS hp
              obtain ⟨b45, o45, cs45, i45, ⟨a_t45_Words, c_t45_Words, rfl, g_t45_Words⟩, p45⟩ := g_x1.at e45 u23 sz45
              refine WD.hd (v := .pointer (some ⟨b45, o45, none⟩)) rfl rfl rfl rfl (fun _ _ _ _ _ => side_no) (fun ids H' fr => opD_indexAddr rfl (evV_eq _ _ _ _ _ rfl) (evV_eq _ _ _ _ _ rfl) (i45 _)) rfl ?_
              refine WD.hd (v := .slice a_t45_Words t45_Words.length c_t45_Words) rfl rfl rfl rfl (fun _ _ _ _ _ => side_no) (fun ids H' fr => opD_load rfl (evV_eq _ _ _ _ _ rfl) ((p45.mono (Nat.zero_le _) fr.ext0.abv).load (d := 1) ag43 rfl)) rfl ?_
              refine WD.cn hp rfl rfl rfl rfl rfl rfl rfl rfl rfl (fun hc49 hp => ?_) (fun hc49 hp => ?_)
              · refine WD.done rfl ?_
                subst hK25
                subst hK24
                obtain rfl := endS (show some _ = some r from hp)
                exact WJ.rt 205 rfl rfl rfl (fun ids H' fr => ⟨fr.ext0, rfl⟩)
              · refine WD.done rfl ?_
                exact WJ.goto 2 (j25 () hp) rfl rfl (by exact ⟨rfl, rfl, rfl, rfl, trivial⟩) rfl rfl rfl
            · replace hp := (itS hp).1 rfl
              obtain ⟨⟨t26_At, t26_Words⟩, e26, hp⟩ := bindS hp
              obtain ⟨b26, o26, cs26, i26, ⟨a_t26_Words, c_t26_Words, rfl, g_t26_Words⟩, p26⟩ := g_x0.at e26 u23 sz45
              refine WD.hd (v := .pointer (some ⟨b26, o26, none⟩)) rfl rfl rfl rfl (fun _ _ _ _ _ => side_no) (fun ids H' fr => opD_indexAddr rfl (evV_eq _ _ _ _ _ rfl) (evV_eq _ _ _ _ _ rfl) (i26 _)) rfl ?_
              refine WD.hd (v := .int .i64 t26_At) rfl rfl rfl rfl (fun _ _ _ _ _ => side_no) (fun ids H' fr => opD_load rfl (evV_eq _ _ _ _ _ rfl) ((p26.mono (Nat.zero_le _) fr.ext0.abv).load (d := 0) ag3 rfl)) rfl ?_
              obtain ⟨⟨t31_At, t31_Words⟩, e31, hp⟩ := bindS hp
              obtain ⟨b31, o31, cs31, i31, ⟨a_t31_Words, c_t31_Words, rfl, g_t31_Words⟩, p31⟩ := g_x1.at e31 u23 sz45
              refine WD.hd (v := .pointer (some ⟨b31, o31, none⟩)) rfl rfl rfl rfl (fun _ _ _ _ _ => side_no) (fun ids H' fr => opD_indexAddr rfl (evV_eq _ _ _ _ _ rfl) (evV_eq _ _ _ _ _ rfl) (i31 _)) rfl ?_
              refine WD.hd (v := .int .i64 t31_At) rfl rfl rfl rfl (fun _ _ _ _ _ => side_no) (fun ids H' fr => opD_load rfl (evV_eq _ _ _ _ _ rfl) ((p31.mono (Nat.zero_le _) fr.ext0.abv).load (d := 0) ag3 rfl)) rfl ?_
              refine WD.cn hp rfl rfl rfl rfl rfl rfl rfl rfl rfl (fun hc34 hp => ?_) (fun hc34 hp => ?_)
              · refine WD.done rfl ?_
                subst hK25
                subst hK24
                obtain rfl := endS (show some _ = some r from hp)
                exact WJ.rt 205 rfl rfl rfl (fun ids H' fr => ⟨fr.ext0, rfl⟩)
              · obtain ⟨⟨t39_At, t39_Words⟩, e39, hp⟩ := bindS hp
                obtain ⟨b39, o39, cs39, i39, ⟨a_t39_Words, c_t39_Words, rfl, g_t39_Words⟩, p39⟩ := g_x0.at e39 u23 sz45
                refine WD.hd (v := .pointer (some ⟨b39, o39, none⟩)) rfl rfl rfl rfl (fun _ _ _ _ _ => side_no) (fun ids H' fr => opD_indexAddr rfl (evV_eq _ _ _ _ _ rfl) (evV_eq _ _ _ _ _ rfl) (i39 _)) rfl ?_
                refine WD.hd (v := .slice a_t39_Words t39_Words.length c_t39_Words) rfl rfl rfl rfl (fun _ _ _ _ _ => side_no) (fun ids H' fr => opD_load rfl (evV_eq _ _ _ _ _ rfl) ((p39.mono (Nat.zero_le _) fr.ext0.abv).load (d := 1) ag43 rfl)) rfl ?_
                obtain ⟨⟨t45_At, t45_Words⟩, e45, hp⟩ := bindS hp
                obtain ⟨b45, o45, cs45, i45, ⟨a_t45_Words, c_t45_Words, rfl, g_t45_Words⟩, p45⟩ := g_x1.at e45 u23 sz45
                refine WD.hd (v := .pointer (some ⟨b45, o45, none⟩)) rfl rfl rfl rfl (fun _ _ _ _ _ => side_no) (fun ids H' fr => opD_indexAddr rfl (evV_eq _ _ _ _ _ rfl) (evV_eq _ _ _ _ _ rfl) (i45 _)) rfl ?_
                refine WD.hd (v := .slice a_t45_Words t45_Words.length c_t45_Words) rfl rfl rfl rfl (fun _ _ _ _ _ => side_no) (fun ids H' fr => opD_load rfl (evV_eq _ _ _ _ _ rfl) ((p45.mono (Nat.zero_le _) fr.ext0.abv).load (d := 1) ag43 rfl)) rfl ?_
                refine WD.cn hp rfl rfl rfl rfl rfl rfl rfl rfl rfl (fun hc49 hp => ?_) (fun hc49 hp => ?_)
                · refine WD.done rfl ?_
                  subst hK25
                  subst hK24
                  obtain rfl := endS (show some _ = some r from hp)
                  exact WJ.rt 205 rfl rfl rfl (fun ids H' fr => ⟨fr.ext0, rfl⟩)
                · refine WD.done rfl ?_
                  exact WJ.goto 2 (j25 () hp) rfl rfl (by exact ⟨rfl, rfl, rfl, rfl, trivial⟩) rfl rfl rfl
        · exact WJ.goto 3 (j24 () hp) rfl rfl (by exact trivial) rfl rfl rfl
/-! 6 tipstaff/tipstafflaw03.RowWrites -/
def f6_l2 (x0 : List Row) (x4_h36 : Int) : Nat → Int → Int → Option ((Bool) ⊕ (Int))
  | 0, _, _ => none
  | n + 1, x3_h37, x5_h37 =>
    (rd x0 x4_h36).bind fun t33 =>
    if x5_h37 < (t33.Words.length : Int) then
      (rd x0 x4_h36).bind fun t43 =>
      (rd t43.Words x5_h37).bind fun t47 =>
      (rd x0 x4_h36).bind fun t54 =>
      (rd t54.Words x5_h37).bind fun t58 =>
      if (t58.Name.length : Int) > 1100 then
        (f8).bind fun t67 =>
        some (Sum.inl (t67 : Bool))
      else
        if (IntKind.i64.wrap (x3_h37 + (t47.Name.length : Int))) > 24000 then
          (f8).bind fun t67u1 =>
          some (Sum.inl (t67u1 : Bool))
        else
          f6_l2 x0 x4_h36 n (IntKind.i64.wrap (x3_h37 + (t47.Name.length : Int))) (IntKind.i64.wrap (x5_h37 + 1))
    else
      some (Sum.inr x3_h37)

def f6_l3 (x0 : List Row) : Nat → (List Row) → Int → Option ((List Row))
  | 0, _, _ => none
  | n + 1, l0_h38, x7_h38 =>
    if x7_h38 < (x0.length : Int) then
      (rd x0 x7_h38).bind fun t77 =>
      (rd x0 x7_h38).bind fun t83 =>
      (apd 40 ([] : List RowWord) t83.Words).bind fun l86 =>
      (apd 32 l0_h38 ([(Row.mk t77.At l86)] : List Row)).bind fun l89 =>
      f6_l3 x0 n l89 (IntKind.i64.wrap (x7_h38 + 1))
    else
      some (l0_h38)

def f6_l1 (k : Nat) (x0 : List Row) : Nat → Int → Int → Option ((Bool) ⊕ (Unit))
  | 0, _, _ => none
  | n + 1, x3_h36, x4_h36 =>
    if x4_h36 < (x0.length : Int) then
      (rd x0 x4_h36).bind fun t24 =>
      if (t24.Words.length : Int) > 30 then
        (f8).bind fun t29 =>
        some (Sum.inl (t29 : Bool))
      else
        (f6_l2 x0 x4_h36 k x3_h36 0).bind fun s => match s with
          | .inl st => some (Sum.inl st)
          | .inr x3_37 => 
            f6_l1 k x0 n x3_37 (IntKind.i64.wrap (x4_h36 + 1))
    else
      some (Sum.inr ())

def f6 (k : Nat) (x0 : List Row) : Option Bool :=
  if (x0.length : Int) > 40 then
    (f8).bind fun t15 =>
    some t15
  else
    (f6_l1 k x0 k 0 0).bind fun s => match s with
      | .inl st => some st
      | .inr _ => 
        (f6_l3 x0 k ([]) 0).bind fun l0_38 =>
          (f24 k l0_38).bind fun (t92_0, t92_1) =>
          (f25 k x0).bind fun (t97_0, t97_1) =>
          if t92_0 = t97_0 then
            if t92_1 = t97_1 then
              (f11 k l0_38 x0 true).bind fun t111 =>
              if t111 then
                (f8).bind fun t114 =>
                some t114
              else
                some false
            else
              some false
          else
            some false
set_option maxHeartbeats 3200000 in
set_option maxRecDepth 20000 in
theorem f6_ok {k : Nat} {H : Hp} {a_x0 : Option Addr} {c_x0 : Nat} {x0 : List Row} {r : Bool} (g_x0 : SlF 0 H RowC a_x0 c_x0 x0) (hp : f6 k x0 = some r) :
    SCall Tryz.prog 6 [.slice a_x0 x0.length c_x0] H (Ret fun v H' => Ext H H' ∧ R_4 r H.next H' v) := by
  unfold f6 at hp
  replace hp := topS hp
  refine SCall.g Tryz.func6 rfl rfl rfl rfl rfl (l := [(0, .v (.slice a_x0 x0.length c_x0))]) (fun _ => rfl) (fun B abB => ?_)
  have gbg_x0 := g_x0.mono (Nat.le_refl _) abB
  refine WJ.ci 209 hp rfl rfl rfl rfl rfl rfl rfl rfl rfl (fun hc14 hp => ?_) (fun hc14 hp => ?_)
  · obtain ⟨t15, e15, hp⟩ := bindS hp
    refine WJ.cl 204 (R := R_4 t15) (fun hm h k => R_4.mono hm h k) rfl (fun ids H' fr => f8_ok e15) ?_
    rintro v B1 ⟨abB1, ivB1⟩ rfl
    refine ⟨_, rfl, ?_⟩
    replace gbg_x0 := gbg_x0.mono (Nat.le_refl _) (abB1.le (Nat.zero_le _))
    obtain rfl := endS (show some _ = some r from hp)
    exact WJ.rt 202 rfl rfl rfl (fun ids H' fr => ⟨fr.ext0, rfl⟩)
  · refine WJ.adv 13 rfl ?_
    obtain ⟨K36, hK36, hp⟩ : ∃ K, K = _ ∧ Option.bind _ K = some r := ⟨_, rfl, cutS hp⟩
    refine WJ.cut 2 (α := Hp) (fun y => [(0, .v (.slice a_x0 x0.length c_x0))]) (fun y => []) (fun y => []) (fun y => y) (fun y => K36 (Sum.inr ()) = some r ∧ SlF 0 y RowC a_x0 c_x0 x0) ?_ (fun j36 => ?_)
    · rintro B8 ⟨hp, gbg_x0⟩
      subst hK36
      show WJ _ _ _ B8 [] _ _ ⟨[(0, .v (.slice a_x0 x0.length c_x0))], [], true, 0⟩
      refine WJ.adv 10 rfl ?_
      refine WJ.nw 2 ?_
      have rn0 : RepL RowC H.next B8 [] ([] : List Row) := rfl
      obtain ⟨K38, hK38, hp⟩ : ∃ K, K = _ ∧ Option.bind _ K = some r := ⟨_, rfl, cutS hp⟩
      refine WJ.cut 2 (α := (List Row) × (Option Addr) × Nat × (List Value) × Hp) (fun y => [(0, .v (.slice a_x0 x0.length c_x0)), (6, .v (.slice y.2.1 y.1.length y.2.2.1))]) (fun y => []) (fun y => [⟨y.2.1, y.2.2.1, 2, y.2.2.2.1⟩]) (fun y => y.2.2.2.2) (fun y => K38 (y.1) = some r ∧ SlF 0 y.2.2.2.2 RowC a_x0 c_x0 x0 ∧ RepL RowC H.next y.2.2.2.2 [] ([] : List Row) ∧ RepL RowC H.next y.2.2.2.2 y.2.2.2.1 y.1) ?_ (fun j38 => ?_)
      · rintro ⟨l0_38, a0_38, c0_38, cs0_38, B12⟩ ⟨hp, gbg_x0, rn0, r0_38⟩
        subst hK38
        show WJ _ _ _ B12 [⟨a0_38, c0_38, 2, cs0_38⟩] _ _ ⟨[(0, .v (.slice a_x0 x0.length c_x0)), (6, .v (.slice a0_38 l0_38.length c0_38))], [], true, 0⟩
        obtain ⟨⟨t92_0, t92_1⟩, e92, hp⟩ := bindS hp
        refine WJ.cl 203 (R := R_9_24 ⟨t92_0, t92_1⟩) (fun hm h k => R_9_24.mono hm h k) rfl (fun ids H' fr => f24_ok (fr.slN (j := 0) rfl rfl rfl r0_38 (Nat.zero_le _)) e92) ?_
        rintro v B13 ⟨abB13, ivB13⟩ rfl
        refine ⟨_, rfl, ?_⟩
        replace gbg_x0 := gbg_x0.mono (Nat.le_refl _) (abB13.le (Nat.zero_le _))
        replace rn0 := rn0.mono (Nat.le_refl _) (abB13.le (Nat.zero_le _))
        replace r0_38 := r0_38.mono (Nat.le_refl _) (abB13.le (Nat.zero_le _))
        obtain ⟨⟨t97_0, t97_1⟩, e97, hp⟩ := bindS hp
        refine WJ.cl 209 (R := R_9_24 ⟨t97_0, t97_1⟩) (fun hm h k => R_9_24.mono hm h k) rfl (fun ids H' fr => f25_ok (gbg_x0.mono (Nat.zero_le _) (fr.abv.le (Nat.zero_le _))) e97) ?_
        rintro v B14 ⟨abB14, ivB14⟩ rfl
        refine ⟨_, rfl, ?_⟩
        replace gbg_x0 := gbg_x0.mono (Nat.le_refl _) (abB14.le (Nat.zero_le _))
        replace rn0 := rn0.mono (Nat.le_refl _) (abB14.le (Nat.zero_le _))
        replace r0_38 := r0_38.mono (Nat.le_refl _) (abB14.le (Nat.zero_le _))
        refine WJ.ci 210 hp rfl rfl rfl rfl rfl rfl (opD_streq rfl rfl rfl) rfl rfl (fun hc102 hp => ?_) (fun hc102 hp => ?_)
        · refine WJ.ci 203 hp rfl rfl rfl rfl rfl rfl rfl rfl rfl (fun hc106 hp => ?_) (fun hc106 hp => ?_)
          · obtain ⟨t111, e111, hp⟩ := bindS hp
            refine WJ.cl 204 (R := R_4 t111) (fun hm h k => R_4.mono hm h k) rfl (fun ids H' fr => f11_ok (fr.slN (j := 0) rfl rfl rfl r0_38 (Nat.zero_le _)) (gbg_x0.mono (Nat.zero_le _) (fr.abv.le (Nat.zero_le _))) e111) ?_
            rintro v B15 ⟨abB15, ivB15⟩ rfl
            refine ⟨_, rfl, ?_⟩
            replace gbg_x0 := gbg_x0.mono (Nat.le_refl _) (abB15.le (Nat.zero_le _))
            replace rn0 := rn0.mono (Nat.le_refl _) (abB15.le (Nat.zero_le _))
            replace r0_38 := r0_38.mono (Nat.le_refl _) (abB15.le (Nat.zero_le _))
            cases t111
            · replace hp := (itS hp).2 Bool.false_ne_true
              obtain rfl := endS (show some _ = some r from hp)
              exact WJ.rt 206 rfl rfl rfl (fun ids H' fr => ⟨fr.ext0, rfl⟩)
            · replace hp := (itS hp).1 rfl
              obtain ⟨t114, e114, hp⟩ := bindS hp
              refine WJ.cl 202 (R := R_4 t114) (fun hm h k => R_4.mono hm h k) rfl (fun ids H' fr => f8_ok e114) ?_
              rintro v B16 ⟨abB16, ivB16⟩ rfl
              refine ⟨_, rfl, ?_⟩
              replace gbg_x0 := gbg_x0.mono (Nat.le_refl _) (abB16.le (Nat.zero_le _))
              replace rn0 := rn0.mono (Nat.le_refl _) (abB16.le (Nat.zero_le _))
              replace r0_38 := r0_38.mono (Nat.le_refl _) (abB16.le (Nat.zero_le _))
              obtain rfl := endS (show some _ = some r from hp)
              exact WJ.rt 203 rfl rfl rfl (fun ids H' fr => ⟨fr.ext0, rfl⟩)
          · obtain rfl := endS (show some _ = some r from hp)
            exact WJ.rt 211 rfl rfl rfl (fun ids H' fr => ⟨fr.ext0, rfl⟩)
        · obtain rfl := endS (show some _ = some r from hp)
          exact WJ.rt 215 rfl rfl rfl (fun ids H' fr => ⟨fr.ext0, rfl⟩)
      · refine WJ.lp 200 (α := Nat × (List Row) × Int × (Option Addr) × Nat × (List Value) × Hp) (fun y => [(0, .v (.slice a_x0 x0.length c_x0)), (6, .v (.slice y.2.2.2.1 y.2.1.length y.2.2.2.2.1)), (7, .v (.int .i64 y.2.2.1))]) (fun y => []) (fun y => [⟨y.2.2.2.1, y.2.2.2.2.1, 2, y.2.2.2.2.2.1⟩]) (fun y => y.2.2.2.2.2.2) (fun y => y.1) (fun y => Option.bind (f6_l3 x0 y.1 y.2.1 y.2.2.1) K38 = some r ∧ SlF 0 y.2.2.2.2.2.2 RowC a_x0 c_x0 x0 ∧ RepL RowC H.next y.2.2.2.2.2.2 [] ([] : List Row) ∧ RepL RowC H.next y.2.2.2.2.2.2 y.2.2.2.2.2.1 y.2.1) (k, ([] : List Row), 0, none, 0, [], B8) rfl ⟨hp, gbg_x0, rn0, rn0⟩ (by exact ⟨rfl, rfl, rfl, trivial⟩) rfl rfl rfl ?_
        rintro ⟨n, l0_h38, x7_h38, a0_h38, c0_h38, cs0_h38, B9⟩ ⟨hp, gbg_x0, rn0, r0_h38⟩ ih38
        show WJ _ _ _ B9 [⟨a0_h38, c0_h38, 2, cs0_h38⟩] _ _ ⟨[(0, .v (.slice a_x0 x0.length c_x0)), (6, .v (.slice a0_h38 l0_h38.length c0_h38)), (7, .v (.int .i64 x7_h38))], [], true, 0⟩
        replace hp : Option.bind (f6_l3 x0 n l0_h38 x7_h38) K38 = some r := hp
        cases n with
        | zero => rw [f6_l3] at hp; exact (noS hp).elim
        | succ n =>
          rw [f6_l3] at hp
          refine WJ.ci 206 hp rfl rfl rfl rfl rfl rfl rfl rfl rfl (fun hc71 hp => ?_) (fun hc71 hp => ?_)
          · refine WJ.drC (c := 13) (m := 4) 205 rfl gmix (by kernel_rfl) (by kernel_rfl) rfl rfl (fun D10 eD10 abD10 => ?_)
            have o_gbg_x0 := gbg_x0
            have o_rn0 := rn0
            have o_r0_h38 := r0_h38
            obtain ⟨⟨t77_At, t77_Words⟩, e77, hp⟩ := bindS hp
            obtain ⟨b77, o77, cs77, i77, ⟨a_t77_Words, c_t77_Words, rfl, g_t77_Words⟩, p77⟩ := o_gbg_x0.at e77 u23 sz45
            have lt77 := Nat.lt_of_lt_of_le p77.2.1 abD10.next
            refine WD.hd (v := .pointer (some ⟨b77, o77, none⟩)) rfl rfl rfl rfl (fun ids H' s0 h0 f => side_pure rfl rfl h0 f) (fun ids H' fr => opD_indexAddr rfl (evV_eq _ _ _ _ _ rfl) (evV_eq _ _ _ _ _ rfl) (i77 _)) rfl ?_
            refine WD.hd (v := .int .i64 t77_At) rfl rfl rfl rfl (fun ids H' s0 h0 f => side_load rfl rfl rfl lt77 h0 f) (fun ids H' fr => opD_load rfl (evV_eq _ _ _ _ _ rfl) ((p77.mono (Nat.zero_le _) (fr.abv.le (Nat.zero_le _))).load (d := 0) ag3 rfl)) rfl ?_
            refine WD.bs (cs := encL RowWord.cs ([] : List RowWord)) (sz := 4) (pl := []) rfl rfl rfl rfl rfl (fun _ _ => rfl) (fun _ => by rfl) rfl rfl ?_
            intro b80
            refine ⟨_, rfl, ?_⟩
            obtain ⟨⟨t83_At, t83_Words⟩, e83, hp⟩ := bindS hp
            obtain ⟨b83, o83, cs83, i83, ⟨a_t83_Words, c_t83_Words, rfl, g_t83_Words⟩, p83⟩ := o_gbg_x0.at e83 u23 sz45
            have lt83 := Nat.lt_of_lt_of_le p83.2.1 abD10.next
            refine WD.hd (v := .pointer (some ⟨b83, o83, none⟩)) rfl rfl rfl rfl (fun ids H' s0 h0 f => side_pure rfl rfl h0 f) (fun ids H' fr => opD_indexAddr rfl (evV_eq _ _ _ _ _ rfl) (evV_eq _ _ _ _ _ rfl) (i83 _)) rfl ?_
            refine WD.hd (v := .slice a_t83_Words t83_Words.length c_t83_Words) rfl rfl rfl rfl (fun ids H' s0 h0 f => side_load rfl rfl rfl lt83 h0 f) (fun ids H' fr => opD_load rfl (evV_eq _ _ _ _ _ rfl) ((p83.mono (Nat.zero_le _) (fr.abv.le (Nat.zero_le _))).load (d := 1) ag43 rfl)) rfl ?_
            obtain ⟨l86, e86, hp⟩ := bindS hp
            obtain ⟨bd86, rfl⟩ := apd_some e86
            refine WD.ap0 (L2 := t83_Words) 1 rfl rfl rfl rfl rfl rfl rfl rfl (el43 rfl) rfl (fun _ => rfl) (fun _ => rfl) rfl (fun ids H' fr => (g_t83_Words.mono (Nat.zero_le _) (fr.abv.le (Nat.zero_le _))).srcF) bd86 ?_
            intro a86 c86
            refine ⟨_, rfl, ?_⟩
            refine WD.done rfl ?_
            refine WJ.ph2 ?_
            refine WD.fz (c := RowWordC) (j := 1) rfl rfl rfl (repL_flat.2 rfl) ?_
            rintro B11 ⟨abB11, ivB11⟩ gz1
            replace gbg_x0 := gbg_x0.mono (Nat.le_refl _) (abB11.le (Nat.zero_le _))
            replace rn0 := rn0.mono (Nat.le_refl _) (abB11.le (Nat.zero_le _))
            replace r0_h38 := r0_h38.mono (Nat.le_refl _) (abB11.le (Nat.zero_le _))
            replace g_t77_Words := g_t77_Words.mono (Nat.le_refl _) (abB11.le (Nat.zero_le _))
            replace p77 := p77.mono (Nat.le_refl _) (abB11.le (Nat.zero_le _))
            replace g_t83_Words := g_t83_Words.mono (Nat.le_refl _) (abB11.le (Nat.zero_le _))
            replace p83 := p83.mono (Nat.le_refl _) (abB11.le (Nat.zero_le _))
            refine WD.bs (cs := [.int .i64 t77_At, .slice a86 (([] : List RowWord) ++ t83_Words).length c86]) (sz := 2) (pl := [(0, .agg ⟨[.int .i64 t77_At, .slice a86 (([] : List RowWord) ++ t83_Words).length c86]⟩)]) rfl rfl rfl rfl rfl (fun _ _ => rfl) (fun _ => by rfl) rfl rfl ?_
            intro b88
            refine ⟨_, rfl, ?_⟩
            obtain ⟨l89, e89, hp⟩ := bindS hp
            obtain ⟨bd89, rfl⟩ := apd_some e89
            refine WD.apN (cs := cs0_h38) (new := [.int .i64 t77_At, .slice a86 (([] : List RowWord) ++ t83_Words).length c86]) (L := l0_h38) (L2 := ([(Row.mk t77_At (([] : List RowWord) ++ t83_Words))] : List Row)) 0 rfl rfl rfl rfl rfl rfl rfl rfl r0_h38.len (el23 rfl) rfl rfl (fun ids H' fr => fr.srcBox (j := 2) rfl rfl (by decide)) rfl rfl bd89 ?_
            intro a89 c89
            refine ⟨_, rfl, ?_⟩
            have rp89 : RepL RowC H.next B11 (cs0_h38 ++ [.int .i64 t77_At, .slice a86 (([] : List RowWord) ++ t83_Words).length c86]) (l0_h38 ++ ([(Row.mk t77_At (([] : List RowWord) ++ t83_Words))] : List Row)) := r0_h38.append ⟨[.int .i64 t77_At, .slice a86 (([] : List RowWord) ++ t83_Words).length c86], [], rfl, ⟨_, _, rfl, gz1⟩, rfl⟩
            refine WD.pop [⟨a89, c89, 2, (cs0_h38 ++ [.int .i64 t77_At, .slice a86 (([] : List RowWord) ++ t83_Words).length c86])⟩, ⟨none, 0, 4, []⟩] rfl ?_
            refine WD.done rfl ?_
            exact WJ.ag 206 rfl (by exact ⟨rfl, rfl, rfl, trivial⟩) rfl rfl rfl (ih38 (n, (l0_h38 ++ ([(Row.mk t77_At (([] : List RowWord) ++ t83_Words))] : List Row)), IntKind.i64.wrap (x7_h38 + 1), a89, c89, (cs0_h38 ++ [.int .i64 t77_At, .slice a86 (([] : List RowWord) ++ t83_Words).length c86]), B11) ⟨hp, gbg_x0, rn0, rp89⟩ (Nat.lt_succ_self _))
          · exact WJ.goto 3 (j38 (l0_h38, a0_h38, c0_h38, cs0_h38, B9) ⟨hp, gbg_x0, rn0, r0_h38⟩) rfl rfl (by exact ⟨rfl, rfl, trivial⟩) rfl rfl rfl
    · refine WJ.lp 200 (α := Nat × Int × Int × Hp) (fun y => [(0, .v (.slice a_x0 x0.length c_x0)), (3, .v (.int .i64 y.2.1)), (4, .v (.int .i64 y.2.2.1))]) (fun y => []) (fun y => []) (fun y => y.2.2.2) (fun y => y.1) (fun y => Option.bind (f6_l1 k x0 y.1 y.2.1 y.2.2.1) K36 = some r ∧ SlF 0 y.2.2.2 RowC a_x0 c_x0 x0) (k, 0, 0, B) rfl ⟨hp, gbg_x0⟩ (by exact ⟨rfl, rfl, rfl, trivial⟩) rfl rfl rfl ?_
      rintro ⟨n, x3_h36, x4_h36, B2⟩ ⟨hp, gbg_x0⟩ ih36
      show WJ _ _ _ B2 [] _ _ ⟨[(0, .v (.slice a_x0 x0.length c_x0)), (3, .v (.int .i64 x3_h36)), (4, .v (.int .i64 x4_h36))], [], true, 0⟩
      replace hp : Option.bind (f6_l1 k x0 n x3_h36 x4_h36) K36 = some r := hp
      cases n with
      | zero => rw [f6_l1] at hp; exact (noS hp).elim
      | succ n =>
        rw [f6_l1] at hp
        refine WJ.ci 206 hp rfl rfl rfl rfl rfl rfl rfl rfl rfl (fun hc19 hp => ?_) (fun hc19 hp => ?_)
        · obtain ⟨⟨t24_At, t24_Words⟩, e24, hp⟩ := bindS hp
          obtain ⟨b24, o24, cs24, i24, ⟨a_t24_Words, c_t24_Words, rfl, g_t24_Words⟩, p24⟩ := gbg_x0.at e24 u23 sz45
          refine WJ.hd (v := .pointer (some ⟨b24, o24, none⟩)) 210 rfl rfl rfl rfl (fun ids H' fr => opD_indexAddr rfl (evV_eq _ _ _ _ _ rfl) (evV_eq _ _ _ _ _ rfl) (i24 _)) rfl ?_
          refine WJ.hd (v := .slice a_t24_Words t24_Words.length c_t24_Words) 201 rfl rfl rfl rfl (fun ids H' fr => opD_load rfl (evV_eq _ _ _ _ _ rfl) ((p24.mono (Nat.zero_le _) (fr.abv.le (Nat.zero_le _))).load (d := 1) ag43 rfl)) rfl ?_
          refine WJ.ci 201 hp rfl rfl rfl rfl rfl rfl rfl rfl rfl (fun hc28 hp => ?_) (fun hc28 hp => ?_)
          · obtain ⟨t29, e29, hp⟩ := bindS hp
            refine WJ.cl 204 (R := R_4 t29) (fun hm h k => R_4.mono hm h k) rfl (fun ids H' fr => f8_ok e29) ?_
            rintro v B3 ⟨abB3, ivB3⟩ rfl
            refine ⟨_, rfl, ?_⟩
            replace gbg_x0 := gbg_x0.mono (Nat.le_refl _) (abB3.le (Nat.zero_le _))
            replace g_t24_Words := g_t24_Words.mono (Nat.le_refl _) (abB3.le (Nat.zero_le _))
            replace p24 := p24.mono (Nat.le_refl _) (abB3.le (Nat.zero_le _))
            subst hK36
            obtain rfl := endS (show some _ = some r from hp)
            exact WJ.rt 202 rfl rfl rfl (fun ids H' fr => ⟨fr.ext0, rfl⟩)
          · refine WJ.adv 8 rfl ?_
            obtain ⟨K37, hK37, hp⟩ : ∃ K, K = _ ∧ Option.bind _ K = some r := ⟨_, rfl, cutS hp⟩
            refine WJ.cut 3 (α := Int × Hp) (fun y => [(0, .v (.slice a_x0 x0.length c_x0)), (3, .v (.int .i64 y.1)), (4, .v (.int .i64 x4_h36))]) (fun y => []) (fun y => []) (fun y => y.2) (fun y => K37 (Sum.inr y.1) = some r ∧ SlF 0 y.2 RowC a_x0 c_x0 x0 ∧ SlF 0 y.2 RowWordC a_t24_Words c_t24_Words t24_Words) ?_ (fun j37 => ?_)
            · rintro ⟨x3_37, B7⟩ ⟨hp, gbg_x0, g_t24_Words⟩
              subst hK37
              show WJ _ _ _ B7 [] _ _ ⟨[(0, .v (.slice a_x0 x0.length c_x0)), (3, .v (.int .i64 x3_37)), (4, .v (.int .i64 x4_h36))], [], true, 0⟩
              exact WJ.ag 205 rfl (by exact ⟨rfl, rfl, rfl, trivial⟩) rfl rfl rfl (ih36 (n, x3_37, IntKind.i64.wrap (x4_h36 + 1), B7) ⟨hp, gbg_x0⟩ (Nat.lt_succ_self _))
            · refine WJ.lp 200 (α := Nat × Int × Int × Hp) (fun y => [(0, .v (.slice a_x0 x0.length c_x0)), (3, .v (.int .i64 y.2.1)), (4, .v (.int .i64 x4_h36)), (5, .v (.int .i64 y.2.2.1))]) (fun y => []) (fun y => []) (fun y => y.2.2.2) (fun y => y.1) (fun y => Option.bind (f6_l2 x0 x4_h36 y.1 y.2.1 y.2.2.1) K37 = some r ∧ SlF 0 y.2.2.2 RowC a_x0 c_x0 x0 ∧ SlF 0 y.2.2.2 RowWordC a_t24_Words c_t24_Words t24_Words) (k, x3_h36, 0, B2) rfl ⟨hp, gbg_x0, g_t24_Words⟩ (by exact ⟨rfl, rfl, rfl, rfl, trivial⟩) rfl rfl rfl ?_
              rintro ⟨n37, x3_h37, x5_h37, B4⟩ ⟨hp, gbg_x0, g_t24_Words⟩ ih37
              show WJ _ _ _ B4 [] _ _ ⟨[(0, .v (.slice a_x0 x0.length c_x0)), (3, .v (.int .i64 x3_h37)), (4, .v (.int .i64 x4_h36)), (5, .v (.int .i64 x5_h37))], [], true, 0⟩
              replace hp : Option.bind (f6_l2 x0 x4_h36 n37 x3_h37 x5_h37) K37 = some r := hp
              cases n37 with
              | zero => rw [f6_l2] at hp; exact (noS hp).elim
              | succ n37 =>
                rw [f6_l2] at hp
                obtain ⟨⟨t33_At, t33_Words⟩, e33, hp⟩ := bindS hp
                obtain ⟨b33, o33, cs33, i33, ⟨a_t33_Words, c_t33_Words, rfl, g_t33_Words⟩, p33⟩ := gbg_x0.at e33 u23 sz45
                refine WJ.hd (v := .pointer (some ⟨b33, o33, none⟩)) 206 rfl rfl rfl rfl (fun ids H' fr => opD_indexAddr rfl (evV_eq _ _ _ _ _ rfl) (evV_eq _ _ _ _ _ rfl) (i33 _)) rfl ?_
                refine WJ.hd (v := .slice a_t33_Words t33_Words.length c_t33_Words) 201 rfl rfl rfl rfl (fun ids H' fr => opD_load rfl (evV_eq _ _ _ _ _ rfl) ((p33.mono (Nat.zero_le _) (fr.abv.le (Nat.zero_le _))).load (d := 1) ag43 rfl)) rfl ?_
                refine WJ.ci 201 hp rfl rfl rfl rfl rfl rfl rfl rfl rfl (fun hc37 hp => ?_) (fun hc37 hp => ?_)
                · obtain ⟨⟨t43_At, t43_Words⟩, e43, hp⟩ := bindS hp
                  obtain ⟨b43, o43, cs43, i43, ⟨a_t43_Words, c_t43_Words, rfl, g_t43_Words⟩, p43⟩ := gbg_x0.at e43 u23 sz45
                  refine WJ.hd (v := .pointer (some ⟨b43, o43, none⟩)) 210 rfl rfl rfl rfl (fun ids H' fr => opD_indexAddr rfl (evV_eq _ _ _ _ _ rfl) (evV_eq _ _ _ _ _ rfl) (i43 _)) rfl ?_
                  refine WJ.hd (v := .slice a_t43_Words t43_Words.length c_t43_Words) 201 rfl rfl rfl rfl (fun ids H' fr => opD_load rfl (evV_eq _ _ _ _ _ rfl) ((p43.mono (Nat.zero_le _) (fr.abv.le (Nat.zero_le _))).load (d := 1) ag43 rfl)) rfl ?_
                  obtain ⟨⟨t47_At, t47_Kind, t47_Name, t47_N⟩, e47, hp⟩ := bindS hp
                  obtain ⟨b47, o47, cs47, i47, rfl, p47⟩ := g_t43_Words.at e47 u43 sz36
                  refine WJ.hd (v := .pointer (some ⟨b47, o47, none⟩)) 201 rfl rfl rfl rfl (fun ids H' fr => opD_indexAddr rfl (evV_eq _ _ _ _ _ rfl) (evV_eq _ _ _ _ _ rfl) (i47 _)) rfl ?_
                  refine WJ.hd (v := .string (bs t47_Name)) 201 rfl rfl rfl rfl (fun ids H' fr => opD_load rfl (evV_eq _ _ _ _ _ rfl) ((p47.mono (Nat.zero_le _) (fr.abv.le (Nat.zero_le _))).load (d := 2) ag9 rfl)) rfl ?_
                  obtain ⟨⟨t54_At, t54_Words⟩, e54, hp⟩ := bindS hp
                  obtain ⟨b54, o54, cs54, i54, ⟨a_t54_Words, c_t54_Words, rfl, g_t54_Words⟩, p54⟩ := gbg_x0.at e54 u23 sz45
                  refine WJ.hd (v := .pointer (some ⟨b54, o54, none⟩)) 208 rfl rfl rfl rfl (fun ids H' fr => opD_indexAddr rfl (evV_eq _ _ _ _ _ rfl) (evV_eq _ _ _ _ _ rfl) (i54 _)) rfl ?_
                  refine WJ.hd (v := .slice a_t54_Words t54_Words.length c_t54_Words) 201 rfl rfl rfl rfl (fun ids H' fr => opD_load rfl (evV_eq _ _ _ _ _ rfl) ((p54.mono (Nat.zero_le _) (fr.abv.le (Nat.zero_le _))).load (d := 1) ag43 rfl)) rfl ?_
                  obtain ⟨⟨t58_At, t58_Kind, t58_Name, t58_N⟩, e58, hp⟩ := bindS hp
                  obtain ⟨b58, o58, cs58, i58, rfl, p58⟩ := g_t54_Words.at e58 u43 sz36
                  refine WJ.hd (v := .pointer (some ⟨b58, o58, none⟩)) 201 rfl rfl rfl rfl (fun ids H' fr => opD_indexAddr rfl (evV_eq _ _ _ _ _ rfl) (evV_eq _ _ _ _ _ rfl) (i58 _)) rfl ?_
                  refine WJ.hd (v := .string (bs t58_Name)) 201 rfl rfl rfl rfl (fun ids H' fr => opD_load rfl (evV_eq _ _ _ _ _ rfl) ((p58.mono (Nat.zero_le _) (fr.abv.le (Nat.zero_le _))).load (d := 2) ag9 rfl)) rfl ?_
                  refine WJ.ci 201 hp rfl rfl rfl rfl rfl rfl rfl rfl rfl (fun hc62 hp => ?_) (fun hc62 hp => ?_)
                  · obtain ⟨t67, e67, hp⟩ := bindS hp
                    refine WJ.cl 208 (R := R_4 t67) (fun hm h k => R_4.mono hm h k) rfl (fun ids H' fr => f8_ok e67) ?_
                    rintro v B5 ⟨abB5, ivB5⟩ rfl
                    refine ⟨_, rfl, ?_⟩
                    replace gbg_x0 := gbg_x0.mono (Nat.le_refl _) (abB5.le (Nat.zero_le _))
                    replace g_t24_Words := g_t24_Words.mono (Nat.le_refl _) (abB5.le (Nat.zero_le _))
                    replace g_t33_Words := g_t33_Words.mono (Nat.le_refl _) (abB5.le (Nat.zero_le _))
                    replace p33 := p33.mono (Nat.le_refl _) (abB5.le (Nat.zero_le _))
                    replace g_t43_Words := g_t43_Words.mono (Nat.le_refl _) (abB5.le (Nat.zero_le _))
                    replace p43 := p43.mono (Nat.le_refl _) (abB5.le (Nat.zero_le _))
                    replace p47 := p47.mono (Nat.le_refl _) (abB5.le (Nat.zero_le _))
                    replace g_t54_Words := g_t54_Words.mono (Nat.le_refl _) (abB5.le (Nat.zero_le _))
                    replace p54 := p54.mono (Nat.le_refl _) (abB5.le (Nat.zero_le _))
                    replace p58 := p58.mono (Nat.le_refl _) (abB5.le (Nat.zero_le _))
                    subst hK37
                    subst hK36
                    obtain rfl := endS (show some _ = some r from hp)
                    exact WJ.rt 202 rfl rfl rfl (fun ids H' fr => ⟨fr.ext0, rfl⟩)
                  · refine WJ.ci 202 hp rfl rfl rfl rfl rfl rfl rfl rfl rfl (fun hc65 hp => ?_) (fun hc65 hp => ?_)
                    · obtain ⟨t67u1, e67u1, hp⟩ := bindS hp
                      refine WJ.cl 205 (R := R_4 t67u1) (fun hm h k => R_4.mono hm h k) rfl (fun ids H' fr => f8_ok e67u1) ?_
                      rintro v B6 ⟨abB6, ivB6⟩ rfl
                      refine ⟨_, rfl, ?_⟩
                      replace gbg_x0 := gbg_x0.mono (Nat.le_refl _) (abB6.le (Nat.zero_le _))
                      replace g_t24_Words := g_t24_Words.mono (Nat.le_refl _) (abB6.le (Nat.zero_le _))
                      replace g_t33_Words := g_t33_Words.mono (Nat.le_refl _) (abB6.le (Nat.zero_le _))
                      replace p33 := p33.mono (Nat.le_refl _) (abB6.le (Nat.zero_le _))
                      replace g_t43_Words := g_t43_Words.mono (Nat.le_refl _) (abB6.le (Nat.zero_le _))
                      replace p43 := p43.mono (Nat.le_refl _) (abB6.le (Nat.zero_le _))
                      replace p47 := p47.mono (Nat.le_refl _) (abB6.le (Nat.zero_le _))
                      replace g_t54_Words := g_t54_Words.mono (Nat.le_refl _) (abB6.le (Nat.zero_le _))
                      replace p54 := p54.mono (Nat.le_refl _) (abB6.le (Nat.zero_le _))
                      replace p58 := p58.mono (Nat.le_refl _) (abB6.le (Nat.zero_le _))
                      subst hK37
                      subst hK36
                      obtain rfl := endS (show some _ = some r from hp)
                      exact WJ.rt 202 rfl rfl rfl (fun ids H' fr => ⟨fr.ext0, rfl⟩)
                    · exact WJ.ag 210 rfl (by exact ⟨rfl, rfl, rfl, rfl, trivial⟩) rfl rfl rfl (ih37 (n37, IntKind.i64.wrap (x3_h37 + ((t47_Name.length : Nat) : Int)), IntKind.i64.wrap (x5_h37 + 1), B4) ⟨hp, gbg_x0, g_t24_Words⟩ (Nat.lt_succ_self _))
                · exact WJ.goto 4 (j37 (x3_h37, B4) ⟨hp, gbg_x0, g_t24_Words⟩) rfl rfl (by exact ⟨rfl, rfl, rfl, trivial⟩) rfl rfl rfl
        · exact WJ.goto 3 (j36 B2 ⟨hp, gbg_x0⟩) rfl rfl (by exact ⟨rfl, trivial⟩) rfl rfl rfl
end
end Go.Proofs.YtgmejigjajcbfaaGreatDoor

set_option linter.unusedVariables false
namespace Go.Proofs.YtgmejigjajcbfaaGreatDoor
open Go Go.Det Go.RowKit
theorem ul3 : Tryz.prog.underlying 3 = some (.int .i64) := by kernel_rfl
def ok3 (x : Int) : Prop := okI .i64 x
theorem rd3 {H : Hp} {cs : List Value} (h : Rd Tryz.prog H 3 cs) : ∃ x : Int, Cod.rep intC 0 H cs x ∧ ok3 x := by
  obtain ⟨x, rfl, hx⟩ := h.int_inv ul3
  exact ⟨x, rfl, hx⟩
theorem ul9 : Tryz.prog.underlying 9 = some .string := by kernel_rfl
def ok9 (x : List UInt8) : Prop := x.length ≤ reachBytes
theorem rd9 {H : Hp} {cs : List Value} (h : Rd Tryz.prog H 9 cs) : ∃ x : List UInt8, Cod.rep strC 0 H cs x ∧ ok9 x := by
  obtain ⟨x, rfl, hx⟩ := h.str_inv ul9
  exact ⟨x, rfl, hx⟩
theorem ul36 : ∃ fs, Tryz.prog.underlying 36 = some (.struct fs) ∧ fs.toList.map (·.type) = [3, 3, 9, 3] := ⟨_, Tryz.underlying36, rfl⟩
def ok36 (x : RowWord) : Prop := ok3 x.At ∧ ok3 x.Kind ∧ ok9 x.Name ∧ ok3 x.N
theorem rd36 {H : Hp} {cs : List Value} (h : Rd Tryz.prog H 36 cs) : ∃ x : RowWord, Cod.rep RowWordC 0 H cs x ∧ ok36 x := by
  obtain ⟨fs, hu, hm⟩ := ul36
  have h := h.struct_inv hu
  obtain ⟨fs⟩ := fs
  simp only at hm h
  obtain ⟨f0, fs, rfl⟩ : ∃ f r, fs = f :: r := by cases fs with | nil => cases hm | cons f r => exact ⟨f, r, rfl⟩
  obtain ⟨c0, d0, e0, h0, h⟩ := h.cons_inv
  simp only [List.map_cons, List.cons.injEq] at hm
  obtain ⟨m0, hm⟩ := hm
  rw [m0] at h0
  obtain ⟨f1, fs, rfl⟩ : ∃ f r, fs = f :: r := by cases fs with | nil => cases hm | cons f r => exact ⟨f, r, rfl⟩
  obtain ⟨c1, d1, e1, h1, h⟩ := h.cons_inv
  simp only [List.map_cons, List.cons.injEq] at hm
  obtain ⟨m1, hm⟩ := hm
  rw [m1] at h1
  obtain ⟨f2, fs, rfl⟩ : ∃ f r, fs = f :: r := by cases fs with | nil => cases hm | cons f r => exact ⟨f, r, rfl⟩
  obtain ⟨c2, d2, e2, h2, h⟩ := h.cons_inv
  simp only [List.map_cons, List.cons.injEq] at hm
  obtain ⟨m2, hm⟩ := hm
  rw [m2] at h2
  obtain ⟨f3, fs, rfl⟩ : ∃ f r, fs = f :: r := by cases fs with | nil => cases hm | cons f r => exact ⟨f, r, rfl⟩
  obtain ⟨c3, d3, e3, h3, h⟩ := h.cons_inv
  simp only [List.map_cons, List.cons.injEq] at hm
  obtain ⟨m3, hm⟩ := hm
  rw [m3] at h3
  obtain rfl : fs = [] := by cases fs with | nil => rfl | cons f r => cases hm
  have h := h.nil_inv
  obtain ⟨y0, rfl, k0⟩ := rd3 h0
  obtain ⟨y1, rfl, k1⟩ := rd3 h1
  obtain ⟨y2, rfl, k2⟩ := rd9 h2
  obtain ⟨y3, rfl, k3⟩ := rd3 h3
  subst h
  subst e3
  subst e2
  subst e1
  subst e0
  exact ⟨RowWord.mk y0 y1 y2 y3, rfl, ⟨k0, k1, k2, k3⟩⟩
theorem ul43 : Tryz.prog.underlying 43 = some (.slice 36) := by kernel_rfl
theorem bo43 : Tryz.prog.bytesOf 36 = 40 := by kernel_rfl
def ok43 (x : List RowWord) : Prop := (∀ y ∈ x, ok36 y) ∧ x.length * 40 ≤ reachBytes ∧ x.length ≤ maxLen
theorem rd43 {H : Hp} {cs : List Value} (h : Rd Tryz.prog H 43 cs) : ∃ x : List RowWord, Cod.rep (slC RowWordC) 0 H cs x ∧ ok43 x := by
  obtain ⟨l, a, cap, rfl, h1, h2, h3, h4⟩ := h.sl_inv (c := RowWordC) ul43 fun cs h => rd36 h
  rw [bo43] at h3
  exact ⟨l, ⟨a, cap, rfl, h1⟩, h2, h3, h4⟩
theorem ul45 : ∃ fs, Tryz.prog.underlying 45 = some (.struct fs) ∧ fs.toList.map (·.type) = [3, 43] := ⟨_, Tryz.underlying45, rfl⟩
def ok45 (x : Row) : Prop := ok3 x.At ∧ ok43 x.Words
theorem rd45 {H : Hp} {cs : List Value} (h : Rd Tryz.prog H 45 cs) : ∃ x : Row, Cod.rep RowC 0 H cs x ∧ ok45 x := by
  obtain ⟨fs, hu, hm⟩ := ul45
  have h := h.struct_inv hu
  obtain ⟨fs⟩ := fs
  simp only at hm h
  obtain ⟨f0, fs, rfl⟩ : ∃ f r, fs = f :: r := by cases fs with | nil => cases hm | cons f r => exact ⟨f, r, rfl⟩
  obtain ⟨c0, d0, e0, h0, h⟩ := h.cons_inv
  simp only [List.map_cons, List.cons.injEq] at hm
  obtain ⟨m0, hm⟩ := hm
  rw [m0] at h0
  obtain ⟨f1, fs, rfl⟩ : ∃ f r, fs = f :: r := by cases fs with | nil => cases hm | cons f r => exact ⟨f, r, rfl⟩
  obtain ⟨c1, d1, e1, h1, h⟩ := h.cons_inv
  simp only [List.map_cons, List.cons.injEq] at hm
  obtain ⟨m1, hm⟩ := hm
  rw [m1] at h1
  obtain rfl : fs = [] := by cases fs with | nil => rfl | cons f r => cases hm
  have h := h.nil_inv
  obtain ⟨y0, rfl, k0⟩ := rd3 h0
  obtain ⟨y1, ⟨a_y1, c_y1, rfl, g_y1⟩, k1⟩ := rd43 h1
  subst h
  subst e1
  subst e0
  exact ⟨Row.mk y0 y1, ⟨_, _, rfl, g_y1⟩, ⟨k0, k1⟩⟩
theorem ul23 : Tryz.prog.underlying 23 = some (.slice 45) := by kernel_rfl
theorem bo23 : Tryz.prog.bytesOf 45 = 32 := by kernel_rfl
def ok23 (x : List Row) : Prop := (∀ y ∈ x, ok45 y) ∧ x.length * 32 ≤ reachBytes ∧ x.length ≤ maxLen
theorem rd23 {H : Hp} {cs : List Value} (h : Rd Tryz.prog H 23 cs) : ∃ x : List Row, Cod.rep (slC RowC) 0 H cs x ∧ ok23 x := by
  obtain ⟨l, a, cap, rfl, h1, h2, h3, h4⟩ := h.sl_inv (c := RowC) ul23 fun cs h => rd45 h
  rw [bo23] at h3
  exact ⟨l, ⟨a, cap, rfl, h1⟩, h2, h3, h4⟩
def Pure6 : Prop := ∀ (x0 : List Row), ok23 x0 → ∃ k : Nat, f6 k x0 = some true
theorem law6 (hp : Pure6) (H : Hp) (args : List Value) (_ : Tryz.prog.globals.size ≤ H.next) (h : RdArgs Tryz.prog H Tryz.f6.params.toList args) : SCall Tryz.prog 6 args H (fun e _ => e = .ret (.bool true)) := by
  replace h : RdArgs Tryz.prog H [23] args := h
  obtain ⟨v0, args0, ea0, h0, h⟩ := h.scal (by kernel_rfl)
  obtain ⟨x0, ⟨a0_0, c0_0, e0, g0_0⟩, k0⟩ := rd23 h0
  obtain rfl := (List.cons.inj e0).1
  obtain rfl := h.nil_inv
  subst ea0
  obtain ⟨k, hk⟩ := hp x0 k0
  exact (f6_ok g0_0 hk).mono fun e H' ⟨v, h1, _, h2⟩ => by rw [h1, h2]
end Go.Proofs.YtgmejigjajcbfaaGreatDoor
