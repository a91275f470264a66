import Derived.Test.YtgmejigjajcbfaaGreatDoorST
set_option linter.unusedVariables false
set_option linter.unusedSimpArgs false
namespace Go.Proofs.YtgmejigjajcbfaaGreatDoor
open Go Go.Det Go.RowKit
noncomputable section
/-! 42 tipstaff/row.letter -/
def f42 (x0 : Int) : Option Bool :=
  if x0 ≥ 97 then
    if x0 ≤ 122 then
      some true
    else
      if x0 ≥ 65 then
        (some (decide (x0 ≤ 90))).bind fun t14 =>
        some t14
      else
        some false
  else
    if x0 ≥ 65 then
      (some (decide (x0 ≤ 90))).bind fun t14 =>
      some t14
    else
      some false
set_option maxRecDepth 20000 in
theorem f42_ok {H : Hp} {x0 : Int} {r : Bool} (hp : f42 x0 = some r) :
    SCall Tryz.prog 42 [.int .i32 x0] H (Ret fun v H' => Ext H H' ∧ R_4 r H.next H' v) := by
  unfold f42 at hp
  replace hp := topS hp
  refine SCall.g Tryz.func42 rfl rfl rfl rfl rfl (l := [(0, .v (.int .i32 x0))]) (fun _ => rfl) (fun B abB => ?_)
  refine WJ.ci 207 hp rfl rfl rfl rfl rfl rfl rfl rfl rfl (fun hc4 hp => ?_) (fun hc4 hp => ?_)
  · refine WJ.ci 202 hp rfl rfl rfl rfl rfl rfl rfl rfl rfl (fun hc7 hp => ?_) (fun hc7 hp => ?_)
    · obtain rfl := endS (show some _ = some r from hp)
      exact WJ.rt 211 rfl rfl rfl (fun ids H' fr => ⟨fr.ext0, rfl⟩)
    · refine WJ.ci 203 hp rfl rfl rfl rfl rfl rfl rfl rfl rfl (fun hc11 hp => ?_) (fun hc11 hp => ?_)
      · obtain ⟨t14, e14, hp⟩ := bindS hp
        refine WJ.cv 202 (b := t14) (H0 := ⟨.nil, 0, 0⟩) rfl rfl rfl rfl rfl rfl (by rw [← endS e14]; exact rfl) rfl ?_
        obtain rfl := endS (show some _ = some r from hp)
        exact WJ.rt 204 rfl rfl rfl (fun ids H' fr => ⟨fr.ext0, rfl⟩)
      · obtain rfl := endS (show some _ = some r from hp)
        exact WJ.rt 207 rfl rfl rfl (fun ids H' fr => ⟨fr.ext0, rfl⟩)
  · refine WJ.ci 206 hp rfl rfl rfl rfl rfl rfl rfl rfl rfl (fun hc11 hp => ?_) (fun hc11 hp => ?_)
    · obtain ⟨t14, e14, hp⟩ := bindS hp
      refine WJ.cv 202 (b := t14) (H0 := ⟨.nil, 0, 0⟩) rfl rfl rfl rfl rfl rfl (by rw [← endS e14]; exact rfl) rfl ?_
      obtain rfl := endS (show some _ = some r from hp)
      exact WJ.rt 204 rfl rfl rfl (fun ids H' fr => ⟨fr.ext0, rfl⟩)
    · obtain rfl := endS (show some _ = some r from hp)
      exact WJ.rt 207 rfl rfl rfl (fun ids H' fr => ⟨fr.ext0, rfl⟩)
/-! 16 tipstaff/row.Name -/
def f16_l1 (x0 : List UInt8) : Nat → Nat → Option ((Bool) ⊕ (Unit))
  | 0, _ => none
  | n + 1, p0 =>
    if p0 < x0.length then
      (f42 (decL x0 p0)).bind fun t12 =>
      if t12 then
        f16_l1 x0 n (p0 + decN x0 p0)
      else
        if ((p0 : Nat) : Int) = 0 then
          some (Sum.inl (false : Bool))
        else
          if (decL x0 p0) = 45 then
            f16_l1 x0 n (p0 + decN x0 p0)
          else
            if (decL x0 p0) < 48 then
              some (Sum.inl (false : Bool))
            else
              if (decL x0 p0) > 57 then
                some (Sum.inl (false : Bool))
              else
                f16_l1 x0 n (p0 + decN x0 p0)
    else
      some (Sum.inr ())

def f16 (k : Nat) (x0 : List UInt8) : Option Bool :=
  (f16_l1 x0 k 0).bind fun s => match s with
    | .inl st => some st
    | .inr _ => 
      if x0 = ([] : List UInt8) then
        some false
      else
        (some (decide ((x0.length : Int) ≤ 16))).bind fun t35 =>
        some t35
set_option maxRecDepth 20000 in
theorem f16_ok {k : Nat} {H : Hp} {x0 : List UInt8} {r : Bool} (hp : f16 k x0 = some r) :
    SCall Tryz.prog 16 [.string (bs x0)] H (Ret fun v H' => Ext H H' ∧ R_4 r H.next H' v) := by
  unfold f16 at hp
  replace hp := topS hp
  refine SCall.g Tryz.func16 rfl rfl rfl rfl rfl (l := [(0, .v (.string (bs x0)))]) (fun _ => rfl) (fun B abB => ?_)
  refine WJ.rg 208 rfl rfl rfl rfl rfl us9 rfl ?_
  rintro b6 B1 ⟨abB1, ivB1⟩ h06 it6
  refine ⟨_, rfl, ?_⟩
  refine WJ.adv 2 rfl ?_
  obtain ⟨K1, hK1, hp⟩ : ∃ K, K = _ ∧ Option.bind _ K = some r := ⟨_, rfl, cutS hp⟩
  refine WJ.cut 2 (α := Hp) (fun y => [(0, .v (.string (bs x0)))]) (fun y => []) (fun y => []) (fun y => y) (fun y => K1 (Sum.inr ()) = some r) ?_ (fun j1 => ?_)
  · rintro B5 hp
    subst hK1
    show WJ _ _ _ B5 [] _ _ ⟨[(0, .v (.string (bs x0)))], [], true, 0⟩
    refine WJ.cn 203 hp rfl rfl rfl rfl rfl rfl (opD_strne rfl rfl rfl) rfl rfl (fun hc31 hp => ?_) (fun hc31 hp => ?_)
    · obtain ⟨t35, e35, hp⟩ := bindS hp
      refine WJ.cv 203 (b := t35) (H0 := ⟨.nil, 0, 0⟩) rfl rfl rfl rfl rfl rfl (by rw [← endS e35]; exact rfl) rfl ?_
      obtain rfl := endS (show some _ = some r from hp)
      exact WJ.rt 203 rfl rfl rfl (fun ids H' fr => ⟨fr.ext0, rfl⟩)
    · obtain rfl := endS (show some _ = some r from hp)
      exact WJ.rt 207 rfl rfl rfl (fun ids H' fr => ⟨fr.ext0, rfl⟩)
  · refine WJ.lp 200 (α := Nat × Nat × Hp) (fun y => [(0, .v (.string (bs x0))), (6, .v (.pointer (some ⟨b6, 0, none⟩)))]) (fun y => []) (fun y => []) (fun y => y.2.2) (fun y => y.1) (fun y => Option.bind (f16_l1 x0 y.1 y.2.1) K1 = some r ∧ y.2.2.get b6 = some (.iter (bs x0) y.2.1)) (k, 0, B1) rfl ⟨hp, it6⟩ (by exact ⟨rfl, rfl, trivial⟩) rfl rfl rfl ?_
    rintro ⟨n, p0, B2⟩ ⟨hp, it6⟩ ih1
    show WJ _ _ _ B2 [] _ _ ⟨[(0, .v (.string (bs x0))), (6, .v (.pointer (some ⟨b6, 0, none⟩)))], [], true, 0⟩
    replace hp : Option.bind (f16_l1 x0 n p0) K1 = some r := hp
    cases n with
    | zero => rw [f16_l1] at hp; exact (noS hp).elim
    | succ n =>
      rw [f16_l1] at hp
      refine WJ.nx 202 hp rfl rfl rfl rfl rfl rfl it6 h06 rfl rfl (fun hp B3 abB3 neB3 it_new => ?_) (fun hp => ?_)
      · replace it6 := it_new
        obtain ⟨t12, e12, hp⟩ := bindS hp
        refine WJ.cl 216 (R := R_4 t12) (fun hm h k => R_4.mono hm h k) rfl (fun ids H' fr => f42_ok e12) ?_
        rintro v B4 ⟨abB4, ivB4⟩ rfl
        refine ⟨_, rfl, ?_⟩
        replace it6 := ivB4 _ _ it6
        cases t12
        · replace hp := (itS hp).2 Bool.false_ne_true
          refine WJ.ci 203 hp rfl rfl rfl rfl rfl rfl rfl rfl rfl (fun hc16 hp => ?_) (fun hc16 hp => ?_)
          · subst hK1
            obtain rfl := endS (show some _ = some r from hp)
            exact WJ.rt 219 rfl rfl rfl (fun ids H' fr => ⟨fr.ext0, rfl⟩)
          · refine WJ.cn 202 hp rfl rfl rfl rfl rfl rfl rfl rfl rfl (fun hc19 hp => ?_) (fun hc19 hp => ?_)
            · refine WJ.ci 202 hp rfl rfl rfl rfl rfl rfl rfl rfl rfl (fun hc22 hp => ?_) (fun hc22 hp => ?_)
              · subst hK1
                obtain rfl := endS (show some _ = some r from hp)
                exact WJ.rt 213 rfl rfl rfl (fun ids H' fr => ⟨fr.ext0, rfl⟩)
              · refine WJ.ci 202 hp rfl rfl rfl rfl rfl rfl rfl rfl rfl (fun hc25 hp => ?_) (fun hc25 hp => ?_)
                · subst hK1
                  obtain rfl := endS (show some _ = some r from hp)
                  exact WJ.rt 210 rfl rfl rfl (fun ids H' fr => ⟨fr.ext0, rfl⟩)
                · exact WJ.ag 208 rfl (by exact ⟨rfl, rfl, trivial⟩) rfl rfl rfl (ih1 (n, (p0 + decN x0 p0), B4) ⟨hp, it6⟩ (Nat.lt_succ_self _))
            · exact WJ.ag 214 rfl (by exact ⟨rfl, rfl, trivial⟩) rfl rfl rfl (ih1 (n, (p0 + decN x0 p0), B4) ⟨hp, it6⟩ (Nat.lt_succ_self _))
        · replace hp := (itS hp).1 rfl
          exact WJ.ag 221 rfl (by exact ⟨rfl, rfl, trivial⟩) rfl rfl rfl (ih1 (n, (p0 + decN x0 p0), B4) ⟨hp, it6⟩ (Nat.lt_succ_self _))
      · exact WJ.goto 5 (j1 B2 hp) rfl rfl (by exact ⟨rfl, trivial⟩) rfl rfl rfl
/-! 22 tipstaff/row.Sound -/
def f22 (k : Nat) (x0 : RowWord) : Option Int :=
  (if x0.Kind = 1 then
    (f16 k x0.Name).bind fun t10 =>
    if t10 then
      (some (x0.N == 0)).bind fun t14 =>
      some (Sum.inl t14)
    else
      some (Sum.inl false)
  else
    if x0.Kind = 2 then
      if x0.Name = ([] : List UInt8) then
        if x0.N ≥ (-1099511627776) then
          (some (decide (x0.N ≤ 1099511627776))).bind fun t29 =>
          some (Sum.inl t29)
        else
          some (Sum.inl false)
      else
        some (Sum.inl false)
    else
      if x0.Kind = 3 then
        (some (x0.N == 0)).bind fun t35 =>
        some (Sum.inl t35)
      else
        some (Sum.inr (11 : Int))).bind fun s => match s with
    | .inl x3_2 => 
      if x3_2 then
        some 0
      else
        some 3
    | .inr st => some st
set_option maxRecDepth 20000 in
theorem f22_ok {k : Nat} {H : Hp} {x0 : RowWord} {r : Int} (hp : f22 k x0 = some r) :
    SCall Tryz.prog 22 [.agg ⟨[.int .i64 x0.At, .int .i64 x0.Kind, .string (bs x0.Name), .int .i64 x0.N]⟩] H (Ret fun v H' => Ext H H' ∧ R_24 r H.next H' v) := by
  obtain ⟨x0_At, x0_Kind, x0_Name, x0_N⟩ := x0
  unfold f22 at hp
  replace hp := topS hp
  refine SCall.g Tryz.func22 rfl rfl rfl rfl rfl (l := [(0, .v (.agg ⟨[.int .i64 x0_At, .int .i64 x0_Kind, .string (bs x0_Name), .int .i64 x0_N]⟩))]) (fun _ => rfl) (fun B abB => ?_)
  refine WJ.adv 17 rfl ?_
  obtain ⟨K2, hK2, hp⟩ : ∃ K, K = _ ∧ Option.bind _ K = some r := ⟨_, rfl, cutS hp⟩
  refine WJ.cut 3 (α := Bool × Hp) (fun y => [(3, .v (.bool y.1))]) (fun y => [[.int .i64 x0_At, .int .i64 x0_Kind, .string (bs x0_Name), .int .i64 x0_N]]) (fun y => []) (fun y => y.2) (fun y => K2 ((Sum.inl y.1)) = some r) ?_ (fun j2 => ?_)
  · rintro ⟨x3_2, B2⟩ hp
    subst hK2
    show WJ _ _ _ B2 [] _ _ ⟨[(3, .v (.bool x3_2))], [[.int .i64 x0_At, .int .i64 x0_Kind, .string (bs x0_Name), .int .i64 x0_N]], true, 0⟩
    cases x3_2
    · replace hp := (itS hp).2 Bool.false_ne_true
      obtain rfl := endS (show some _ = some r from hp)
      exact WJ.rt 211 rfl rfl rfl (fun ids H' fr => ⟨fr.ext0, rfl⟩)
    · replace hp := (itS hp).1 rfl
      obtain rfl := endS (show some _ = some r from hp)
      exact WJ.rt 212 rfl rfl rfl (fun ids H' fr => ⟨fr.ext0, rfl⟩)
  · refine WJ.ci 201 hp rfl rfl rfl rfl rfl rfl rfl rfl rfl (fun hc7 hp => ?_) (fun hc7 hp => ?_)
    · obtain ⟨t10, e10, hp⟩ := bindS hp
      refine WJ.cl 206 (R := R_4 t10) (fun hm h k => R_4.mono hm h k) rfl (fun ids H' fr => f16_ok e10) ?_
      rintro v B1 ⟨abB1, ivB1⟩ rfl
      refine ⟨_, rfl, ?_⟩
      cases t10
      · replace hp := (itS hp).2 Bool.false_ne_true
        exact WJ.goto 8 (j2 (false, B1) hp) rfl rfl (by exact ⟨rfl, trivial⟩) rfl rfl rfl
      · replace hp := (itS hp).1 rfl
        obtain ⟨t14, e14, hp⟩ := bindS hp
        refine WJ.cv 203 (b := t14) (H0 := ⟨.nil, 0, 0⟩) rfl rfl rfl rfl rfl rfl (by rw [← endS e14]; exact rfl) rfl ?_
        exact WJ.goto 4 (j2 (t14, B1) hp) rfl rfl (by exact ⟨rfl, trivial⟩) rfl rfl rfl
    · refine WJ.ci 205 hp rfl rfl rfl rfl rfl rfl rfl rfl rfl (fun hc17 hp => ?_) (fun hc17 hp => ?_)
      · refine WJ.ci 206 hp rfl rfl rfl rfl rfl rfl (opD_streq rfl rfl rfl) rfl rfl (fun hc20 hp => ?_) (fun hc20 hp => ?_)
        · refine WJ.ci 203 hp rfl rfl rfl rfl rfl rfl rfl rfl rfl (fun hc24 hp => ?_) (fun hc24 hp => ?_)
          · obtain ⟨t29, e29, hp⟩ := bindS hp
            refine WJ.cv 204 (b := t29) (H0 := ⟨.nil, 0, 0⟩) rfl rfl rfl rfl rfl rfl (by rw [← endS e29]; exact rfl) rfl ?_
            exact WJ.goto 4 (j2 (t29, B) hp) rfl rfl (by exact ⟨rfl, trivial⟩) rfl rfl rfl
          · exact WJ.goto 9 (j2 (false, B) hp) rfl rfl (by exact ⟨rfl, trivial⟩) rfl rfl rfl
        · exact WJ.goto 13 (j2 (false, B) hp) rfl rfl (by exact ⟨rfl, trivial⟩) rfl rfl rfl
      · refine WJ.ci 205 hp rfl rfl rfl rfl rfl rfl rfl rfl rfl (fun hc32 hp => ?_) (fun hc32 hp => ?_)
        · obtain ⟨t35, e35, hp⟩ := bindS hp
          refine WJ.cv 206 (b := t35) (H0 := ⟨.nil, 0, 0⟩) rfl rfl rfl rfl rfl rfl (by rw [← endS e35]; exact rfl) rfl ?_
          exact WJ.goto 3 (j2 (t35, B) hp) rfl rfl (by exact ⟨rfl, trivial⟩) rfl rfl rfl
        · subst hK2
          obtain rfl := endS (show some _ = some r from hp)
          exact WJ.rt 207 rfl rfl rfl (fun ids H' fr => ⟨fr.ext0, rfl⟩)
/-! 18 tipstaff/row.Int -/
def f18 (k : Nat) (x0 : RowWord) (x1 : Int) (x2 : Int) : Option (Int × Int) :=
  (f22 k (RowWord.mk x0.At x0.Kind x0.Name x0.N)).bind fun t10 =>
  if t10 = 0 then
    if x0.Kind = 2 then
      if x0.N < x1 then
        some (0, 2)
      else
        if x0.N > x2 then
          some (0, 2)
        else
          some (x0.N, 0)
    else
      some (0, 11)
  else
    some (0, t10)
set_option maxRecDepth 20000 in
theorem f18_ok {k : Nat} {H : Hp} {x0 : RowWord} {x1 : Int} {x2 : Int} {r : Int × Int} (hp : f18 k x0 x1 x2 = some r) :
    SCall Tryz.prog 18 [.agg ⟨[.int .i64 x0.At, .int .i64 x0.Kind, .string (bs x0.Name), .int .i64 x0.N]⟩, .int .i64 x1, .int .i64 x2] H (Ret fun v H' => Ext H H' ∧ R_3_24 r H.next H' v) := by
  obtain ⟨x0_At, x0_Kind, x0_Name, x0_N⟩ := x0
  unfold f18 at hp
  replace hp := topS hp
  refine SCall.g Tryz.func18 rfl rfl rfl rfl rfl (l := [(0, .v (.agg ⟨[.int .i64 x0_At, .int .i64 x0_Kind, .string (bs x0_Name), .int .i64 x0_N]⟩)), (1, .v (.int .i64 x1)), (2, .v (.int .i64 x2))]) (fun _ => rfl) (fun B abB => ?_)
  obtain ⟨t10, e10, hp⟩ := bindS hp
  refine WJ.cl 209 (R := R_24 t10) (fun hm h k => R_24.mono hm h k) rfl (fun ids H' fr => f22_ok (x0 := (RowWord.mk x0_At x0_Kind x0_Name x0_N)) e10) ?_
  rintro v B1 ⟨abB1, ivB1⟩ rfl
  refine ⟨_, rfl, ?_⟩
  refine WJ.cn 207 hp rfl rfl rfl rfl rfl rfl rfl rfl rfl (fun hc13 hp => ?_) (fun hc13 hp => ?_)
  · obtain rfl := endS (show some _ = some r from hp)
    exact WJ.rt 209 rfl rfl rfl (fun ids H' fr => ⟨fr.ext0, rfl⟩)
  · refine WJ.cn 207 hp rfl rfl rfl rfl rfl rfl rfl rfl rfl (fun hc18 hp => ?_) (fun hc18 hp => ?_)
    · obtain rfl := endS (show some _ = some r from hp)
      exact WJ.rt 208 rfl rfl rfl (fun ids H' fr => ⟨fr.ext0, rfl⟩)
    · refine WJ.ci 208 hp rfl rfl rfl rfl rfl rfl rfl rfl rfl (fun hc23 hp => ?_) (fun hc23 hp => ?_)
      · obtain rfl := endS (show some _ = some r from hp)
        exact WJ.rt 214 rfl rfl rfl (fun ids H' fr => ⟨fr.ext0, rfl⟩)
      · refine WJ.ci 204 hp rfl rfl rfl rfl rfl rfl rfl rfl rfl (fun hc28 hp => ?_) (fun hc28 hp => ?_)
        · obtain rfl := endS (show some _ = some r from hp)
          exact WJ.rt 209 rfl rfl rfl (fun ids H' fr => ⟨fr.ext0, rfl⟩)
        · obtain rfl := endS (show some _ = some r from hp)
          exact WJ.rt 213 rfl rfl rfl (fun ids H' fr => ⟨fr.ext0, rfl⟩)
/-! 43 tipstaff/tipstaffref03.letter -/
def f43 (x0 : Int) : Option Bool :=
  if x0 ≥ 97 then
    if x0 ≤ 122 then
      some true
    else
      if x0 ≥ 65 then
        (some (decide (x0 ≤ 90))).bind fun t14 =>
        some t14
      else
        some false
  else
    if x0 ≥ 65 then
      (some (decide (x0 ≤ 90))).bind fun t14 =>
      some t14
    else
      some false
set_option maxRecDepth 20000 in
theorem f43_ok {H : Hp} {x0 : Int} {r : Bool} (hp : f43 x0 = some r) :
    SCall Tryz.prog 43 [.int .u8 x0] H (Ret fun v H' => Ext H H' ∧ R_4 r H.next H' v) := by
  unfold f43 at hp
  replace hp := topS hp
  refine SCall.g Tryz.func43 rfl rfl rfl rfl rfl (l := [(0, .v (.int .u8 x0))]) (fun _ => rfl) (fun B abB => ?_)
  refine WJ.ci 207 hp rfl rfl rfl rfl rfl rfl rfl rfl rfl (fun hc4 hp => ?_) (fun hc4 hp => ?_)
  · refine WJ.ci 202 hp rfl rfl rfl rfl rfl rfl rfl rfl rfl (fun hc7 hp => ?_) (fun hc7 hp => ?_)
    · obtain rfl := endS (show some _ = some r from hp)
      exact WJ.rt 211 rfl rfl rfl (fun ids H' fr => ⟨fr.ext0, rfl⟩)
    · refine WJ.ci 203 hp rfl rfl rfl rfl rfl rfl rfl rfl rfl (fun hc11 hp => ?_) (fun hc11 hp => ?_)
      · obtain ⟨t14, e14, hp⟩ := bindS hp
        refine WJ.cv 202 (b := t14) (H0 := ⟨.nil, 0, 0⟩) rfl rfl rfl rfl rfl rfl (by rw [← endS e14]; exact rfl) rfl ?_
        obtain rfl := endS (show some _ = some r from hp)
        exact WJ.rt 204 rfl rfl rfl (fun ids H' fr => ⟨fr.ext0, rfl⟩)
      · obtain rfl := endS (show some _ = some r from hp)
        exact WJ.rt 207 rfl rfl rfl (fun ids H' fr => ⟨fr.ext0, rfl⟩)
  · refine WJ.ci 206 hp rfl rfl rfl rfl rfl rfl rfl rfl rfl (fun hc11 hp => ?_) (fun hc11 hp => ?_)
    · obtain ⟨t14, e14, hp⟩ := bindS hp
      refine WJ.cv 202 (b := t14) (H0 := ⟨.nil, 0, 0⟩) rfl rfl rfl rfl rfl rfl (by rw [← endS e14]; exact rfl) rfl ?_
      obtain rfl := endS (show some _ = some r from hp)
      exact WJ.rt 204 rfl rfl rfl (fun ids H' fr => ⟨fr.ext0, rfl⟩)
    · obtain rfl := endS (show some _ = some r from hp)
      exact WJ.rt 207 rfl rfl rfl (fun ids H' fr => ⟨fr.ext0, rfl⟩)
/-! 44 tipstaff/tipstaffref03.digit -/
def f44 (x0 : Int) : Option Bool :=
  if x0 ≥ 48 then
    (some (decide (x0 ≤ 57))).bind fun t7 =>
    some t7
  else
    some false
set_option maxRecDepth 20000 in
theorem f44_ok {H : Hp} {x0 : Int} {r : Bool} (hp : f44 x0 = some r) :
    SCall Tryz.prog 44 [.int .u8 x0] H (Ret fun v H' => Ext H H' ∧ R_4 r H.next H' v) := by
  unfold f44 at hp
  replace hp := topS hp
  refine SCall.g Tryz.func44 rfl rfl rfl rfl rfl (l := [(0, .v (.int .u8 x0))]) (fun _ => rfl) (fun B abB => ?_)
  refine WJ.ci 207 hp rfl rfl rfl rfl rfl rfl rfl rfl rfl (fun hc4 hp => ?_) (fun hc4 hp => ?_)
  · obtain ⟨t7, e7, hp⟩ := bindS hp
    refine WJ.cv 202 (b := t7) (H0 := ⟨.nil, 0, 0⟩) rfl rfl rfl rfl rfl rfl (by rw [← endS e7]; exact rfl) rfl ?_
    obtain rfl := endS (show some _ = some r from hp)
    exact WJ.rt 203 rfl rfl rfl (fun ids H' fr => ⟨fr.ext0, rfl⟩)
  · obtain rfl := endS (show some _ = some r from hp)
    exact WJ.rt 206 rfl rfl rfl (fun ids H' fr => ⟨fr.ext0, rfl⟩)
/-! 17 tipstaff/tipstaffref03.Name -/
def f17_l1 (x0 : List UInt8) : Nat → Int → Option ((Bool) ⊕ (Unit))
  | 0, _ => none
  | n + 1, x3 =>
    if x3 < (x0.length : Int) then
      (rd x0 x3).bind fun b26 =>
      (f43 ((b26.toNat : Nat) : Int)).bind fun t27 =>
      if t27 then
        f17_l1 x0 n (IntKind.i64.wrap (x3 + 1))
      else
        (rd x0 x3).bind fun b32 =>
        (f44 ((b32.toNat : Nat) : Int)).bind fun t33 =>
        if t33 then
          f17_l1 x0 n (IntKind.i64.wrap (x3 + 1))
        else
          (rd x0 x3).bind fun b39 =>
          if ((b39.toNat : Nat) : Int) = 45 then
            f17_l1 x0 n (IntKind.i64.wrap (x3 + 1))
          else
            some (Sum.inl (false : Bool))
    else
      some (Sum.inr ())

def f17 (k : Nat) (x0 : List UInt8) : Option Bool :=
  if (x0.length : Int) < 1 then
    some false
  else
    if (x0.length : Int) > 16 then
      some false
    else
      (rd x0 0).bind fun b14 =>
      (f43 ((b14.toNat : Nat) : Int)).bind fun t15 =>
      if t15 then
        (f17_l1 x0 k 0).bind fun s => match s with
          | .inl st => some st
          | .inr _ => 
            some true
      else
        some false
set_option maxRecDepth 20000 in
theorem f17_ok {k : Nat} {H : Hp} {x0 : List UInt8} {r : Bool} (hp : f17 k x0 = some r) :
    SCall Tryz.prog 17 [.string (bs x0)] H (Ret fun v H' => Ext H H' ∧ R_4 r H.next H' v) := by
  unfold f17 at hp
  replace hp := topS hp
  refine SCall.g Tryz.func17 rfl rfl rfl rfl rfl (l := [(0, .v (.string (bs x0)))]) (fun _ => rfl) (fun B abB => ?_)
  refine WJ.ci 209 hp rfl rfl rfl rfl rfl rfl rfl rfl rfl (fun hc6 hp => ?_) (fun hc6 hp => ?_)
  · obtain rfl := endS (show some _ = some r from hp)
    exact WJ.rt 217 rfl rfl rfl (fun ids H' fr => ⟨fr.ext0, rfl⟩)
  · refine WJ.ci 203 hp rfl rfl rfl rfl rfl rfl rfl rfl rfl (fun hc10 hp => ?_) (fun hc10 hp => ?_)
    · obtain rfl := endS (show some _ = some r from hp)
      exact WJ.rt 213 rfl rfl rfl (fun ids H' fr => ⟨fr.ext0, rfl⟩)
    · obtain ⟨b14, e14, hp⟩ := bindS hp
      refine WJ.hd (v := .int .u8 ((b14.toNat : Nat) : Int)) 203 rfl rfl rfl rfl (fun ids H' fr => opD_index rfl (evV_eq _ _ _ _ _ rfl) (evV_eq _ _ _ _ _ rfl) (sidx us9 e14)) rfl ?_
      obtain ⟨t15, e15, hp⟩ := bindS hp
      refine WJ.cl 200 (R := R_4 t15) (fun hm h k => R_4.mono hm h k) rfl (fun ids H' fr => f43_ok e15) ?_
      rintro v B1 ⟨abB1, ivB1⟩ rfl
      refine ⟨_, rfl, ?_⟩
      cases t15
      · replace hp := (itS hp).2 Bool.false_ne_true
        obtain rfl := endS (show some _ = some r from hp)
        exact WJ.rt 208 rfl rfl rfl (fun ids H' fr => ⟨fr.ext0, rfl⟩)
      · replace hp := (itS hp).1 rfl
        refine WJ.adv 11 rfl ?_
        obtain ⟨K3, hK3, hp⟩ : ∃ K, K = _ ∧ Option.bind _ K = some r := ⟨_, rfl, cutS hp⟩
        refine WJ.cut 2 (α := Hp) (fun y => []) (fun y => []) (fun y => []) (fun y => y) (fun y => K3 (Sum.inr ()) = some r) ?_ (fun j3 => ?_)
        · rintro B5 hp
          subst hK3
          show WJ _ _ _ B5 [] _ _ ⟨[], [], true, 0⟩
          obtain rfl := endS (show some _ = some r from hp)
          exact WJ.rt 204 rfl rfl rfl (fun ids H' fr => ⟨fr.ext0, rfl⟩)
        · refine WJ.lp 200 (α := Nat × Int × Hp) (fun y => [(0, .v (.string (bs x0))), (3, .v (.int .i64 y.2.1))]) (fun y => []) (fun y => []) (fun y => y.2.2) (fun y => y.1) (fun y => Option.bind (f17_l1 x0 y.1 y.2.1) K3 = some r) (k, 0, B1) rfl hp (by exact ⟨rfl, rfl, trivial⟩) rfl rfl rfl ?_
          rintro ⟨n, x3, B2⟩ hp ih3
          show WJ _ _ _ B2 [] _ _ ⟨[(0, .v (.string (bs x0))), (3, .v (.int .i64 x3))], [], true, 0⟩
          replace hp : Option.bind (f17_l1 x0 n x3) K3 = some r := hp
          cases n with
          | zero => rw [f17_l1] at hp; exact (noS hp).elim
          | succ n =>
            rw [f17_l1] at hp
            refine WJ.ci 206 hp rfl rfl rfl rfl rfl rfl rfl rfl rfl (fun hc21 hp => ?_) (fun hc21 hp => ?_)
            · obtain ⟨b26, e26, hp⟩ := bindS hp
              refine WJ.hd (v := .int .u8 ((b26.toNat : Nat) : Int)) 209 rfl rfl rfl rfl (fun ids H' fr => opD_index rfl (evV_eq _ _ _ _ _ rfl) (evV_eq _ _ _ _ _ rfl) (sidx us9 e26)) rfl ?_
              obtain ⟨t27, e27, hp⟩ := bindS hp
              refine WJ.cl 200 (R := R_4 t27) (fun hm h k => R_4.mono hm h k) rfl (fun ids H' fr => f43_ok e27) ?_
              rintro v B3 ⟨abB3, ivB3⟩ rfl
              refine ⟨_, rfl, ?_⟩
              cases t27
              · replace hp := (itS hp).2 Bool.false_ne_true
                obtain ⟨b32, e32, hp⟩ := bindS hp
                refine WJ.hd (v := .int .u8 ((b32.toNat : Nat) : Int)) 204 rfl rfl rfl rfl (fun ids H' fr => opD_index rfl (evV_eq _ _ _ _ _ rfl) (evV_eq _ _ _ _ _ rfl) (sidx us9 e32)) rfl ?_
                obtain ⟨t33, e33, hp⟩ := bindS hp
                refine WJ.cl 200 (R := R_4 t33) (fun hm h k => R_4.mono hm h k) rfl (fun ids H' fr => f44_ok e33) ?_
                rintro v B4 ⟨abB4, ivB4⟩ rfl
                refine ⟨_, rfl, ?_⟩
                cases t33
                · replace hp := (itS hp).2 Bool.false_ne_true
                  obtain ⟨b39, e39, hp⟩ := bindS hp
                  refine WJ.hd (v := .int .u8 ((b39.toNat : Nat) : Int)) 205 rfl rfl rfl rfl (fun ids H' fr => opD_index rfl (evV_eq _ _ _ _ _ rfl) (evV_eq _ _ _ _ _ rfl) (sidx us9 e39)) rfl ?_
                  refine WJ.cn 200 hp rfl rfl rfl rfl rfl rfl rfl rfl rfl (fun hc40 hp => ?_) (fun hc40 hp => ?_)
                  · subst hK3
                    obtain rfl := endS (show some _ = some r from hp)
                    exact WJ.rt 207 rfl rfl rfl (fun ids H' fr => ⟨fr.ext0, rfl⟩)
                  · exact WJ.ag 210 rfl (by exact ⟨rfl, rfl, trivial⟩) rfl rfl rfl (ih3 (n, IntKind.i64.wrap (x3 + 1), B4) hp (Nat.lt_succ_self _))
                · replace hp := (itS hp).1 rfl
                  exact WJ.ag 217 rfl (by exact ⟨rfl, rfl, trivial⟩) rfl rfl rfl (ih3 (n, IntKind.i64.wrap (x3 + 1), B4) hp (Nat.lt_succ_self _))
              · replace hp := (itS hp).1 rfl
                exact WJ.ag 223 rfl (by exact ⟨rfl, rfl, trivial⟩) rfl rfl rfl (ih3 (n, IntKind.i64.wrap (x3 + 1), B3) hp (Nat.lt_succ_self _))
            · exact WJ.goto 3 (j3 B2 hp) rfl rfl (by exact trivial) rfl rfl rfl
/-! 23 tipstaff/tipstaffref03.Sound -/
def f23 (k : Nat) (x0 : RowWord) : Option Int :=
  if x0.Kind < 1 then
    some 11
  else
    if x0.Kind > 3 then
      some 11
    else
      (if x0.Kind = 1 then
        (f17 k x0.Name).bind fun t19 =>
        if t19 then
          if x0.N = 0 then
            if x0.Kind = 2 then
              if x0.Name = ([] : List UInt8) then
                if x0.N < (-1099511627776) then
                  some (Sum.inl (3 : Int))
                else
                  if x0.N > 1099511627776 then
                    some (Sum.inl (3 : Int))
                  else
                    if x0.Kind = 3 then
                      if x0.N = 0 then
                        some (Sum.inr ())
                      else
                        some (Sum.inl (3 : Int))
                    else
                      some (Sum.inr ())
              else
                some (Sum.inl (3 : Int))
            else
              if x0.Kind = 3 then
                if x0.N = 0 then
                  some (Sum.inr ())
                else
                  some (Sum.inl (3 : Int))
              else
                some (Sum.inr ())
          else
            some (Sum.inl (3 : Int))
        else
          some (Sum.inl (3 : Int))
      else
        if x0.Kind = 2 then
          if x0.Name = ([] : List UInt8) then
            if x0.N < (-1099511627776) then
              some (Sum.inl (3 : Int))
            else
              if x0.N > 1099511627776 then
                some (Sum.inl (3 : Int))
              else
                if x0.Kind = 3 then
                  if x0.N = 0 then
                    some (Sum.inr ())
                  else
                    some (Sum.inl (3 : Int))
                else
                  some (Sum.inr ())
          else
            some (Sum.inl (3 : Int))
        else
          if x0.Kind = 3 then
            if x0.N = 0 then
              some (Sum.inr ())
            else
              some (Sum.inl (3 : Int))
          else
            some (Sum.inr ())).bind fun s => match s with
        | .inl st => some st
        | .inr _ => 
          some 0
set_option maxRecDepth 20000 in
theorem f23_ok {k : Nat} {H : Hp} {x0 : RowWord} {r : Int} (hp : f23 k x0 = some r) :
    SCall Tryz.prog 23 [.agg ⟨[.int .i64 x0.At, .int .i64 x0.Kind, .string (bs x0.Name), .int .i64 x0.N]⟩] H (Ret fun v H' => Ext H H' ∧ R_24 r H.next H' v) := by
  obtain ⟨x0_At, x0_Kind, x0_Name, x0_N⟩ := x0
  unfold f23 at hp
  replace hp := topS hp
  refine SCall.g Tryz.func23 rfl rfl rfl rfl rfl (l := [(0, .v (.agg ⟨[.int .i64 x0_At, .int .i64 x0_Kind, .string (bs x0_Name), .int .i64 x0_N]⟩))]) (fun _ => rfl) (fun B abB => ?_)
  refine WJ.ci 211 hp rfl rfl rfl rfl rfl rfl rfl rfl rfl (fun hc6 hp => ?_) (fun hc6 hp => ?_)
  · obtain rfl := endS (show some _ = some r from hp)
    exact WJ.rt 212 rfl rfl rfl (fun ids H' fr => ⟨fr.ext0, rfl⟩)
  · refine WJ.ci 203 hp rfl rfl rfl rfl rfl rfl rfl rfl rfl (fun hc10 hp => ?_) (fun hc10 hp => ?_)
    · obtain rfl := endS (show some _ = some r from hp)
      exact WJ.rt 208 rfl rfl rfl (fun ids H' fr => ⟨fr.ext0, rfl⟩)
    · refine WJ.adv 5 rfl ?_
      obtain ⟨K4, hK4, hp⟩ : ∃ K, K = _ ∧ Option.bind _ K = some r := ⟨_, rfl, cutS hp⟩
      refine WJ.cut 3 (α := Hp) (fun y => []) (fun y => [[.int .i64 x0_At, .int .i64 x0_Kind, .string (bs x0_Name), .int .i64 x0_N]]) (fun y => []) (fun y => y) (fun y => K4 ((Sum.inr ())) = some r) ?_ (fun j4 => ?_)
      · rintro B2 hp
        subst hK4
        show WJ _ _ _ B2 [] _ _ ⟨[], [[.int .i64 x0_At, .int .i64 x0_Kind, .string (bs x0_Name), .int .i64 x0_N]], true, 0⟩
        obtain rfl := endS (show some _ = some r from hp)
        exact WJ.rt 204 rfl rfl rfl (fun ids H' fr => ⟨fr.ext0, rfl⟩)
      · refine WJ.ci 203 hp rfl rfl rfl rfl rfl rfl rfl rfl rfl (fun hc15 hp => ?_) (fun hc15 hp => ?_)
        · obtain ⟨t19, e19, hp⟩ := bindS hp
          refine WJ.cl 203 (R := R_4 t19) (fun hm h k => R_4.mono hm h k) rfl (fun ids H' fr => f17_ok e19) ?_
          rintro v B1 ⟨abB1, ivB1⟩ rfl
          refine ⟨_, rfl, ?_⟩
          cases t19
          · replace hp := (itS hp).2 Bool.false_ne_true
            subst hK4
            obtain rfl := endS (show some _ = some r from hp)
            exact WJ.rt 214 rfl rfl rfl (fun ids H' fr => ⟨fr.ext0, rfl⟩)
          · replace hp := (itS hp).1 rfl
            refine WJ.cn 204 hp rfl rfl rfl rfl rfl rfl rfl rfl rfl (fun hc24 hp => ?_) (fun hc24 hp => ?_)
            · subst hK4
              obtain rfl := endS (show some _ = some r from hp)
              exact WJ.rt 209 rfl rfl rfl (fun ids H' fr => ⟨fr.ext0, rfl⟩)
            · refine WJ.ci 209 hp rfl rfl rfl rfl rfl rfl rfl rfl rfl (fun hc30 hp => ?_) (fun hc30 hp => ?_)
              · refine WJ.cn 203 hp rfl rfl rfl rfl rfl rfl (opD_strne rfl rfl rfl) rfl rfl (fun hc34 hp => ?_) (fun hc34 hp => ?_)
                · subst hK4
                  obtain rfl := endS (show some _ = some r from hp)
                  exact WJ.rt 218 rfl rfl rfl (fun ids H' fr => ⟨fr.ext0, rfl⟩)
                · refine WJ.ci 203 hp rfl rfl rfl rfl rfl rfl rfl rfl rfl (fun hc38 hp => ?_) (fun hc38 hp => ?_)
                  · subst hK4
                    obtain rfl := endS (show some _ = some r from hp)
                    exact WJ.rt 214 rfl rfl rfl (fun ids H' fr => ⟨fr.ext0, rfl⟩)
                  · refine WJ.ci 204 hp rfl rfl rfl rfl rfl rfl rfl rfl rfl (fun hc43 hp => ?_) (fun hc43 hp => ?_)
                    · subst hK4
                      obtain rfl := endS (show some _ = some r from hp)
                      exact WJ.rt 209 rfl rfl rfl (fun ids H' fr => ⟨fr.ext0, rfl⟩)
                    · refine WJ.ci 209 hp rfl rfl rfl rfl rfl rfl rfl rfl rfl (fun hc49 hp => ?_) (fun hc49 hp => ?_)
                      · refine WJ.cn 203 hp rfl rfl rfl rfl rfl rfl rfl rfl rfl (fun hc53 hp => ?_) (fun hc53 hp => ?_)
                        · subst hK4
                          obtain rfl := endS (show some _ = some r from hp)
                          exact WJ.rt 208 rfl rfl rfl (fun ids H' fr => ⟨fr.ext0, rfl⟩)
                        · exact WJ.goto 6 (j4 B1 hp) rfl rfl (by exact trivial) rfl rfl rfl
                      · exact WJ.goto 10 (j4 B1 hp) rfl rfl (by exact trivial) rfl rfl rfl
              · refine WJ.ci 222 hp rfl rfl rfl rfl rfl rfl rfl rfl rfl (fun hc49 hp => ?_) (fun hc49 hp => ?_)
                · refine WJ.cn 203 hp rfl rfl rfl rfl rfl rfl rfl rfl rfl (fun hc53 hp => ?_) (fun hc53 hp => ?_)
                  · subst hK4
                    obtain rfl := endS (show some _ = some r from hp)
                    exact WJ.rt 208 rfl rfl rfl (fun ids H' fr => ⟨fr.ext0, rfl⟩)
                  · exact WJ.goto 6 (j4 B1 hp) rfl rfl (by exact trivial) rfl rfl rfl
                · exact WJ.goto 10 (j4 B1 hp) rfl rfl (by exact trivial) rfl rfl rfl
        · refine WJ.ci 218 hp rfl rfl rfl rfl rfl rfl rfl rfl rfl (fun hc30 hp => ?_) (fun hc30 hp => ?_)
          · refine WJ.cn 203 hp rfl rfl rfl rfl rfl rfl (opD_strne rfl rfl rfl) rfl rfl (fun hc34 hp => ?_) (fun hc34 hp => ?_)
            · subst hK4
              obtain rfl := endS (show some _ = some r from hp)
              exact WJ.rt 218 rfl rfl rfl (fun ids H' fr => ⟨fr.ext0, rfl⟩)
            · refine WJ.ci 203 hp rfl rfl rfl rfl rfl rfl rfl rfl rfl (fun hc38 hp => ?_) (fun hc38 hp => ?_)
              · subst hK4
                obtain rfl := endS (show some _ = some r from hp)
                exact WJ.rt 214 rfl rfl rfl (fun ids H' fr => ⟨fr.ext0, rfl⟩)
              · refine WJ.ci 204 hp rfl rfl rfl rfl rfl rfl rfl rfl rfl (fun hc43 hp => ?_) (fun hc43 hp => ?_)
                · subst hK4
                  obtain rfl := endS (show some _ = some r from hp)
                  exact WJ.rt 209 rfl rfl rfl (fun ids H' fr => ⟨fr.ext0, rfl⟩)
                · refine WJ.ci 209 hp rfl rfl rfl rfl rfl rfl rfl rfl rfl (fun hc49 hp => ?_) (fun hc49 hp => ?_)
                  · refine WJ.cn 203 hp rfl rfl rfl rfl rfl rfl rfl rfl rfl (fun hc53 hp => ?_) (fun hc53 hp => ?_)
                    · subst hK4
                      obtain rfl := endS (show some _ = some r from hp)
                      exact WJ.rt 208 rfl rfl rfl (fun ids H' fr => ⟨fr.ext0, rfl⟩)
                    · exact WJ.goto 6 (j4 B hp) rfl rfl (by exact trivial) rfl rfl rfl
                  · exact WJ.goto 10 (j4 B hp) rfl rfl (by exact trivial) rfl rfl rfl
          · refine WJ.ci 222 hp rfl rfl rfl rfl rfl rfl rfl rfl rfl (fun hc49 hp => ?_) (fun hc49 hp => ?_)
            · refine WJ.cn 203 hp rfl rfl rfl rfl rfl rfl rfl rfl rfl (fun hc53 hp => ?_) (fun hc53 hp => ?_)
              · subst hK4
                obtain rfl := endS (show some _ = some r from hp)
                exact WJ.rt 208 rfl rfl rfl (fun ids H' fr => ⟨fr.ext0, rfl⟩)
              · exact WJ.goto 6 (j4 B hp) rfl rfl (by exact trivial) rfl rfl rfl
            · exact WJ.goto 10 (j4 B hp) rfl rfl (by exact trivial) rfl rfl rfl
/-! 19 tipstaff/tipstaffref03.Int -/
def f19 (k : Nat) (x0 : RowWord) (x1 : Int) (x2 : Int) : Option (Int × Int) :=
  (f23 k (RowWord.mk x0.At x0.Kind x0.Name x0.N)).bind fun t10 =>
  if t10 = 0 then
    if x0.Kind = 2 then
      if x0.N < x1 then
        some (0, 2)
      else
        if x0.N > x2 then
          some (0, 2)
        else
          some (x0.N, 0)
    else
      some (0, 11)
  else
    some (0, t10)
set_option maxRecDepth 20000 in
theorem f19_ok {k : Nat} {H : Hp} {x0 : RowWord} {x1 : Int} {x2 : Int} {r : Int × Int} (hp : f19 k x0 x1 x2 = some r) :
    SCall Tryz.prog 19 [.agg ⟨[.int .i64 x0.At, .int .i64 x0.Kind, .string (bs x0.Name), .int .i64 x0.N]⟩, .int .i64 x1, .int .i64 x2] H (Ret fun v H' => Ext H H' ∧ R_3_24 r H.next H' v) := by
  obtain ⟨x0_At, x0_Kind, x0_Name, x0_N⟩ := x0
  unfold f19 at hp
  replace hp := topS hp
  refine SCall.g Tryz.func19 rfl rfl rfl rfl rfl (l := [(0, .v (.agg ⟨[.int .i64 x0_At, .int .i64 x0_Kind, .string (bs x0_Name), .int .i64 x0_N]⟩)), (1, .v (.int .i64 x1)), (2, .v (.int .i64 x2))]) (fun _ => rfl) (fun B abB => ?_)
  obtain ⟨t10, e10, hp⟩ := bindS hp
  refine WJ.cl 209 (R := R_24 t10) (fun hm h k => R_24.mono hm h k) rfl (fun ids H' fr => f23_ok (x0 := (RowWord.mk x0_At x0_Kind x0_Name x0_N)) e10) ?_
  rintro v B1 ⟨abB1, ivB1⟩ rfl
  refine ⟨_, rfl, ?_⟩
  refine WJ.cn 207 hp rfl rfl rfl rfl rfl rfl rfl rfl rfl (fun hc13 hp => ?_) (fun hc13 hp => ?_)
  · obtain rfl := endS (show some _ = some r from hp)
    exact WJ.rt 209 rfl rfl rfl (fun ids H' fr => ⟨fr.ext0, rfl⟩)
  · refine WJ.cn 207 hp rfl rfl rfl rfl rfl rfl rfl rfl rfl (fun hc18 hp => ?_) (fun hc18 hp => ?_)
    · obtain rfl := endS (show some _ = some r from hp)
      exact WJ.rt 208 rfl rfl rfl (fun ids H' fr => ⟨fr.ext0, rfl⟩)
    · refine WJ.ci 208 hp rfl rfl rfl rfl rfl rfl rfl rfl rfl (fun hc23 hp => ?_) (fun hc23 hp => ?_)
      · obtain rfl := endS (show some _ = some r from hp)
        exact WJ.rt 214 rfl rfl rfl (fun ids H' fr => ⟨fr.ext0, rfl⟩)
      · refine WJ.ci 204 hp rfl rfl rfl rfl rfl rfl rfl rfl rfl (fun hc28 hp => ?_) (fun hc28 hp => ?_)
        · obtain rfl := endS (show some _ = some r from hp)
          exact WJ.rt 209 rfl rfl rfl (fun ids H' fr => ⟨fr.ext0, rfl⟩)
        · obtain rfl := endS (show some _ = some r from hp)
          exact WJ.rt 213 rfl rfl rfl (fun ids H' fr => ⟨fr.ext0, rfl⟩)
/-! 45 tipstaff/row.first -/
def f45_l1 (x0 : List UInt8) (x1 : List (List UInt8)) : Nat → Int → Option ((Unit) ⊕ (Int))
  | 0, _ => none
  | n + 1, x9 =>
    (some (decide (x9 < (x1.length : Int)))).bind fun t10 =>
    if t10 then
      (rd x1 x9).bind fun t12 =>
      if t12 = x0 then
        some (Sum.inr (x9 : Int))
      else
        f45_l1 x0 x1 n (IntKind.i64.wrap (x9 + 1))
    else
      some (Sum.inl ())

def f45 (k : Nat) (x0 : List UInt8) (x1 : List (List UInt8)) : Option Int :=
  (f45_l1 x0 x1 k 0).bind fun s => match s with
    | .inl _ => 
      some (-1)
    | .inr st => some st
set_option maxRecDepth 20000 in
theorem f45_ok {k : Nat} {H : Hp} {a_x1 : Option Addr} {c_x1 : Nat} {x0 : List UInt8} {x1 : List (List UInt8)} {r : Int} (g_x1 : SlF 0 H strC a_x1 c_x1 x1) (hp : f45 k x0 x1 = some r) :
    SCall Tryz.prog 45 [.string (bs x0), .slice a_x1 x1.length c_x1] H (Ret fun v H' => Ext H H' ∧ R_3 r H.next H' v) := by
  unfold f45 at hp
  replace hp := topS hp
  refine SCall.g Tryz.func45 rfl rfl rfl rfl rfl (l := [(0, .v (.string (bs x0))), (1, .v (.slice a_x1 x1.length c_x1))]) (fun _ => rfl) (fun B abB => ?_)
  refine WJ.adv 12 rfl ?_
  obtain ⟨K5, hK5, hp⟩ : ∃ K, K = _ ∧ Option.bind _ K = some r := ⟨_, rfl, cutS hp⟩
  refine WJ.cut 2 (α := Unit) (fun y => []) (fun y => []) (fun y => []) (fun y => B) (fun y => K5 (Sum.inl ()) = some r) ?_ (fun j5 => ?_)
  · rintro u hp
    subst hK5
    show WJ _ _ _ B [] _ _ ⟨[], [], true, 0⟩
    obtain rfl := endS (show some _ = some r from hp)
    exact WJ.rt 204 rfl rfl rfl (fun ids H' fr => ⟨fr.ext0, rfl⟩)
  · refine WJ.lp 200 (α := Nat × Int) (fun y => [(0, .v (.string (bs x0))), (7, .v (.slice a_x1 x1.length c_x1)), (8, .v (.int .i64 ((x1.length : Nat) : Int))), (9, .v (.int .i64 y.2))]) (fun y => []) (fun y => []) (fun y => B) (fun y => y.1) (fun y => Option.bind (f45_l1 x0 x1 y.1 y.2) K5 = some r) (k, 0) rfl hp (by exact ⟨rfl, rfl, rfl, rfl, trivial⟩) rfl rfl rfl ?_
    rintro ⟨n, x9⟩ hp ih5
    show WJ _ _ _ B [] _ _ ⟨[(0, .v (.string (bs x0))), (7, .v (.slice a_x1 x1.length c_x1)), (8, .v (.int .i64 ((x1.length : Nat) : Int))), (9, .v (.int .i64 x9))], [], true, 0⟩
    replace hp : Option.bind (f45_l1 x0 x1 n x9) K5 = some r := hp
    cases n with
    | zero => rw [f45_l1] at hp; exact (noS hp).elim
    | succ n =>
      rw [f45_l1] at hp
      obtain ⟨t10, e10, hp⟩ := bindS hp
      refine WJ.cv 202 (b := t10) (H0 := ⟨.nil, 0, 0⟩) rfl rfl rfl rfl rfl rfl (by rw [← endS e10]; exact rfl) rfl ?_
      cases t10
      · replace hp := (itS hp).2 Bool.false_ne_true
        exact WJ.goto 4 (j5 () hp) rfl rfl (by exact trivial) rfl rfl rfl
      · replace hp := (itS hp).1 rfl
        obtain ⟨t12, e12, hp⟩ := bindS hp
        obtain ⟨b12, o12, cs12, i12, rfl, p12⟩ := g_x1.at e12 u37 sz9
        refine WJ.hd (v := .pointer (some ⟨b12, o12, none⟩)) 209 rfl rfl rfl rfl (fun ids H' fr => opD_indexAddr rfl (evV_eq _ _ _ _ _ rfl) (evV_eq _ _ _ _ _ rfl) (i12 _)) rfl ?_
        refine WJ.hd (v := .string (bs t12)) 200 rfl rfl rfl rfl (fun ids H' fr => opD_load rfl (evV_eq _ _ _ _ _ rfl) ((p12.mono (Nat.zero_le _) fr.ext0.abv).load (d := 0) ag9 rfl)) rfl ?_
        refine WJ.ci 207 hp rfl rfl rfl rfl rfl rfl (opD_streq rfl rfl rfl) rfl rfl (fun hc16 hp => ?_) (fun hc16 hp => ?_)
        · subst hK5
          obtain rfl := endS (show some _ = some r from hp)
          exact WJ.rt 207 rfl rfl rfl (fun ids H' fr => ⟨fr.ext0, rfl⟩)
        · exact WJ.ag 208 rfl (by exact ⟨rfl, rfl, rfl, rfl, trivial⟩) rfl rfl rfl (ih5 (n, IntKind.i64.wrap (x9 + 1)) hp (Nat.lt_succ_self _))
/-! 20 tipstaff/row.Which -/
def f20 (k : Nat) (x0 : RowWord) (x1 : List (List UInt8)) : Option (Int × Int) :=
  (f22 k (RowWord.mk x0.At x0.Kind x0.Name x0.N)).bind fun t9 =>
  if t9 = 0 then
    if x0.Kind = 1 then
      (f45 k x0.Name x1).bind fun t19 =>
      if t19 < 0 then
        some (0, 6)
      else
        some (t19, 0)
    else
      some (0, 11)
  else
    some (0, t9)
set_option maxRecDepth 20000 in
theorem f20_ok {k : Nat} {H : Hp} {a_x1 : Option Addr} {c_x1 : Nat} {x0 : RowWord} {x1 : List (List UInt8)} {r : Int × Int} (g_x1 : SlF 0 H strC a_x1 c_x1 x1) (hp : f20 k x0 x1 = some r) :
    SCall Tryz.prog 20 [.agg ⟨[.int .i64 x0.At, .int .i64 x0.Kind, .string (bs x0.Name), .int .i64 x0.N]⟩, .slice a_x1 x1.length c_x1] H (Ret fun v H' => Ext H H' ∧ R_3_24 r H.next H' v) := by
  obtain ⟨x0_At, x0_Kind, x0_Name, x0_N⟩ := x0
  unfold f20 at hp
  replace hp := topS hp
  refine SCall.g Tryz.func20 rfl rfl rfl rfl rfl (l := [(0, .v (.agg ⟨[.int .i64 x0_At, .int .i64 x0_Kind, .string (bs x0_Name), .int .i64 x0_N]⟩)), (1, .v (.slice a_x1 x1.length c_x1))]) (fun _ => rfl) (fun B abB => ?_)
  obtain ⟨t9, e9, hp⟩ := bindS hp
  refine WJ.cl 210 (R := R_24 t9) (fun hm h k => R_24.mono hm h k) rfl (fun ids H' fr => f22_ok (x0 := (RowWord.mk x0_At x0_Kind x0_Name x0_N)) e9) ?_
  rintro v B1 ⟨abB1, ivB1⟩ rfl
  refine ⟨_, rfl, ?_⟩
  refine WJ.cn 205 hp rfl rfl rfl rfl rfl rfl rfl rfl rfl (fun hc11 hp => ?_) (fun hc11 hp => ?_)
  · obtain rfl := endS (show some _ = some r from hp)
    exact WJ.rt 208 rfl rfl rfl (fun ids H' fr => ⟨fr.ext0, rfl⟩)
  · refine WJ.cn 208 hp rfl rfl rfl rfl rfl rfl rfl rfl rfl (fun hc15 hp => ?_) (fun hc15 hp => ?_)
    · obtain rfl := endS (show some _ = some r from hp)
      exact WJ.rt 207 rfl rfl rfl (fun ids H' fr => ⟨fr.ext0, rfl⟩)
    · obtain ⟨t19, e19, hp⟩ := bindS hp
      refine WJ.cl 208 (R := R_3 t19) (fun hm h k => R_3.mono hm h k) rfl (fun ids H' fr => f45_ok (g_x1.mono (Nat.zero_le _) fr.ext0.abv) e19) ?_
      rintro v B2 ⟨abB2, ivB2⟩ rfl
      refine ⟨_, rfl, ?_⟩
      refine WJ.ci 206 hp rfl rfl rfl rfl rfl rfl rfl rfl rfl (fun hc21 hp => ?_) (fun hc21 hp => ?_)
      · obtain rfl := endS (show some _ = some r from hp)
        exact WJ.rt 207 rfl rfl rfl (fun ids H' fr => ⟨fr.ext0, rfl⟩)
      · obtain rfl := endS (show some _ = some r from hp)
        exact WJ.rt 209 rfl rfl rfl (fun ids H' fr => ⟨fr.ext0, rfl⟩)
/-! 21 tipstaff/tipstaffref03.Which -/
def f21_l1 (x1 : List (List UInt8)) (x0_Name : List UInt8) : Nat → Int → Option ((Int × Int) ⊕ (Unit))
  | 0, _ => none
  | n + 1, x7 =>
    if x7 < (x1.length : Int) then
      (rd x1 x7).bind fun t26 =>
      if t26 = x0_Name then
        some (Sum.inl ((x7, 0) : Int × Int))
      else
        f21_l1 x1 x0_Name n (IntKind.i64.wrap (x7 + 1))
    else
      some (Sum.inr ())

def f21 (k : Nat) (x0 : RowWord) (x1 : List (List UInt8)) : Option (Int × Int) :=
  (f23 k (RowWord.mk x0.At x0.Kind x0.Name x0.N)).bind fun t9 =>
  if t9 = 0 then
    if x0.Kind = 1 then
      (f21_l1 x1 x0.Name k 0).bind fun s => match s with
        | .inl st => some st
        | .inr _ => 
          some (0, 6)
    else
      some (0, 11)
  else
    some (0, t9)
set_option maxRecDepth 20000 in
theorem f21_ok {k : Nat} {H : Hp} {a_x1 : Option Addr} {c_x1 : Nat} {x0 : RowWord} {x1 : List (List UInt8)} {r : Int × Int} (g_x1 : SlF 0 H strC a_x1 c_x1 x1) (hp : f21 k x0 x1 = some r) :
    SCall Tryz.prog 21 [.agg ⟨[.int .i64 x0.At, .int .i64 x0.Kind, .string (bs x0.Name), .int .i64 x0.N]⟩, .slice a_x1 x1.length c_x1] H (Ret fun v H' => Ext H H' ∧ R_3_24 r H.next H' v) := by
  obtain ⟨x0_At, x0_Kind, x0_Name, x0_N⟩ := x0
  unfold f21 at hp
  replace hp := topS hp
  refine SCall.g Tryz.func21 rfl rfl rfl rfl rfl (l := [(0, .v (.agg ⟨[.int .i64 x0_At, .int .i64 x0_Kind, .string (bs x0_Name), .int .i64 x0_N]⟩)), (1, .v (.slice a_x1 x1.length c_x1))]) (fun _ => rfl) (fun B abB => ?_)
  obtain ⟨t9, e9, hp⟩ := bindS hp
  refine WJ.cl 209 (R := R_24 t9) (fun hm h k => R_24.mono hm h k) rfl (fun ids H' fr => f23_ok (x0 := (RowWord.mk x0_At x0_Kind x0_Name x0_N)) e9) ?_
  rintro v B1 ⟨abB1, ivB1⟩ rfl
  refine ⟨_, rfl, ?_⟩
  refine WJ.cn 207 hp rfl rfl rfl rfl rfl rfl rfl rfl rfl (fun hc12 hp => ?_) (fun hc12 hp => ?_)
  · obtain rfl := endS (show some _ = some r from hp)
    exact WJ.rt 209 rfl rfl rfl (fun ids H' fr => ⟨fr.ext0, rfl⟩)
  · refine WJ.cn 207 hp rfl rfl rfl rfl rfl rfl rfl rfl rfl (fun hc17 hp => ?_) (fun hc17 hp => ?_)
    · obtain rfl := endS (show some _ = some r from hp)
      exact WJ.rt 208 rfl rfl rfl (fun ids H' fr => ⟨fr.ext0, rfl⟩)
    · refine WJ.adv 11 rfl ?_
      obtain ⟨K6, hK6, hp⟩ : ∃ K, K = _ ∧ Option.bind _ K = some r := ⟨_, rfl, cutS hp⟩
      refine WJ.cut 2 (α := Unit) (fun y => []) (fun y => [[.int .i64 x0_At, .int .i64 x0_Kind, .string (bs x0_Name), .int .i64 x0_N]]) (fun y => []) (fun y => B1) (fun y => K6 (Sum.inr ()) = some r) ?_ (fun j6 => ?_)
      · rintro u hp
        subst hK6
        show WJ _ _ _ B1 [] _ _ ⟨[], [[.int .i64 x0_At, .int .i64 x0_Kind, .string (bs x0_Name), .int .i64 x0_N]], true, 0⟩
        obtain rfl := endS (show some _ = some r from hp)
        exact WJ.rt 205 rfl rfl rfl (fun ids H' fr => ⟨fr.ext0, rfl⟩)
      · refine WJ.lp 200 (α := Nat × Int) (fun y => [(1, .v (.slice a_x1 x1.length c_x1)), (2, .p 0 0), (7, .v (.int .i64 y.2))]) (fun y => [[.int .i64 x0_At, .int .i64 x0_Kind, .string (bs x0_Name), .int .i64 x0_N]]) (fun y => []) (fun y => B1) (fun y => y.1) (fun y => Option.bind (f21_l1 x1 x0_Name y.1 y.2) K6 = some r) (k, 0) rfl hp (by exact ⟨rfl, rfl, rfl, trivial⟩) rfl rfl rfl ?_
        rintro ⟨n, x7⟩ hp ih6
        show WJ _ _ _ B1 [] _ _ ⟨[(1, .v (.slice a_x1 x1.length c_x1)), (2, .p 0 0), (7, .v (.int .i64 x7))], [[.int .i64 x0_At, .int .i64 x0_Kind, .string (bs x0_Name), .int .i64 x0_N]], true, 0⟩
        replace hp : Option.bind (f21_l1 x1 x0_Name n x7) K6 = some r := hp
        cases n with
        | zero => rw [f21_l1] at hp; exact (noS hp).elim
        | succ n =>
          rw [f21_l1] at hp
          refine WJ.ci 206 hp rfl rfl rfl rfl rfl rfl rfl rfl rfl (fun hc21 hp => ?_) (fun hc21 hp => ?_)
          · refine WJ.dr 206 rfl gmix (by kernel_rfl) (by kernel_rfl) rfl ?_
            obtain ⟨t26, e26, hp⟩ := bindS hp
            obtain ⟨b26, o26, cs26, i26, rfl, p26⟩ := g_x1.at e26 u37 sz9
            refine WD.hd (v := .pointer (some ⟨b26, o26, none⟩)) rfl rfl rfl rfl (fun _ _ _ _ _ => side_no) (fun ids H' fr => opD_indexAddr rfl (evV_eq _ _ _ _ _ rfl) (evV_eq _ _ _ _ _ rfl) (i26 _)) rfl ?_
            refine WD.hd (v := .string (bs t26)) rfl rfl rfl rfl (fun _ _ _ _ _ => side_no) (fun ids H' fr => opD_load rfl (evV_eq _ _ _ _ _ rfl) ((p26.mono (Nat.zero_le _) fr.ext0.abv).load (d := 0) ag9 rfl)) rfl ?_
            refine WD.ci hp rfl rfl rfl rfl rfl rfl (opD_streq rfl rfl rfl) rfl rfl (fun hc30 hp => ?_) (fun hc30 hp => ?_)
            · refine WD.done rfl ?_
              subst hK6
              obtain rfl := endS (show some _ = some r from hp)
              exact WJ.rt 207 rfl rfl rfl (fun ids H' fr => ⟨fr.ext0, rfl⟩)
            · refine WD.done rfl ?_
              exact WJ.ag 208 rfl (by exact ⟨rfl, rfl, rfl, trivial⟩) rfl rfl rfl (ih6 (n, IntKind.i64.wrap (x7 + 1)) hp (Nat.lt_succ_self _))
          · exact WJ.goto 3 (j6 () hp) rfl rfl (by exact trivial) rfl rfl rfl
/-! 5 tipstaff/tipstafflaw03.RowWords -/
def f5 (k : Nat) (x0 : RowWord) (x1 : Int) (x2 : Int) (x3 : List (List UInt8)) : Option Bool :=
  if (x0.Name.length : Int) > 300 then
    (f8).bind fun t26 =>
    some t26
  else
    if (x3.length : Int) > 10 then
      (f8).bind fun t26 =>
      some t26
    else
      (f18 k (RowWord.mk x0.At x0.Kind x0.Name x0.N) x1 x2).bind fun (t31_0, t31_1) =>
      (f19 k (RowWord.mk x0.At x0.Kind x0.Name x0.N) x1 x2).bind fun (t38_0, t38_1) =>
      (apd 16 ([] : List (List UInt8)) x3).bind fun l45 =>
      (f20 k (RowWord.mk x0.At x0.Kind x0.Name x0.N) l45).bind fun (t46_0, t46_1) =>
      (f21 k (RowWord.mk x0.At x0.Kind x0.Name x0.N) x3).bind fun (t52_0, t52_1) =>
      (f22 k (RowWord.mk x0.At x0.Kind x0.Name x0.N)).bind fun t56 =>
      (f23 k (RowWord.mk x0.At x0.Kind x0.Name x0.N)).bind fun t58 =>
      if t56 = t58 then
        if t31_0 = t38_0 then
          if t31_1 = t38_1 then
            if t46_0 = t52_0 then
              if t46_1 = t52_1 then
                (f8).bind fun t81 =>
                some t81
              else
                some false
            else
              some false
          else
            some false
        else
          some false
      else
        some false
set_option maxRecDepth 20000 in
theorem f5_ok {k : Nat} {H : Hp} {a_x3 : Option Addr} {c_x3 : Nat} {x0 : RowWord} {x1 : Int} {x2 : Int} {x3 : List (List UInt8)} {r : Bool} (g_x3 : SlF 0 H strC a_x3 c_x3 x3) (hp : f5 k x0 x1 x2 x3 = some r) :
    SCall Tryz.prog 5 [.agg ⟨[.int .i64 x0.At, .int .i64 x0.Kind, .string (bs x0.Name), .int .i64 x0.N]⟩, .int .i64 x1, .int .i64 x2, .slice a_x3 x3.length c_x3] H (Ret fun v H' => Ext H H' ∧ R_4 r H.next H' v) := by
  obtain ⟨x0_At, x0_Kind, x0_Name, x0_N⟩ := x0
  unfold f5 at hp
  replace hp := topS hp
  refine SCall.g Tryz.func5 rfl rfl rfl rfl rfl (l := [(0, .v (.agg ⟨[.int .i64 x0_At, .int .i64 x0_Kind, .string (bs x0_Name), .int .i64 x0_N]⟩)), (1, .v (.int .i64 x1)), (2, .v (.int .i64 x2)), (3, .v (.slice a_x3 x3.length c_x3))]) (fun _ => rfl) (fun B abB => ?_)
  refine WJ.ci 211 hp rfl rfl rfl rfl rfl rfl rfl rfl rfl (fun hc20 hp => ?_) (fun hc20 hp => ?_)
  · obtain ⟨t26, e26, hp⟩ := bindS hp
    refine WJ.cl 209 (R := R_4 t26) (fun hm h k => R_4.mono hm h k) rfl (fun ids H' fr => f8_ok e26) ?_
    rintro v B1 ⟨abB1, ivB1⟩ rfl
    refine ⟨_, rfl, ?_⟩
    obtain rfl := endS (show some _ = some r from hp)
    exact WJ.rt 202 rfl rfl rfl (fun ids H' fr => ⟨fr.ext0, rfl⟩)
  · refine WJ.ci 203 hp rfl rfl rfl rfl rfl rfl rfl rfl rfl (fun hc24 hp => ?_) (fun hc24 hp => ?_)
    · obtain ⟨t26, e26, hp⟩ := bindS hp
      refine WJ.cl 205 (R := R_4 t26) (fun hm h k => R_4.mono hm h k) rfl (fun ids H' fr => f8_ok e26) ?_
      rintro v B2 ⟨abB2, ivB2⟩ rfl
      refine ⟨_, rfl, ?_⟩
      obtain rfl := endS (show some _ = some r from hp)
      exact WJ.rt 202 rfl rfl rfl (fun ids H' fr => ⟨fr.ext0, rfl⟩)
    · obtain ⟨⟨t31_0, t31_1⟩, e31, hp⟩ := bindS hp
      refine WJ.cl 209 (R := R_3_24 ⟨t31_0, t31_1⟩) (fun hm h k => R_3_24.mono hm h k) rfl (fun ids H' fr => f18_ok (x0 := (RowWord.mk x0_At x0_Kind x0_Name x0_N)) e31) ?_
      rintro v B3 ⟨abB3, ivB3⟩ rfl
      refine ⟨_, rfl, ?_⟩
      obtain ⟨⟨t38_0, t38_1⟩, e38, hp⟩ := bindS hp
      refine WJ.cl 211 (R := R_3_24 ⟨t38_0, t38_1⟩) (fun hm h k => R_3_24.mono hm h k) rfl (fun ids H' fr => f19_ok (x0 := (RowWord.mk x0_At x0_Kind x0_Name x0_N)) e38) ?_
      rintro v B4 ⟨abB4, ivB4⟩ rfl
      refine ⟨_, rfl, ?_⟩
      refine WJ.drF 207 rfl gmix (by kernel_rfl) (by kernel_rfl) rfl (fun D5 eD5 abD5 => ?_)
      refine WD.bs (cs := encL sE ([] : List (List UInt8))) (sz := 1) (pl := []) rfl rfl rfl rfl rfl (fun _ _ => rfl) (fun _ => by rfl) rfl rfl ?_
      intro b43
      refine ⟨_, rfl, ?_⟩
      obtain ⟨l45, e45, hp⟩ := bindS hp
      obtain ⟨bd45, rfl⟩ := apd_some e45
      refine WD.ap0 (L2 := x3) 0 rfl rfl rfl rfl rfl rfl rfl rfl (el37 rfl) rfl (fun _ => rfl) (fun _ => rfl) rfl (fun ids H' fr => (g_x3.mono (Nat.zero_le _) fr.ext0.abv).srcF) bd45 ?_
      intro a45 c45
      refine ⟨_, rfl, ?_⟩
      obtain ⟨⟨t46_0, t46_1⟩, e46, hp⟩ := bindS hp
      refine WD.cl (R := R_3_24 ⟨t46_0, t46_1⟩) (fun hm h k => R_3_24.mono hm h k) rfl (fun ids H' fr => f20_ok (x0 := (RowWord.mk x0_At x0_Kind x0_Name x0_N)) (fr.slOwn (j := 0) rfl rfl (Nat.zero_le _)) e46) ?_
      rintro v B6 ⟨abB6, ivB6⟩ rfl
      refine ⟨_, rfl, ?_⟩
      refine WD.done rfl ?_
      obtain ⟨⟨t52_0, t52_1⟩, e52, hp⟩ := bindS hp
      refine WJ.cl 204 (R := R_3_24 ⟨t52_0, t52_1⟩) (fun hm h k => R_3_24.mono hm h k) rfl (fun ids H' fr => f21_ok (x0 := (RowWord.mk x0_At x0_Kind x0_Name x0_N)) (g_x3.mono (Nat.zero_le _) fr.ext0.abv) e52) ?_
      rintro v B7 ⟨abB7, ivB7⟩ rfl
      refine ⟨_, rfl, ?_⟩
      refine WJ.drF 207 rfl gmix (by kernel_rfl) (by kernel_rfl) rfl (fun D8 eD8 abD8 => ?_)
      obtain ⟨t56, e56, hp⟩ := bindS hp
      refine WD.cl (R := R_24 t56) (fun hm h k => R_24.mono hm h k) rfl (fun ids H' fr => f22_ok (x0 := (RowWord.mk x0_At x0_Kind x0_Name x0_N)) e56) ?_
      rintro v B9 ⟨abB9, ivB9⟩ rfl
      refine ⟨_, rfl, ?_⟩
      obtain ⟨t58, e58, hp⟩ := bindS hp
      refine WD.cl (R := R_24 t58) (fun hm h k => R_24.mono hm h k) rfl (fun ids H' fr => f23_ok (x0 := (RowWord.mk x0_At x0_Kind x0_Name x0_N)) e58) ?_
      rintro v B10 ⟨abB10, ivB10⟩ rfl
      refine ⟨_, rfl, ?_⟩
      refine WD.ci hp rfl rfl rfl rfl rfl rfl rfl rfl rfl (fun hc59 hp => ?_) (fun hc59 hp => ?_)
      · refine WD.ci hp rfl rfl rfl rfl rfl rfl rfl rfl rfl (fun hc63 hp => ?_) (fun hc63 hp => ?_)
        · refine WD.ci hp rfl rfl rfl rfl rfl rfl rfl rfl rfl (fun hc68 hp => ?_) (fun hc68 hp => ?_)
          · refine WD.ci hp rfl rfl rfl rfl rfl rfl rfl rfl rfl (fun hc73 hp => ?_) (fun hc73 hp => ?_)
            · refine WD.ci hp rfl rfl rfl rfl rfl rfl rfl rfl rfl (fun hc78 hp => ?_) (fun hc78 hp => ?_)
              · obtain ⟨t81, e81, hp⟩ := bindS hp
                refine WD.cl (R := R_4 t81) (fun hm h k => R_4.mono hm h k) rfl (fun ids H' fr => f8_ok e81) ?_
                rintro v B11 ⟨abB11, ivB11⟩ rfl
                refine ⟨_, rfl, ?_⟩
                refine WD.done rfl ?_
                obtain rfl := endS (show some _ = some r from hp)
                exact WJ.rt 200 rfl rfl rfl (fun ids H' fr => ⟨fr.ext0, rfl⟩)
              · refine WD.done rfl ?_
                obtain rfl := endS (show some _ = some r from hp)
                exact WJ.rt 200 rfl rfl rfl (fun ids H' fr => ⟨fr.ext0, rfl⟩)
            · refine WD.done rfl ?_
              obtain rfl := endS (show some _ = some r from hp)
              exact WJ.rt 200 rfl rfl rfl (fun ids H' fr => ⟨fr.ext0, rfl⟩)
          · refine WD.done rfl ?_
            obtain rfl := endS (show some _ = some r from hp)
            exact WJ.rt 200 rfl rfl rfl (fun ids H' fr => ⟨fr.ext0, rfl⟩)
        · refine WD.done rfl ?_
          obtain rfl := endS (show some _ = some r from hp)
          exact WJ.rt 200 rfl rfl rfl (fun ids H' fr => ⟨fr.ext0, rfl⟩)
      · refine WD.done rfl ?_
        obtain rfl := endS (show some _ = some r from hp)
        exact WJ.rt 200 rfl rfl rfl (fun ids H' fr => ⟨fr.ext0, rfl⟩)
end
end Go.Proofs.YtgmejigjajcbfaaGreatDoor
