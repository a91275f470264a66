import Derived.Test.YtcephcgnfmcdhaaDoorSN
import Derived.Test.YtcephcgnfmcdhaaDoorSF
import Derived.Test.YtcephcgnfmcdhaaDoorD51
set_option linter.unusedVariables false
set_option linter.unusedSimpArgs false
namespace Go.Proofs.YtcephcgnfmcdhaaDoor
open Go Go.Det Go.RowKit
noncomputable section
/-! 28 tipstaff/tipstaffref02.Above -/
def f28_l1 (x0 : Int) : Nat → Int → Option ((Int × Int) ⊕ (Unit))
  | 0, _ => none
  | n + 1, x6 =>
    if x6 < 64 then
      (f31 x0 x6).bind fun t21 =>
      if t21 then
        some (Sum.inl ((x6, 0) : Int × Int))
      else
        f28_l1 x0 n (IntKind.i64.wrap (x6 + 1))
    else
      some (Sum.inr ())

def f28 (k : Nat) (x0 : Int) (x1 : Int) : Option (Int × Int) :=
  if x1 < 0 then
    some (0, 2)
  else
    if x1 ≥ 64 then
      some (0, 2)
    else
      (f28_l1 x0 k (IntKind.i64.wrap (x1 + 1))).bind fun s => match s with
        | .inl st => some st
        | .inr _ => 
          some (0, 6)
set_option maxRecDepth 20000 in
theorem f28_ok {k : Nat} {H : Hp} {x0 : Int} {x1 : Int} {r : Int × Int} (hp : f28 k x0 x1 = some r) :
    SCall Tryd.prog 28 [.int .u64 x0, .int .i64 x1] H (Ret fun v H' => Ext H H' ∧ R_3_24 r H.next H' v) := by
  unfold f28 at hp
  replace hp := topS hp
  refine SCall.g Tryd.func28 rfl rfl rfl rfl rfl (l := [(0, .v (.int .u64 x0)), (1, .v (.int .i64 x1))]) (fun _ => rfl) (fun B abB => ?_)
  refine WJ.ci 209 hp rfl rfl rfl rfl rfl rfl rfl rfl rfl (fun hc8 hp => ?_) (fun hc8 hp => ?_)
  · obtain rfl := endS (show some _ = some r from hp)
    exact WJ.rt 211 rfl rfl rfl (fun ids H' fr => ⟨fr.ext0, rfl⟩)
  · refine WJ.ci 202 hp rfl rfl rfl rfl rfl rfl rfl rfl rfl (fun hc11 hp => ?_) (fun hc11 hp => ?_)
    · obtain rfl := endS (show some _ = some r from hp)
      exact WJ.rt 208 rfl rfl rfl (fun ids H' fr => ⟨fr.ext0, rfl⟩)
    · refine WJ.adv 12 rfl ?_
      obtain ⟨K36, hK36, hp⟩ : ∃ K, K = _ ∧ Option.bind _ K = some r := ⟨_, rfl, cutS hp⟩
      refine WJ.cut 2 (α := Hp) (fun y => []) (fun y => []) (fun y => []) (fun y => y) (fun y => K36 (Sum.inr ()) = some r) ?_ (fun j36 => ?_)
      · rintro B3 hp
        subst hK36
        show WJ _ _ _ B3 [] _ _ ⟨[], [], true, 0⟩
        obtain rfl := endS (show some _ = some r from hp)
        exact WJ.rt 205 rfl rfl rfl (fun ids H' fr => ⟨fr.ext0, rfl⟩)
      · refine WJ.lp 200 (α := Nat × Int × Hp) (fun y => [(0, .v (.int .u64 x0)), (6, .v (.int .i64 y.2.1))]) (fun y => []) (fun y => []) (fun y => y.2.2) (fun y => y.1) (fun y => Option.bind (f28_l1 x0 y.1 y.2.1) K36 = some r) (k, IntKind.i64.wrap (x1 + 1), B) rfl hp (by exact ⟨rfl, rfl, trivial⟩) rfl rfl rfl ?_
        rintro ⟨n, x6, B1⟩ hp ih36
        show WJ _ _ _ B1 [] _ _ ⟨[(0, .v (.int .u64 x0)), (6, .v (.int .i64 x6))], [], true, 0⟩
        replace hp : Option.bind (f28_l1 x0 n x6) K36 = some r := hp
        cases n with
        | zero => rw [f28_l1] at hp; exact (noS hp).elim
        | succ n =>
          rw [f28_l1] at hp
          refine WJ.ci 204 hp rfl rfl rfl rfl rfl rfl rfl rfl rfl (fun hc16 hp => ?_) (fun hc16 hp => ?_)
          · obtain ⟨t21, e21, hp⟩ := bindS hp
            refine WJ.cl 209 (R := R_4 t21) (fun hm h k => R_4.mono hm h k) rfl (fun ids H' fr => f31_ok e21) ?_
            rintro v B2 ⟨abB2, ivB2⟩ rfl
            refine ⟨_, rfl, ?_⟩
            cases t21
            · replace hp := (itS hp).2 Bool.false_ne_true
              exact WJ.ag 209 rfl (by exact ⟨rfl, rfl, trivial⟩) rfl rfl rfl (ih36 (n, IntKind.i64.wrap (x6 + 1), B2) hp (Nat.lt_succ_self _))
            · replace hp := (itS hp).1 rfl
              subst hK36
              obtain rfl := endS (show some _ = some r from hp)
              exact WJ.rt 208 rfl rfl rfl (fun ids H' fr => ⟨fr.ext0, rfl⟩)
          · exact WJ.goto 3 (j36 B1 hp) rfl rfl (by exact trivial) rfl rfl rfl
/-! 29 tipstaff/tipstaffref02.Below -/
def f29_l1 (x0 : Int) : Nat → Int → Option ((Int × Int) ⊕ (Unit))
  | 0, _ => none
  | n + 1, x6 =>
    if x6 ≥ 0 then
      (f31 x0 x6).bind fun t21 =>
      if t21 then
        some (Sum.inl ((x6, 0) : Int × Int))
      else
        f29_l1 x0 n (IntKind.i64.wrap (x6 - 1))
    else
      some (Sum.inr ())

def f29 (k : Nat) (x0 : Int) (x1 : Int) : Option (Int × Int) :=
  if x1 < 0 then
    some (0, 2)
  else
    if x1 ≥ 64 then
      some (0, 2)
    else
      (f29_l1 x0 k (IntKind.i64.wrap (x1 - 1))).bind fun s => match s with
        | .inl st => some st
        | .inr _ => 
          some (0, 6)
set_option maxRecDepth 20000 in
theorem f29_ok {k : Nat} {H : Hp} {x0 : Int} {x1 : Int} {r : Int × Int} (hp : f29 k x0 x1 = some r) :
    SCall Tryd.prog 29 [.int .u64 x0, .int .i64 x1] H (Ret fun v H' => Ext H H' ∧ R_3_24 r H.next H' v) := by
  unfold f29 at hp
  replace hp := topS hp
  refine SCall.g Tryd.func29 rfl rfl rfl rfl rfl (l := [(0, .v (.int .u64 x0)), (1, .v (.int .i64 x1))]) (fun _ => rfl) (fun B abB => ?_)
  refine WJ.ci 209 hp rfl rfl rfl rfl rfl rfl rfl rfl rfl (fun hc8 hp => ?_) (fun hc8 hp => ?_)
  · obtain rfl := endS (show some _ = some r from hp)
    exact WJ.rt 211 rfl rfl rfl (fun ids H' fr => ⟨fr.ext0, rfl⟩)
  · refine WJ.ci 202 hp rfl rfl rfl rfl rfl rfl rfl rfl rfl (fun hc11 hp => ?_) (fun hc11 hp => ?_)
    · obtain rfl := endS (show some _ = some r from hp)
      exact WJ.rt 208 rfl rfl rfl (fun ids H' fr => ⟨fr.ext0, rfl⟩)
    · refine WJ.adv 12 rfl ?_
      obtain ⟨K37, hK37, hp⟩ : ∃ K, K = _ ∧ Option.bind _ K = some r := ⟨_, rfl, cutS hp⟩
      refine WJ.cut 2 (α := Hp) (fun y => []) (fun y => []) (fun y => []) (fun y => y) (fun y => K37 (Sum.inr ()) = some r) ?_ (fun j37 => ?_)
      · rintro B3 hp
        subst hK37
        show WJ _ _ _ B3 [] _ _ ⟨[], [], true, 0⟩
        obtain rfl := endS (show some _ = some r from hp)
        exact WJ.rt 205 rfl rfl rfl (fun ids H' fr => ⟨fr.ext0, rfl⟩)
      · refine WJ.lp 200 (α := Nat × Int × Hp) (fun y => [(0, .v (.int .u64 x0)), (6, .v (.int .i64 y.2.1))]) (fun y => []) (fun y => []) (fun y => y.2.2) (fun y => y.1) (fun y => Option.bind (f29_l1 x0 y.1 y.2.1) K37 = some r) (k, IntKind.i64.wrap (x1 - 1), B) rfl hp (by exact ⟨rfl, rfl, trivial⟩) rfl rfl rfl ?_
        rintro ⟨n, x6, B1⟩ hp ih37
        show WJ _ _ _ B1 [] _ _ ⟨[(0, .v (.int .u64 x0)), (6, .v (.int .i64 x6))], [], true, 0⟩
        replace hp : Option.bind (f29_l1 x0 n x6) K37 = some r := hp
        cases n with
        | zero => rw [f29_l1] at hp; exact (noS hp).elim
        | succ n =>
          rw [f29_l1] at hp
          refine WJ.ci 204 hp rfl rfl rfl rfl rfl rfl rfl rfl rfl (fun hc16 hp => ?_) (fun hc16 hp => ?_)
          · obtain ⟨t21, e21, hp⟩ := bindS hp
            refine WJ.cl 209 (R := R_4 t21) (fun hm h k => R_4.mono hm h k) rfl (fun ids H' fr => f31_ok e21) ?_
            rintro v B2 ⟨abB2, ivB2⟩ rfl
            refine ⟨_, rfl, ?_⟩
            cases t21
            · replace hp := (itS hp).2 Bool.false_ne_true
              exact WJ.ag 209 rfl (by exact ⟨rfl, rfl, trivial⟩) rfl rfl rfl (ih37 (n, IntKind.i64.wrap (x6 - 1), B2) hp (Nat.lt_succ_self _))
            · replace hp := (itS hp).1 rfl
              subst hK37
              obtain rfl := endS (show some _ = some r from hp)
              exact WJ.rt 208 rfl rfl rfl (fun ids H' fr => ⟨fr.ext0, rfl⟩)
          · exact WJ.goto 3 (j37 B1 hp) rfl rfl (by exact trivial) rfl rfl rfl
/-! 30 tipstaff/tipstaffref02.Nearest -/
def f30_l1 (x0 : Int) (x1 : Int) : Nat → Int → Option ((Int × Int) ⊕ (Unit))
  | 0, _ => none
  | n + 1, x6 =>
    if x6 < 64 then
      (f31 x0 (IntKind.i64.wrap (x1 - x6))).bind fun t21 =>
      if t21 then
        some (Sum.inl ((IntKind.i64.wrap (x1 - x6), 0) : Int × Int))
      else
        (f31 x0 (IntKind.i64.wrap (x1 + x6))).bind fun t29 =>
        if t29 then
          some (Sum.inl ((IntKind.i64.wrap (x1 + x6), 0) : Int × Int))
        else
          f30_l1 x0 x1 n (IntKind.i64.wrap (x6 + 1))
    else
      some (Sum.inr ())

def f30 (k : Nat) (x0 : Int) (x1 : Int) : Option (Int × Int) :=
  if x1 < 0 then
    some (0, 2)
  else
    if x1 ≥ 64 then
      some (0, 2)
    else
      (f30_l1 x0 x1 k 0).bind fun s => match s with
        | .inl st => some st
        | .inr _ => 
          some (0, 6)
set_option maxRecDepth 20000 in
theorem f30_ok {k : Nat} {H : Hp} {x0 : Int} {x1 : Int} {r : Int × Int} (hp : f30 k x0 x1 = some r) :
    SCall Tryd.prog 30 [.int .u64 x0, .int .i64 x1] H (Ret fun v H' => Ext H H' ∧ R_3_24 r H.next H' v) := by
  unfold f30 at hp
  replace hp := topS hp
  refine SCall.g Tryd.func30 rfl rfl rfl rfl rfl (l := [(0, .v (.int .u64 x0)), (1, .v (.int .i64 x1))]) (fun _ => rfl) (fun B abB => ?_)
  refine WJ.ci 209 hp rfl rfl rfl rfl rfl rfl rfl rfl rfl (fun hc8 hp => ?_) (fun hc8 hp => ?_)
  · obtain rfl := endS (show some _ = some r from hp)
    exact WJ.rt 211 rfl rfl rfl (fun ids H' fr => ⟨fr.ext0, rfl⟩)
  · refine WJ.ci 202 hp rfl rfl rfl rfl rfl rfl rfl rfl rfl (fun hc11 hp => ?_) (fun hc11 hp => ?_)
    · obtain rfl := endS (show some _ = some r from hp)
      exact WJ.rt 208 rfl rfl rfl (fun ids H' fr => ⟨fr.ext0, rfl⟩)
    · refine WJ.adv 10 rfl ?_
      obtain ⟨K38, hK38, hp⟩ : ∃ K, K = _ ∧ Option.bind _ K = some r := ⟨_, rfl, cutS hp⟩
      refine WJ.cut 2 (α := Hp) (fun y => []) (fun y => []) (fun y => []) (fun y => y) (fun y => K38 (Sum.inr ()) = some r) ?_ (fun j38 => ?_)
      · rintro B4 hp
        subst hK38
        show WJ _ _ _ B4 [] _ _ ⟨[], [], true, 0⟩
        obtain rfl := endS (show some _ = some r from hp)
        exact WJ.rt 205 rfl rfl rfl (fun ids H' fr => ⟨fr.ext0, rfl⟩)
      · refine WJ.lp 200 (α := Nat × Int × Hp) (fun y => [(0, .v (.int .u64 x0)), (1, .v (.int .i64 x1)), (6, .v (.int .i64 y.2.1))]) (fun y => []) (fun y => []) (fun y => y.2.2) (fun y => y.1) (fun y => Option.bind (f30_l1 x0 x1 y.1 y.2.1) K38 = some r) (k, 0, B) rfl hp (by exact ⟨rfl, rfl, rfl, trivial⟩) rfl rfl rfl ?_
        rintro ⟨n, x6, B1⟩ hp ih38
        show WJ _ _ _ B1 [] _ _ ⟨[(0, .v (.int .u64 x0)), (1, .v (.int .i64 x1)), (6, .v (.int .i64 x6))], [], true, 0⟩
        replace hp : Option.bind (f30_l1 x0 x1 n x6) K38 = some r := hp
        cases n with
        | zero => rw [f30_l1] at hp; exact (noS hp).elim
        | succ n =>
          rw [f30_l1] at hp
          refine WJ.ci 204 hp rfl rfl rfl rfl rfl rfl rfl rfl rfl (fun hc14 hp => ?_) (fun hc14 hp => ?_)
          · obtain ⟨t21, e21, hp⟩ := bindS hp
            refine WJ.cl 212 (R := R_4 t21) (fun hm h k => R_4.mono hm h k) rfl (fun ids H' fr => f31_ok e21) ?_
            rintro v B2 ⟨abB2, ivB2⟩ rfl
            refine ⟨_, rfl, ?_⟩
            cases t21
            · replace hp := (itS hp).2 Bool.false_ne_true
              obtain ⟨t29, e29, hp⟩ := bindS hp
              refine WJ.cl 209 (R := R_4 t29) (fun hm h k => R_4.mono hm h k) rfl (fun ids H' fr => f31_ok e29) ?_
              rintro v B3 ⟨abB3, ivB3⟩ rfl
              refine ⟨_, rfl, ?_⟩
              cases t29
              · replace hp := (itS hp).2 Bool.false_ne_true
                exact WJ.ag 209 rfl (by exact ⟨rfl, rfl, rfl, trivial⟩) rfl rfl rfl (ih38 (n, IntKind.i64.wrap (x6 + 1), B3) hp (Nat.lt_succ_self _))
              · replace hp := (itS hp).1 rfl
                subst hK38
                obtain rfl := endS (show some _ = some r from hp)
                exact WJ.rt 210 rfl rfl rfl (fun ids H' fr => ⟨fr.ext0, rfl⟩)
            · replace hp := (itS hp).1 rfl
              subst hK38
              obtain rfl := endS (show some _ = some r from hp)
              exact WJ.rt 210 rfl rfl rfl (fun ids H' fr => ⟨fr.ext0, rfl⟩)
          · exact WJ.goto 3 (j38 B1 hp) rfl rfl (by exact trivial) rfl rfl rfl
/-! 35 tipstaff/tipstaffref02.List -/
def f35_l1 (x0 : Int) : Nat → (List Int) → Int → Option ((List Int))
  | 0, _, _ => none
  | n + 1, l0, x4 =>
    if x4 < 64 then
      (f31 x0 x4).bind fun t11 =>
      (if t11 then
        (apd 8 l0 ([x4])).bind fun l15 =>
        some (l15)
      else
        some (l0)).bind fun l0_40 =>
        f35_l1 x0 n l0_40 (IntKind.i64.wrap (x4 + 1))
    else
      some (l0)

def f35 (k : Nat) (x0 : Int) : Option (List Int) :=
  (f35_l1 x0 k ([]) 0).bind fun l0_39 =>
    some l0_39
set_option maxRecDepth 20000 in
theorem f35_ok {k : Nat} {H : Hp} {x0 : Int} {r : List Int} (hp : f35 k x0 = some r) :
    SCall Tryd.prog 35 [.int .u64 x0] H (Ret fun v H' => Ext H H' ∧ R_40 r H.next H' v) := by
  unfold f35 at hp
  replace hp := topS hp
  refine SCall.g Tryd.func35 rfl rfl rfl rfl rfl (l := [(0, .v (.int .u64 x0))]) (fun _ => rfl) (fun B abB => ?_)
  refine WJ.adv 14 rfl ?_
  refine WJ.nw 1 ?_
  obtain ⟨K39, hK39, hp⟩ : ∃ K, K = _ ∧ Option.bind _ K = some r := ⟨_, rfl, cutS hp⟩
  refine WJ.cut 2 (α := (List Int) × (Option Addr) × Nat × Hp) (fun y => [(3, .v (.slice y.2.1 y.1.length y.2.2.1))]) (fun y => []) (fun y => [⟨y.2.1, y.2.2.1, 1, encL iE y.1⟩]) (fun y => y.2.2.2) (fun y => K39 (y.1) = some r) ?_ (fun j39 => ?_)
  · rintro ⟨l0_39, a0_39, c0_39, B3⟩ hp
    subst hK39
    show WJ _ _ _ B3 [⟨a0_39, c0_39, 1, encL iE l0_39⟩] _ _ ⟨[(3, .v (.slice a0_39 l0_39.length c0_39))], [], true, 0⟩
    obtain rfl := endS (show some _ = some r from hp)
    exact WJ.rt 205 rfl rfl rfl (fun ids H' fr => ⟨fr.ext0, ⟨_, _, rfl, (fr.slOwn (j := 0) rfl rfl (Nat.le_refl _))⟩⟩)
  · refine WJ.lp 200 (α := Nat × (List Int) × Int × (Option Addr) × Nat × Hp) (fun y => [(0, .v (.int .u64 x0)), (3, .v (.slice y.2.2.2.1 y.2.1.length y.2.2.2.2.1)), (4, .v (.int .i64 y.2.2.1))]) (fun y => []) (fun y => [⟨y.2.2.2.1, y.2.2.2.2.1, 1, encL iE y.2.1⟩]) (fun y => y.2.2.2.2.2) (fun y => y.1) (fun y => Option.bind (f35_l1 x0 y.1 y.2.1 y.2.2.1) K39 = some r) (k, ([] : List Int), 0, none, 0, B) rfl hp (by exact ⟨rfl, rfl, rfl, trivial⟩) rfl rfl rfl ?_
    rintro ⟨n, l0, x4, a0, c0, B1⟩ hp ih39
    show WJ _ _ _ B1 [⟨a0, c0, 1, encL iE l0⟩] _ _ ⟨[(0, .v (.int .u64 x0)), (3, .v (.slice a0 l0.length c0)), (4, .v (.int .i64 x4))], [], true, 0⟩
    replace hp : Option.bind (f35_l1 x0 n l0 x4) K39 = some r := hp
    cases n with
    | zero => rw [f35_l1] at hp; exact (noS hp).elim
    | succ n =>
      rw [f35_l1] at hp
      refine WJ.ci 204 hp rfl rfl rfl rfl rfl rfl rfl rfl rfl (fun hc6 hp => ?_) (fun hc6 hp => ?_)
      · obtain ⟨t11, e11, hp⟩ := bindS hp
        refine WJ.cl 209 (R := R_4 t11) (fun hm h k => R_4.mono hm h k) rfl (fun ids H' fr => f31_ok e11) ?_
        rintro v B2 ⟨abB2, ivB2⟩ rfl
        refine ⟨_, rfl, ?_⟩
        refine WJ.adv 1 rfl ?_
        obtain ⟨K40, hK40, hp⟩ : ∃ K, K = _ ∧ Option.bind _ K = some r := ⟨_, rfl, cutS hp⟩
        refine WJ.cut 2 (α := (List Int) × (Option Addr) × Nat) (fun y => [(0, .v (.int .u64 x0)), (3, .v (.slice y.2.1 y.1.length y.2.2)), (4, .v (.int .i64 x4))]) (fun y => []) (fun y => [⟨y.2.1, y.2.2, 1, encL iE y.1⟩]) (fun y => B2) (fun y => K40 ((y.1)) = some r) ?_ (fun j40 => ?_)
        · rintro ⟨l0_40, a0_40, c0_40⟩ hp
          subst hK40
          show WJ _ _ _ B2 [⟨a0_40, c0_40, 1, encL iE l0_40⟩] _ _ ⟨[(0, .v (.int .u64 x0)), (3, .v (.slice a0_40 l0_40.length c0_40)), (4, .v (.int .i64 x4))], [], true, 0⟩
          exact WJ.ag 205 rfl (by exact ⟨rfl, rfl, rfl, trivial⟩) rfl rfl rfl (ih39 (n, l0_40, IntKind.i64.wrap (x4 + 1), a0_40, c0_40, B2) hp (Nat.lt_succ_self _))
        · cases t11
          · replace hp := (itS hp).2 Bool.false_ne_true
            exact WJ.goto 3 (j40 (l0, a0, c0) hp) rfl rfl (by exact ⟨rfl, rfl, rfl, trivial⟩) rfl rfl rfl
          · replace hp := (itS hp).1 rfl
            refine WJ.bs (cs := encL iE [x4]) (sz := 1) (pl := [(0, .int .i64 x4)]) 204 rfl rfl rfl rfl rfl (fun _ _ => rfl) (fun _ => by rfl) rfl rfl ?_
            intro b14
            refine ⟨_, rfl, ?_⟩
            obtain ⟨l15, e15, hp⟩ := bindS hp
            obtain ⟨bd15, rfl⟩ := apd_some e15
            refine WJ.ap (L := l0) (L2 := [x4]) 200 0 rfl rfl rfl rfl rfl rfl rfl rfl (el40 rfl) rfl (fun _ => rfl) (fun _ => rfl) rfl (fun ids H' fr => fr.srcOwn (enc := iE) (sz := 1) (j := 1) (fun _ => rfl) (by decide) rfl) bd15 ?_
            intro a15 c15
            refine ⟨_, rfl, ?_⟩
            refine WJ.pop [⟨a15, c15, 1, encL iE (l0 ++ ([x4]))⟩] rfl ?_
            exact WJ.goto 3 (j40 ((l0 ++ ([x4])), a15, c15) hp) rfl rfl (by exact ⟨rfl, rfl, rfl, trivial⟩) rfl rfl rfl
      · exact WJ.goto 3 (j39 (l0, a0, c0, B1) hp) rfl rfl (by exact ⟨rfl, trivial⟩) rfl rfl rfl
/-! 32 tipstaff/tipstaffref02.Count -/
def f32 (k : Nat) (x0 : Int) : Option Int :=
  (f35 k x0).bind fun t4 =>
  some (t4.length : Int)
set_option maxRecDepth 20000 in
theorem f32_ok {k : Nat} {H : Hp} {x0 : Int} {r : Int} (hp : f32 k x0 = some r) :
    SCall Tryd.prog 32 [.int .u64 x0] H (Ret fun v H' => Ext H H' ∧ R_3 r H.next H' v) := by
  unfold f32 at hp
  replace hp := topS hp
  refine SCall.g Tryd.func32 rfl rfl rfl rfl rfl (l := [(0, .v (.int .u64 x0))]) (fun _ => rfl) (fun B abB => ?_)
  obtain ⟨t4, e4, hp⟩ := bindS hp
  refine WJ.cl 207 (R := R_40 t4) (fun hm h k => R_40.mono hm h k) rfl (fun ids H' fr => f35_ok e4) ?_
  rintro v B1 ⟨abB1, ivB1⟩ ⟨a_t4, c_t4, rfl, g_t4⟩
  refine ⟨_, rfl, ?_⟩
  obtain rfl := endS (show some _ = some r from hp)
  exact WJ.rt 203 rfl rfl rfl (fun ids H' fr => ⟨fr.ext0, rfl⟩)
/-! 33 tipstaff/tipstaffkit.SameInts -/
def f33_l1 (x0 : List Int) (x1 : List Int) : Nat → Int → Option ((Bool) ⊕ (Unit))
  | 0, _ => none
  | n + 1, x5 =>
    if x5 < (x0.length : Int) then
      (rd x0 x5).bind fun t19 =>
      (rd x1 x5).bind fun t23 =>
      if t19 = t23 then
        f33_l1 x0 x1 n (IntKind.i64.wrap (x5 + 1))
      else
        some (Sum.inl (false : Bool))
    else
      some (Sum.inr ())

def f33 (k : Nat) (x0 : List Int) (x1 : List Int) : Option Bool :=
  if (x0.length : Int) = (x1.length : Int) then
    (f33_l1 x0 x1 k 0).bind fun s => match s with
      | .inl st => some st
      | .inr _ => 
        some true
  else
    some false
set_option maxRecDepth 20000 in
theorem f33_ok {k : Nat} {H : Hp} {a_x0 : Option Addr} {c_x0 : Nat} {a_x1 : Option Addr} {c_x1 : Nat} {x0 : List Int} {x1 : List Int} {r : Bool} (g_x0 : SlF 0 H intC a_x0 c_x0 x0) (g_x1 : SlF 0 H intC a_x1 c_x1 x1) (hp : f33 k x0 x1 = some r) :
    SCall Tryd.prog 33 [.slice a_x0 x0.length c_x0, .slice a_x1 x1.length c_x1] H (Ret fun v H' => Ext H H' ∧ R_4 r H.next H' v) := by
  unfold f33 at hp
  replace hp := topS hp
  refine SCall.g Tryd.func33 rfl rfl rfl rfl rfl (l := [(0, .v (.slice a_x0 x0.length c_x0)), (1, .v (.slice a_x1 x1.length c_x1))]) (fun _ => rfl) (fun B abB => ?_)
  refine WJ.cn 211 hp rfl rfl rfl rfl rfl rfl rfl rfl rfl (fun hc10 hp => ?_) (fun hc10 hp => ?_)
  · obtain rfl := endS (show some _ = some r from hp)
    exact WJ.rt 206 rfl rfl rfl (fun ids H' fr => ⟨fr.ext0, rfl⟩)
  · refine WJ.adv 9 rfl ?_
    obtain ⟨K41, hK41, hp⟩ : ∃ K, K = _ ∧ Option.bind _ K = some r := ⟨_, rfl, cutS hp⟩
    refine WJ.cut 2 (α := Unit) (fun y => []) (fun y => []) (fun y => []) (fun y => B) (fun y => K41 (Sum.inr ()) = some r) ?_ (fun j41 => ?_)
    · rintro u hp
      subst hK41
      show WJ _ _ _ B [] _ _ ⟨[], [], true, 0⟩
      obtain rfl := endS (show some _ = some r from hp)
      exact WJ.rt 204 rfl rfl rfl (fun ids H' fr => ⟨fr.ext0, rfl⟩)
    · refine WJ.lp 200 (α := Nat × Int) (fun y => [(0, .v (.slice a_x0 x0.length c_x0)), (1, .v (.slice a_x1 x1.length c_x1)), (5, .v (.int .i64 y.2))]) (fun y => []) (fun y => []) (fun y => B) (fun y => y.1) (fun y => Option.bind (f33_l1 x0 x1 y.1 y.2) K41 = some r) (k, 0) rfl hp (by exact ⟨rfl, rfl, rfl, trivial⟩) rfl rfl rfl ?_
      rintro ⟨n, x5⟩ hp ih41
      show WJ _ _ _ B [] _ _ ⟨[(0, .v (.slice a_x0 x0.length c_x0)), (1, .v (.slice a_x1 x1.length c_x1)), (5, .v (.int .i64 x5))], [], true, 0⟩
      replace hp : Option.bind (f33_l1 x0 x1 n x5) K41 = some r := hp
      cases n with
      | zero => rw [f33_l1] at hp; exact (noS hp).elim
      | succ n =>
        rw [f33_l1] at hp
        refine WJ.ci 206 hp rfl rfl rfl rfl rfl rfl rfl rfl rfl (fun hc14 hp => ?_) (fun hc14 hp => ?_)
        · refine WJ.dr 206 rfl gmix (by kernel_rfl) (by kernel_rfl) rfl ?_
          obtain ⟨t19, e19, hp⟩ := bindS hp
          obtain ⟨b19, o19, cs19, i19, rfl, p19⟩ := g_x0.at e19 u40 sz3
          refine WD.hd (v := .pointer (some ⟨b19, o19, none⟩)) rfl rfl rfl rfl (fun _ _ _ _ _ => side_no) (fun ids H' fr => opD_indexAddr rfl (evV_eq _ _ _ _ _ rfl) (evV_eq _ _ _ _ _ rfl) (i19 _)) rfl ?_
          refine WD.hd (v := .int .i64 t19) rfl rfl rfl rfl (fun _ _ _ _ _ => side_no) (fun ids H' fr => opD_load rfl (evV_eq _ _ _ _ _ rfl) ((p19.mono (Nat.zero_le _) fr.ext0.abv).load (d := 0) ag3 rfl)) rfl ?_
          obtain ⟨t23, e23, hp⟩ := bindS hp
          obtain ⟨b23, o23, cs23, i23, rfl, p23⟩ := g_x1.at e23 u40 sz3
          refine WD.hd (v := .pointer (some ⟨b23, o23, none⟩)) rfl rfl rfl rfl (fun _ _ _ _ _ => side_no) (fun ids H' fr => opD_indexAddr rfl (evV_eq _ _ _ _ _ rfl) (evV_eq _ _ _ _ _ rfl) (i23 _)) rfl ?_
          refine WD.hd (v := .int .i64 t23) rfl rfl rfl rfl (fun _ _ _ _ _ => side_no) (fun ids H' fr => opD_load rfl (evV_eq _ _ _ _ _ rfl) ((p23.mono (Nat.zero_le _) fr.ext0.abv).load (d := 0) ag3 rfl)) rfl ?_
          refine WD.cn hp rfl rfl rfl rfl rfl rfl rfl rfl rfl (fun hc25 hp => ?_) (fun hc25 hp => ?_)
          · refine WD.done rfl ?_
            subst hK41
            obtain rfl := endS (show some _ = some r from hp)
            exact WJ.rt 205 rfl rfl rfl (fun ids H' fr => ⟨fr.ext0, rfl⟩)
          · refine WD.done rfl ?_
            exact WJ.ag 208 rfl (by exact ⟨rfl, rfl, rfl, trivial⟩) rfl rfl rfl (ih41 (n, IntKind.i64.wrap (x5 + 1)) hp (Nat.lt_succ_self _))
        · exact WJ.goto 3 (j41 () hp) rfl rfl (by exact trivial) rfl rfl rfl
/-! 9 tipstaff/tipstafflaw02.MaskLooks -/
def f9 (k : Nat) (x0 : Int) (x1 : Int) : Option Bool :=
  (f20 x0 x1).bind fun (t12_0, t12_1) =>
  (f28 k x0 x1).bind fun (t18_0, t18_1) =>
  if t12_0 = t18_0 then
    if t12_1 = t18_1 then
      (f21 x0 x1).bind fun (t32_0, t32_1) =>
      (f29 k x0 x1).bind fun (t38_0, t38_1) =>
      if t32_0 = t38_0 then
        if t32_1 = t38_1 then
          (f22 x0 x1).bind fun (t52_0, t52_1) =>
          (f30 k x0 x1).bind fun (t58_0, t58_1) =>
          if t52_0 = t58_0 then
            if t52_1 = t58_1 then
              (f26 x0 x1).bind fun t72 =>
              (f31 x0 x1).bind fun t75 =>
              (some (t72 == t75)).bind fun t76 =>
              if t76 then
                (f27 x0).bind fun t80 =>
                (f32 k x0).bind fun t82 =>
                if t80 = t82 then
                  (f34 k x0).bind fun t87 =>
                  (f35 k x0).bind fun t89 =>
                  (f33 k t87 t89).bind fun t90 =>
                  if t90 then
                    (f11 k).bind fun t93 =>
                    some t93
                  else
                    some false
                else
                  some false
              else
                some false
            else
              some false
          else
            some false
        else
          some false
      else
        some false
    else
      some false
  else
    some false
set_option maxRecDepth 20000 in
theorem f9_ok {k : Nat} {H : Hp} {x0 : Int} {x1 : Int} {r : Bool} (hp : f9 k x0 x1 = some r) :
    SCall Tryd.prog 9 [.int .u64 x0, .int .i64 x1] H (Ret fun v H' => Ext H H' ∧ R_4 r H.next H' v) := by
  unfold f9 at hp
  replace hp := topS hp
  refine SCall.g Tryd.func9 rfl rfl rfl rfl rfl (l := [(0, .v (.int .u64 x0)), (1, .v (.int .i64 x1))]) (fun _ => rfl) (fun B abB => ?_)
  obtain ⟨⟨t12_0, t12_1⟩, e12, hp⟩ := bindS hp
  refine WJ.cl 208 (R := R_3_24 ⟨t12_0, t12_1⟩) (fun hm h k => R_3_24.mono hm h k) rfl (fun ids H' fr => f20_ok e12) ?_
  rintro v B1 ⟨abB1, ivB1⟩ rfl
  refine ⟨_, rfl, ?_⟩
  obtain ⟨⟨t18_0, t18_1⟩, e18, hp⟩ := bindS hp
  refine WJ.cl 210 (R := R_3_24 ⟨t18_0, t18_1⟩) (fun hm h k => R_3_24.mono hm h k) rfl (fun ids H' fr => f28_ok e18) ?_
  rintro v B2 ⟨abB2, ivB2⟩ rfl
  refine ⟨_, rfl, ?_⟩
  refine WJ.cn 211 hp rfl rfl rfl rfl rfl rfl rfl rfl rfl (fun hc23 hp => ?_) (fun hc23 hp => ?_)
  · obtain rfl := endS (show some _ = some r from hp)
    exact WJ.rt 211 rfl rfl rfl (fun ids H' fr => ⟨fr.ext0, rfl⟩)
  · refine WJ.cn 203 hp rfl rfl rfl rfl rfl rfl rfl rfl rfl (fun hc27 hp => ?_) (fun hc27 hp => ?_)
    · obtain rfl := endS (show some _ = some r from hp)
      exact WJ.rt 207 rfl rfl rfl (fun ids H' fr => ⟨fr.ext0, rfl⟩)
    · obtain ⟨⟨t32_0, t32_1⟩, e32, hp⟩ := bindS hp
      refine WJ.cl 208 (R := R_3_24 ⟨t32_0, t32_1⟩) (fun hm h k => R_3_24.mono hm h k) rfl (fun ids H' fr => f21_ok e32) ?_
      rintro v B3 ⟨abB3, ivB3⟩ rfl
      refine ⟨_, rfl, ?_⟩
      obtain ⟨⟨t38_0, t38_1⟩, e38, hp⟩ := bindS hp
      refine WJ.cl 210 (R := R_3_24 ⟨t38_0, t38_1⟩) (fun hm h k => R_3_24.mono hm h k) rfl (fun ids H' fr => f29_ok e38) ?_
      rintro v B4 ⟨abB4, ivB4⟩ rfl
      refine ⟨_, rfl, ?_⟩
      refine WJ.cn 211 hp rfl rfl rfl rfl rfl rfl rfl rfl rfl (fun hc43 hp => ?_) (fun hc43 hp => ?_)
      · obtain rfl := endS (show some _ = some r from hp)
        exact WJ.rt 211 rfl rfl rfl (fun ids H' fr => ⟨fr.ext0, rfl⟩)
      · refine WJ.cn 203 hp rfl rfl rfl rfl rfl rfl rfl rfl rfl (fun hc47 hp => ?_) (fun hc47 hp => ?_)
        · obtain rfl := endS (show some _ = some r from hp)
          exact WJ.rt 207 rfl rfl rfl (fun ids H' fr => ⟨fr.ext0, rfl⟩)
        · obtain ⟨⟨t52_0, t52_1⟩, e52, hp⟩ := bindS hp
          refine WJ.cl 208 (R := R_3_24 ⟨t52_0, t52_1⟩) (fun hm h k => R_3_24.mono hm h k) rfl (fun ids H' fr => f22_ok e52) ?_
          rintro v B5 ⟨abB5, ivB5⟩ rfl
          refine ⟨_, rfl, ?_⟩
          obtain ⟨⟨t58_0, t58_1⟩, e58, hp⟩ := bindS hp
          refine WJ.cl 210 (R := R_3_24 ⟨t58_0, t58_1⟩) (fun hm h k => R_3_24.mono hm h k) rfl (fun ids H' fr => f30_ok e58) ?_
          rintro v B6 ⟨abB6, ivB6⟩ rfl
          refine ⟨_, rfl, ?_⟩
          refine WJ.ci 210 hp rfl rfl rfl rfl rfl rfl rfl rfl rfl (fun hc63 hp => ?_) (fun hc63 hp => ?_)
          · refine WJ.ci 203 hp rfl rfl rfl rfl rfl rfl rfl rfl rfl (fun hc67 hp => ?_) (fun hc67 hp => ?_)
            · obtain ⟨t72, e72, hp⟩ := bindS hp
              refine WJ.cl 204 (R := R_4 t72) (fun hm h k => R_4.mono hm h k) rfl (fun ids H' fr => f26_ok e72) ?_
              rintro v B7 ⟨abB7, ivB7⟩ rfl
              refine ⟨_, rfl, ?_⟩
              obtain ⟨t75, e75, hp⟩ := bindS hp
              refine WJ.cl 202 (R := R_4 t75) (fun hm h k => R_4.mono hm h k) rfl (fun ids H' fr => f31_ok e75) ?_
              rintro v B8 ⟨abB8, ivB8⟩ rfl
              refine ⟨_, rfl, ?_⟩
              obtain ⟨t76, e76, hp⟩ := bindS hp
              refine WJ.cv 200 (b := t76) (H0 := ⟨.nil, 0, 0⟩) rfl rfl rfl rfl rfl rfl (by rw [← endS e76]; exact rfl) rfl ?_
              cases t76
              · replace hp := (itS hp).2 Bool.false_ne_true
                obtain rfl := endS (show some _ = some r from hp)
                exact WJ.rt 220 rfl rfl rfl (fun ids H' fr => ⟨fr.ext0, rfl⟩)
              · replace hp := (itS hp).1 rfl
                obtain ⟨t80, e80, hp⟩ := bindS hp
                refine WJ.cl 203 (R := R_3 t80) (fun hm h k => R_3.mono hm h k) rfl (fun ids H' fr => f27_ok e80) ?_
                rintro v B9 ⟨abB9, ivB9⟩ rfl
                refine ⟨_, rfl, ?_⟩
                obtain ⟨t82, e82, hp⟩ := bindS hp
                refine WJ.cl 201 (R := R_3 t82) (fun hm h k => R_3.mono hm h k) rfl (fun ids H' fr => f32_ok e82) ?_
                rintro v B10 ⟨abB10, ivB10⟩ rfl
                refine ⟨_, rfl, ?_⟩
                refine WJ.ci 200 hp rfl rfl rfl rfl rfl rfl rfl rfl rfl (fun hc83 hp => ?_) (fun hc83 hp => ?_)
                · obtain ⟨t87, e87, hp⟩ := bindS hp
                  refine WJ.cl 203 (R := R_40 t87) (fun hm h k => R_40.mono hm h k) rfl (fun ids H' fr => f34_ok e87) ?_
                  rintro v B11 ⟨abB11, ivB11⟩ ⟨a_t87, c_t87, rfl, g_t87⟩
                  refine ⟨_, rfl, ?_⟩
                  obtain ⟨t89, e89, hp⟩ := bindS hp
                  refine WJ.cl 201 (R := R_40 t89) (fun hm h k => R_40.mono hm h k) rfl (fun ids H' fr => f35_ok e89) ?_
                  rintro v B12 ⟨abB12, ivB12⟩ ⟨a_t89, c_t89, rfl, g_t89⟩
                  refine ⟨_, rfl, ?_⟩
                  replace g_t87 := g_t87.mono (Nat.le_refl _) (abB12.le (Nat.zero_le _))
                  obtain ⟨t90, e90, hp⟩ := bindS hp
                  refine WJ.cl 200 (R := R_4 t90) (fun hm h k => R_4.mono hm h k) rfl (fun ids H' fr => f33_ok (g_t87.mono (Nat.zero_le _) (fr.abv.le (Nat.zero_le _))) (g_t89.mono (Nat.zero_le _) (fr.abv.le (Nat.zero_le _))) e90) ?_
                  rintro v B13 ⟨abB13, ivB13⟩ rfl
                  refine ⟨_, rfl, ?_⟩
                  replace g_t87 := g_t87.mono (Nat.le_refl _) (abB13.le (Nat.zero_le _))
                  replace g_t89 := g_t89.mono (Nat.le_refl _) (abB13.le (Nat.zero_le _))
                  cases t90
                  · replace hp := (itS hp).2 Bool.false_ne_true
                    obtain rfl := endS (show some _ = some r from hp)
                    exact WJ.rt 206 rfl rfl rfl (fun ids H' fr => ⟨fr.ext0, rfl⟩)
                  · replace hp := (itS hp).1 rfl
                    obtain ⟨t93, e93, hp⟩ := bindS hp
                    refine WJ.cl 202 (R := R_4 t93) (fun hm h k => R_4.mono hm h k) rfl (fun ids H' fr => f11_ok e93) ?_
                    rintro v B14 ⟨abB14, ivB14⟩ rfl
                    refine ⟨_, rfl, ?_⟩
                    replace g_t87 := g_t87.mono (Nat.le_refl _) (abB14.le (Nat.zero_le _))
                    replace g_t89 := g_t89.mono (Nat.le_refl _) (abB14.le (Nat.zero_le _))
                    obtain rfl := endS (show some _ = some r from hp)
                    exact WJ.rt 203 rfl rfl rfl (fun ids H' fr => ⟨fr.ext0, rfl⟩)
                · obtain rfl := endS (show some _ = some r from hp)
                  exact WJ.rt 213 rfl rfl rfl (fun ids H' fr => ⟨fr.ext0, rfl⟩)
            · obtain rfl := endS (show some _ = some r from hp)
              exact WJ.rt 229 rfl rfl rfl (fun ids H' fr => ⟨fr.ext0, rfl⟩)
          · obtain rfl := endS (show some _ = some r from hp)
            exact WJ.rt 233 rfl rfl rfl (fun ids H' fr => ⟨fr.ext0, rfl⟩)
/-! 10 tipstaff/tipstafflaw02.MaskWalks -/
def f10_l1 (x0 : Int) (t12 : List Int) : Nat → Int → Option ((Bool) ⊕ (Unit))
  | 0, _ => none
  | n + 1, x5 =>
    if x5 < (t12.length : Int) then
      (rd t12 x5).bind fun t28 =>
      (f20 x0 t28).bind fun (t30_0, t30_1) =>
      (rd t12 x5).bind fun t37 =>
      (f21 x0 t37).bind fun (t39_0, t39_1) =>
      ((rd t12 x5).bind fun t45 =>
      (f26 x0 t45).bind fun t47 =>
      if t47 then
        if (IntKind.i64.wrap (x5 + 1)) < (t12.length : Int) then
          (rd t12 (IntKind.i64.wrap (x5 + 1))).bind fun t61 =>
          (f23 t30_0 t30_1 t61).bind fun t63 =>
          if t63 then
            if (IntKind.i64.wrap (x5 + 1)) = (t12.length : Int) then
              if t30_1 = 6 then
                if x5 > 0 then
                  (rd t12 (IntKind.i64.wrap (x5 - 1))).bind fun t87 =>
                  (f23 t39_0 t39_1 t87).bind fun t89 =>
                  if t89 then
                    if x5 = 0 then
                      if t39_1 = 6 then
                        some (Sum.inr ())
                      else
                        some (Sum.inl (false : Bool))
                    else
                      some (Sum.inr ())
                  else
                    some (Sum.inl (false : Bool))
                else
                  if x5 = 0 then
                    if t39_1 = 6 then
                      some (Sum.inr ())
                    else
                      some (Sum.inl (false : Bool))
                  else
                    some (Sum.inr ())
              else
                some (Sum.inl (false : Bool))
            else
              if x5 > 0 then
                (rd t12 (IntKind.i64.wrap (x5 - 1))).bind fun t87 =>
                (f23 t39_0 t39_1 t87).bind fun t89 =>
                if t89 then
                  if x5 = 0 then
                    if t39_1 = 6 then
                      some (Sum.inr ())
                    else
                      some (Sum.inl (false : Bool))
                  else
                    some (Sum.inr ())
                else
                  some (Sum.inl (false : Bool))
              else
                if x5 = 0 then
                  if t39_1 = 6 then
                    some (Sum.inr ())
                  else
                    some (Sum.inl (false : Bool))
                else
                  some (Sum.inr ())
          else
            some (Sum.inl (false : Bool))
        else
          if (IntKind.i64.wrap (x5 + 1)) = (t12.length : Int) then
            if t30_1 = 6 then
              if x5 > 0 then
                (rd t12 (IntKind.i64.wrap (x5 - 1))).bind fun t87 =>
                (f23 t39_0 t39_1 t87).bind fun t89 =>
                if t89 then
                  if x5 = 0 then
                    if t39_1 = 6 then
                      some (Sum.inr ())
                    else
                      some (Sum.inl (false : Bool))
                  else
                    some (Sum.inr ())
                else
                  some (Sum.inl (false : Bool))
              else
                if x5 = 0 then
                  if t39_1 = 6 then
                    some (Sum.inr ())
                  else
                    some (Sum.inl (false : Bool))
                else
                  some (Sum.inr ())
            else
              some (Sum.inl (false : Bool))
          else
            if x5 > 0 then
              (rd t12 (IntKind.i64.wrap (x5 - 1))).bind fun t87 =>
              (f23 t39_0 t39_1 t87).bind fun t89 =>
              if t89 then
                if x5 = 0 then
                  if t39_1 = 6 then
                    some (Sum.inr ())
                  else
                    some (Sum.inl (false : Bool))
                else
                  some (Sum.inr ())
              else
                some (Sum.inl (false : Bool))
            else
              if x5 = 0 then
                if t39_1 = 6 then
                  some (Sum.inr ())
                else
                  some (Sum.inl (false : Bool))
              else
                some (Sum.inr ())
      else
        some (Sum.inl (false : Bool))).bind fun s => match s with
        | .inl st => some (Sum.inl st)
        | .inr _ => 
          f10_l1 x0 t12 n (IntKind.i64.wrap (x5 + 1))
    else
      some (Sum.inr ())

def f10 (k : Nat) (x0 : Int) : Option Bool :=
  (f5 k).bind fun t10 =>
  (f34 k x0).bind fun t12 =>
  (f27 x0).bind fun t16 =>
  if (t12.length : Int) = t16 then
    (f10_l1 x0 t12 k 0).bind fun s => match s with
      | .inl st => some st
      | .inr _ => 
        if t10 then
          (f26 x0 0).bind fun t104 =>
          if (t12.length : Int) > 0 then
            (rd t12 0).bind fun t110 =>
            (some (t110 == 0)).bind fun t112 =>
            (some (t104 == t112)).bind fun t114 =>
            some t114
          else
            (some (t104 == false)).bind fun t114 =>
            some t114
        else
          some false
  else
    some false
set_option maxRecDepth 20000 in
theorem f10_ok {k : Nat} {H : Hp} {x0 : Int} {r : Bool} (hp : f10 k x0 = some r) :
    SCall Tryd.prog 10 [.int .u64 x0] H (Ret fun v H' => Ext H H' ∧ R_4 r H.next H' v) := by
  unfold f10 at hp
  replace hp := topS hp
  refine SCall.g Tryd.func10 rfl rfl rfl rfl rfl (l := [(0, .v (.int .u64 x0))]) (fun _ => rfl) (fun B abB => ?_)
  obtain ⟨t10, e10, hp⟩ := bindS hp
  refine WJ.cl 206 (R := R_4 t10) (fun hm h k => R_4.mono hm h k) rfl (fun ids H' fr => f5_ok e10) ?_
  rintro v B1 ⟨abB1, ivB1⟩ rfl
  refine ⟨_, rfl, ?_⟩
  obtain ⟨t12, e12, hp⟩ := bindS hp
  refine WJ.cl 205 (R := R_40 t12) (fun hm h k => R_40.mono hm h k) rfl (fun ids H' fr => f34_ok e12) ?_
  rintro v B2 ⟨abB2, ivB2⟩ ⟨a_t12, c_t12, rfl, g_t12⟩
  refine ⟨_, rfl, ?_⟩
  obtain ⟨t16, e16, hp⟩ := bindS hp
  refine WJ.cl 208 (R := R_3 t16) (fun hm h k => R_3.mono hm h k) rfl (fun ids H' fr => f27_ok e16) ?_
  rintro v B3 ⟨abB3, ivB3⟩ rfl
  refine ⟨_, rfl, ?_⟩
  replace g_t12 := g_t12.mono (Nat.le_refl _) (abB3.le (Nat.zero_le _))
  refine WJ.cn 200 hp rfl rfl rfl rfl rfl rfl rfl rfl rfl (fun hc17 hp => ?_) (fun hc17 hp => ?_)
  · obtain rfl := endS (show some _ = some r from hp)
    exact WJ.rt 206 rfl rfl rfl (fun ids H' fr => ⟨fr.ext0, rfl⟩)
  · refine WJ.adv 9 rfl ?_
    obtain ⟨K42, hK42, hp⟩ : ∃ K, K = _ ∧ Option.bind _ K = some r := ⟨_, rfl, cutS hp⟩
    refine WJ.cut 2 (α := Hp) (fun y => [(0, .v (.int .u64 x0)), (3, .v (.bool t10)), (4, .v (.slice a_t12 t12.length c_t12))]) (fun y => []) (fun y => []) (fun y => y) (fun y => K42 (Sum.inr ()) = some r ∧ SlF H.next y intC a_t12 c_t12 t12) ?_ (fun j42 => ?_)
    · rintro B14 ⟨hp, g_t12⟩
      subst hK42
      show WJ _ _ _ B14 [] _ _ ⟨[(0, .v (.int .u64 x0)), (3, .v (.bool t10)), (4, .v (.slice a_t12 t12.length c_t12))], [], true, 0⟩
      cases t10
      · replace hp := (itS hp).2 Bool.false_ne_true
        obtain rfl := endS (show some _ = some r from hp)
        exact WJ.rt 219 rfl rfl rfl (fun ids H' fr => ⟨fr.ext0, rfl⟩)
      · replace hp := (itS hp).1 rfl
        obtain ⟨t104, e104, hp⟩ := bindS hp
        refine WJ.cl 205 (R := R_4 t104) (fun hm h k => R_4.mono hm h k) rfl (fun ids H' fr => f26_ok e104) ?_
        rintro v B15 ⟨abB15, ivB15⟩ rfl
        refine ⟨_, rfl, ?_⟩
        replace g_t12 := g_t12.mono (Nat.le_refl _) (abB15.le (Nat.zero_le _))
        refine WJ.ci 202 hp rfl rfl rfl rfl rfl rfl rfl rfl rfl (fun hc107 hp => ?_) (fun hc107 hp => ?_)
        · obtain ⟨t110, e110, hp⟩ := bindS hp
          obtain ⟨b110, o110, cs110, i110, rfl, p110⟩ := g_t12.at e110 u40 sz3
          refine WJ.hd (v := .pointer (some ⟨b110, o110, none⟩)) 202 rfl rfl rfl rfl (fun ids H' fr => opD_indexAddr rfl (evV_eq _ _ _ _ _ rfl) (evV_eq _ _ _ _ _ rfl) (i110 _)) rfl ?_
          refine WJ.hd (v := .int .i64 t110) 200 rfl rfl rfl rfl (fun ids H' fr => opD_load rfl (evV_eq _ _ _ _ _ rfl) ((p110.mono (Nat.zero_le _) (fr.abv.le (Nat.zero_le _))).load (d := 0) ag3 rfl)) rfl ?_
          obtain ⟨t112, e112, hp⟩ := bindS hp
          refine WJ.cv 200 (b := t112) (H0 := ⟨.nil, 0, 0⟩) rfl rfl rfl rfl rfl rfl (by rw [← endS e112]; exact rfl) rfl ?_
          obtain ⟨t114, e114, hp⟩ := bindS hp
          refine WJ.cv 201 (b := t114) (H0 := ⟨.nil, 0, 0⟩) rfl rfl rfl rfl rfl rfl (by rw [← endS e114]; exact rfl) rfl ?_
          obtain rfl := endS (show some _ = some r from hp)
          exact WJ.rt 203 rfl rfl rfl (fun ids H' fr => ⟨fr.ext0, rfl⟩)
        · obtain ⟨t114, e114, hp⟩ := bindS hp
          refine WJ.cv 206 (b := t114) (H0 := ⟨.nil, 0, 0⟩) rfl rfl rfl rfl rfl rfl (by rw [← endS e114]; exact rfl) rfl ?_
          obtain rfl := endS (show some _ = some r from hp)
          exact WJ.rt 203 rfl rfl rfl (fun ids H' fr => ⟨fr.ext0, rfl⟩)
    · refine WJ.lp 200 (α := Nat × Int × Hp) (fun y => [(0, .v (.int .u64 x0)), (3, .v (.bool t10)), (4, .v (.slice a_t12 t12.length c_t12)), (5, .v (.int .i64 y.2.1))]) (fun y => []) (fun y => []) (fun y => y.2.2) (fun y => y.1) (fun y => Option.bind (f10_l1 x0 t12 y.1 y.2.1) K42 = some r ∧ SlF H.next y.2.2 intC a_t12 c_t12 t12) (k, 0, B3) rfl ⟨hp, g_t12⟩ (by exact ⟨rfl, rfl, rfl, rfl, trivial⟩) rfl rfl rfl ?_
      rintro ⟨n, x5, B4⟩ ⟨hp, g_t12⟩ ih42
      show WJ _ _ _ B4 [] _ _ ⟨[(0, .v (.int .u64 x0)), (3, .v (.bool t10)), (4, .v (.slice a_t12 t12.length c_t12)), (5, .v (.int .i64 x5))], [], true, 0⟩
      replace hp : Option.bind (f10_l1 x0 t12 n x5) K42 = some r := hp
      cases n with
      | zero => rw [f10_l1] at hp; exact (noS hp).elim
      | succ n =>
        rw [f10_l1] at hp
        refine WJ.ci 206 hp rfl rfl rfl rfl rfl rfl rfl rfl rfl (fun hc21 hp => ?_) (fun hc21 hp => ?_)
        · obtain ⟨t28, e28, hp⟩ := bindS hp
          obtain ⟨b28, o28, cs28, i28, rfl, p28⟩ := g_t12.at e28 u40 sz3
          refine WJ.hd (v := .pointer (some ⟨b28, o28, none⟩)) 210 rfl rfl rfl rfl (fun ids H' fr => opD_indexAddr rfl (evV_eq _ _ _ _ _ rfl) (evV_eq _ _ _ _ _ rfl) (i28 _)) rfl ?_
          refine WJ.hd (v := .int .i64 t28) 200 rfl rfl rfl rfl (fun ids H' fr => opD_load rfl (evV_eq _ _ _ _ _ rfl) ((p28.mono (Nat.zero_le _) (fr.abv.le (Nat.zero_le _))).load (d := 0) ag3 rfl)) rfl ?_
          obtain ⟨⟨t30_0, t30_1⟩, e30, hp⟩ := bindS hp
          refine WJ.cl 200 (R := R_3_24 ⟨t30_0, t30_1⟩) (fun hm h k => R_3_24.mono hm h k) rfl (fun ids H' fr => f20_ok e30) ?_
          rintro v B5 ⟨abB5, ivB5⟩ rfl
          refine ⟨_, rfl, ?_⟩
          replace g_t12 := g_t12.mono (Nat.le_refl _) (abB5.le (Nat.zero_le _))
          replace p28 := p28.mono (Nat.le_refl _) (abB5.le (Nat.zero_le _))
          obtain ⟨t37, e37, hp⟩ := bindS hp
          obtain ⟨b37, o37, cs37, i37, rfl, p37⟩ := g_t12.at e37 u40 sz3
          refine WJ.hd (v := .pointer (some ⟨b37, o37, none⟩)) 211 rfl rfl rfl rfl (fun ids H' fr => opD_indexAddr rfl (evV_eq _ _ _ _ _ rfl) (evV_eq _ _ _ _ _ rfl) (i37 _)) rfl ?_
          refine WJ.hd (v := .int .i64 t37) 200 rfl rfl rfl rfl (fun ids H' fr => opD_load rfl (evV_eq _ _ _ _ _ rfl) ((p37.mono (Nat.zero_le _) (fr.abv.le (Nat.zero_le _))).load (d := 0) ag3 rfl)) rfl ?_
          obtain ⟨⟨t39_0, t39_1⟩, e39, hp⟩ := bindS hp
          refine WJ.cl 200 (R := R_3_24 ⟨t39_0, t39_1⟩) (fun hm h k => R_3_24.mono hm h k) rfl (fun ids H' fr => f21_ok e39) ?_
          rintro v B6 ⟨abB6, ivB6⟩ rfl
          refine ⟨_, rfl, ?_⟩
          replace g_t12 := g_t12.mono (Nat.le_refl _) (abB6.le (Nat.zero_le _))
          replace p28 := p28.mono (Nat.le_refl _) (abB6.le (Nat.zero_le _))
          replace p37 := p37.mono (Nat.le_refl _) (abB6.le (Nat.zero_le _))
          refine WJ.adv 7 rfl ?_
          obtain ⟨K43, hK43, hp⟩ : ∃ K, K = _ ∧ Option.bind _ K = some r := ⟨_, rfl, cutS hp⟩
          refine WJ.cut 3 (α := Hp) (fun y => [(0, .v (.int .u64 x0)), (3, .v (.bool t10)), (4, .v (.slice a_t12 t12.length c_t12)), (5, .v (.int .i64 x5))]) (fun y => []) (fun y => []) (fun y => y) (fun y => K43 ((Sum.inr ())) = some r ∧ SlF H.next y intC a_t12 c_t12 t12) ?_ (fun j43 => ?_)
          · rintro B13 ⟨hp, g_t12⟩
            subst hK43
            show WJ _ _ _ B13 [] _ _ ⟨[(0, .v (.int .u64 x0)), (3, .v (.bool t10)), (4, .v (.slice a_t12 t12.length c_t12)), (5, .v (.int .i64 x5))], [], true, 0⟩
            exact WJ.ag 205 rfl (by exact ⟨rfl, rfl, rfl, rfl, trivial⟩) rfl rfl rfl (ih42 (n, IntKind.i64.wrap (x5 + 1), B13) ⟨hp, g_t12⟩ (Nat.lt_succ_self _))
          · obtain ⟨t45, e45, hp⟩ := bindS hp
            obtain ⟨b45, o45, cs45, i45, rfl, p45⟩ := g_t12.at e45 u40 sz3
            refine WJ.hd (v := .pointer (some ⟨b45, o45, none⟩)) 204 rfl rfl rfl rfl (fun ids H' fr => opD_indexAddr rfl (evV_eq _ _ _ _ _ rfl) (evV_eq _ _ _ _ _ rfl) (i45 _)) rfl ?_
            refine WJ.hd (v := .int .i64 t45) 200 rfl rfl rfl rfl (fun ids H' fr => opD_load rfl (evV_eq _ _ _ _ _ rfl) ((p45.mono (Nat.zero_le _) (fr.abv.le (Nat.zero_le _))).load (d := 0) ag3 rfl)) rfl ?_
            obtain ⟨t47, e47, hp⟩ := bindS hp
            refine WJ.cl 200 (R := R_4 t47) (fun hm h k => R_4.mono hm h k) rfl (fun ids H' fr => f26_ok e47) ?_
            rintro v B7 ⟨abB7, ivB7⟩ rfl
            refine ⟨_, rfl, ?_⟩
            replace g_t12 := g_t12.mono (Nat.le_refl _) (abB7.le (Nat.zero_le _))
            replace p28 := p28.mono (Nat.le_refl _) (abB7.le (Nat.zero_le _))
            replace p37 := p37.mono (Nat.le_refl _) (abB7.le (Nat.zero_le _))
            replace p45 := p45.mono (Nat.le_refl _) (abB7.le (Nat.zero_le _))
            cases t47
            · replace hp := (itS hp).2 Bool.false_ne_true
              subst hK43
              subst hK42
              obtain rfl := endS (show some _ = some r from hp)
              exact WJ.rt 259 rfl rfl rfl (fun ids H' fr => ⟨fr.ext0, rfl⟩)
            · replace hp := (itS hp).1 rfl
              refine WJ.ci 206 hp rfl rfl rfl rfl rfl rfl rfl rfl rfl (fun hc54 hp => ?_) (fun hc54 hp => ?_)
              · obtain ⟨t61, e61, hp⟩ := bindS hp
                obtain ⟨b61, o61, cs61, i61, rfl, p61⟩ := g_t12.at e61 u40 sz3
                refine WJ.hd (v := .pointer (some ⟨b61, o61, none⟩)) 206 rfl rfl rfl rfl (fun ids H' fr => opD_indexAddr rfl (evV_eq _ _ _ _ _ rfl) (evV_eq _ _ _ _ _ rfl) (i61 _)) rfl ?_
                refine WJ.hd (v := .int .i64 t61) 200 rfl rfl rfl rfl (fun ids H' fr => opD_load rfl (evV_eq _ _ _ _ _ rfl) ((p61.mono (Nat.zero_le _) (fr.abv.le (Nat.zero_le _))).load (d := 0) ag3 rfl)) rfl ?_
                obtain ⟨t63, e63, hp⟩ := bindS hp
                refine WJ.cl 200 (R := R_4 t63) (fun hm h k => R_4.mono hm h k) rfl (fun ids H' fr => f23_ok e63) ?_
                rintro v B8 ⟨abB8, ivB8⟩ rfl
                refine ⟨_, rfl, ?_⟩
                replace g_t12 := g_t12.mono (Nat.le_refl _) (abB8.le (Nat.zero_le _))
                replace p28 := p28.mono (Nat.le_refl _) (abB8.le (Nat.zero_le _))
                replace p37 := p37.mono (Nat.le_refl _) (abB8.le (Nat.zero_le _))
                replace p45 := p45.mono (Nat.le_refl _) (abB8.le (Nat.zero_le _))
                replace p61 := p61.mono (Nat.le_refl _) (abB8.le (Nat.zero_le _))
                cases t63
                · replace hp := (itS hp).2 Bool.false_ne_true
                  subst hK43
                  subst hK42
                  obtain rfl := endS (show some _ = some r from hp)
                  exact WJ.rt 243 rfl rfl rfl (fun ids H' fr => ⟨fr.ext0, rfl⟩)
                · replace hp := (itS hp).1 rfl
                  refine WJ.ci 208 hp rfl rfl rfl rfl rfl rfl rfl rfl rfl (fun hc72 hp => ?_) (fun hc72 hp => ?_)
                  · refine WJ.cn 202 hp rfl rfl rfl rfl rfl rfl rfl rfl rfl (fun hc75 hp => ?_) (fun hc75 hp => ?_)
                    · subst hK43
                      subst hK42
                      obtain rfl := endS (show some _ = some r from hp)
                      exact WJ.rt 231 rfl rfl rfl (fun ids H' fr => ⟨fr.ext0, rfl⟩)
                    · refine WJ.ci 204 hp rfl rfl rfl rfl rfl rfl rfl rfl rfl (fun hc80 hp => ?_) (fun hc80 hp => ?_)
                      · obtain ⟨t87, e87, hp⟩ := bindS hp
                        obtain ⟨b87, o87, cs87, i87, rfl, p87⟩ := g_t12.at e87 u40 sz3
                        refine WJ.hd (v := .pointer (some ⟨b87, o87, none⟩)) 206 rfl rfl rfl rfl (fun ids H' fr => opD_indexAddr rfl (evV_eq _ _ _ _ _ rfl) (evV_eq _ _ _ _ _ rfl) (i87 _)) rfl ?_
                        refine WJ.hd (v := .int .i64 t87) 200 rfl rfl rfl rfl (fun ids H' fr => opD_load rfl (evV_eq _ _ _ _ _ rfl) ((p87.mono (Nat.zero_le _) (fr.abv.le (Nat.zero_le _))).load (d := 0) ag3 rfl)) rfl ?_
                        obtain ⟨t89, e89, hp⟩ := bindS hp
                        refine WJ.cl 200 (R := R_4 t89) (fun hm h k => R_4.mono hm h k) rfl (fun ids H' fr => f23_ok e89) ?_
                        rintro v B9 ⟨abB9, ivB9⟩ rfl
                        refine ⟨_, rfl, ?_⟩
                        replace g_t12 := g_t12.mono (Nat.le_refl _) (abB9.le (Nat.zero_le _))
                        replace p28 := p28.mono (Nat.le_refl _) (abB9.le (Nat.zero_le _))
                        replace p37 := p37.mono (Nat.le_refl _) (abB9.le (Nat.zero_le _))
                        replace p45 := p45.mono (Nat.le_refl _) (abB9.le (Nat.zero_le _))
                        replace p61 := p61.mono (Nat.le_refl _) (abB9.le (Nat.zero_le _))
                        replace p87 := p87.mono (Nat.le_refl _) (abB9.le (Nat.zero_le _))
                        cases t89
                        · replace hp := (itS hp).2 Bool.false_ne_true
                          subst hK43
                          subst hK42
                          obtain rfl := endS (show some _ = some r from hp)
                          exact WJ.rt 217 rfl rfl rfl (fun ids H' fr => ⟨fr.ext0, rfl⟩)
                        · replace hp := (itS hp).1 rfl
                          refine WJ.ci 205 hp rfl rfl rfl rfl rfl rfl rfl rfl rfl (fun hc95 hp => ?_) (fun hc95 hp => ?_)
                          · refine WJ.cn 202 hp rfl rfl rfl rfl rfl rfl rfl rfl rfl (fun hc98 hp => ?_) (fun hc98 hp => ?_)
                            · subst hK43
                              subst hK42
                              obtain rfl := endS (show some _ = some r from hp)
                              exact WJ.rt 208 rfl rfl rfl (fun ids H' fr => ⟨fr.ext0, rfl⟩)
                            · exact WJ.goto 6 (j43 B9 ⟨hp, g_t12⟩) rfl rfl (by exact ⟨rfl, rfl, rfl, rfl, trivial⟩) rfl rfl rfl
                          · exact WJ.goto 9 (j43 B9 ⟨hp, g_t12⟩) rfl rfl (by exact ⟨rfl, rfl, rfl, rfl, trivial⟩) rfl rfl rfl
                      · refine WJ.ci 214 hp rfl rfl rfl rfl rfl rfl rfl rfl rfl (fun hc95 hp => ?_) (fun hc95 hp => ?_)
                        · refine WJ.cn 202 hp rfl rfl rfl rfl rfl rfl rfl rfl rfl (fun hc98 hp => ?_) (fun hc98 hp => ?_)
                          · subst hK43
                            subst hK42
                            obtain rfl := endS (show some _ = some r from hp)
                            exact WJ.rt 208 rfl rfl rfl (fun ids H' fr => ⟨fr.ext0, rfl⟩)
                          · exact WJ.goto 6 (j43 B8 ⟨hp, g_t12⟩) rfl rfl (by exact ⟨rfl, rfl, rfl, rfl, trivial⟩) rfl rfl rfl
                        · exact WJ.goto 9 (j43 B8 ⟨hp, g_t12⟩) rfl rfl (by exact ⟨rfl, rfl, rfl, rfl, trivial⟩) rfl rfl rfl
                  · refine WJ.ci 207 hp rfl rfl rfl rfl rfl rfl rfl rfl rfl (fun hc80 hp => ?_) (fun hc80 hp => ?_)
                    · obtain ⟨t87, e87, hp⟩ := bindS hp
                      obtain ⟨b87, o87, cs87, i87, rfl, p87⟩ := g_t12.at e87 u40 sz3
                      refine WJ.hd (v := .pointer (some ⟨b87, o87, none⟩)) 206 rfl rfl rfl rfl (fun ids H' fr => opD_indexAddr rfl (evV_eq _ _ _ _ _ rfl) (evV_eq _ _ _ _ _ rfl) (i87 _)) rfl ?_
                      refine WJ.hd (v := .int .i64 t87) 200 rfl rfl rfl rfl (fun ids H' fr => opD_load rfl (evV_eq _ _ _ _ _ rfl) ((p87.mono (Nat.zero_le _) (fr.abv.le (Nat.zero_le _))).load (d := 0) ag3 rfl)) rfl ?_
                      obtain ⟨t89, e89, hp⟩ := bindS hp
                      refine WJ.cl 200 (R := R_4 t89) (fun hm h k => R_4.mono hm h k) rfl (fun ids H' fr => f23_ok e89) ?_
                      rintro v B10 ⟨abB10, ivB10⟩ rfl
                      refine ⟨_, rfl, ?_⟩
                      replace g_t12 := g_t12.mono (Nat.le_refl _) (abB10.le (Nat.zero_le _))
                      replace p28 := p28.mono (Nat.le_refl _) (abB10.le (Nat.zero_le _))
                      replace p37 := p37.mono (Nat.le_refl _) (abB10.le (Nat.zero_le _))
                      replace p45 := p45.mono (Nat.le_refl _) (abB10.le (Nat.zero_le _))
                      replace p61 := p61.mono (Nat.le_refl _) (abB10.le (Nat.zero_le _))
                      replace p87 := p87.mono (Nat.le_refl _) (abB10.le (Nat.zero_le _))
                      cases t89
                      · replace hp := (itS hp).2 Bool.false_ne_true
                        subst hK43
                        subst hK42
                        obtain rfl := endS (show some _ = some r from hp)
                        exact WJ.rt 217 rfl rfl rfl (fun ids H' fr => ⟨fr.ext0, rfl⟩)
                      · replace hp := (itS hp).1 rfl
                        refine WJ.ci 205 hp rfl rfl rfl rfl rfl rfl rfl rfl rfl (fun hc95 hp => ?_) (fun hc95 hp => ?_)
                        · refine WJ.cn 202 hp rfl rfl rfl rfl rfl rfl rfl rfl rfl (fun hc98 hp => ?_) (fun hc98 hp => ?_)
                          · subst hK43
                            subst hK42
                            obtain rfl := endS (show some _ = some r from hp)
                            exact WJ.rt 208 rfl rfl rfl (fun ids H' fr => ⟨fr.ext0, rfl⟩)
                          · exact WJ.goto 6 (j43 B10 ⟨hp, g_t12⟩) rfl rfl (by exact ⟨rfl, rfl, rfl, rfl, trivial⟩) rfl rfl rfl
                        · exact WJ.goto 9 (j43 B10 ⟨hp, g_t12⟩) rfl rfl (by exact ⟨rfl, rfl, rfl, rfl, trivial⟩) rfl rfl rfl
                    · refine WJ.ci 214 hp rfl rfl rfl rfl rfl rfl rfl rfl rfl (fun hc95 hp => ?_) (fun hc95 hp => ?_)
                      · refine WJ.cn 202 hp rfl rfl rfl rfl rfl rfl rfl rfl rfl (fun hc98 hp => ?_) (fun hc98 hp => ?_)
                        · subst hK43
                          subst hK42
                          obtain rfl := endS (show some _ = some r from hp)
                          exact WJ.rt 208 rfl rfl rfl (fun ids H' fr => ⟨fr.ext0, rfl⟩)
                        · exact WJ.goto 6 (j43 B8 ⟨hp, g_t12⟩) rfl rfl (by exact ⟨rfl, rfl, rfl, rfl, trivial⟩) rfl rfl rfl
                      · exact WJ.goto 9 (j43 B8 ⟨hp, g_t12⟩) rfl rfl (by exact ⟨rfl, rfl, rfl, rfl, trivial⟩) rfl rfl rfl
              · refine WJ.ci 217 hp rfl rfl rfl rfl rfl rfl rfl rfl rfl (fun hc72 hp => ?_) (fun hc72 hp => ?_)
                · refine WJ.cn 202 hp rfl rfl rfl rfl rfl rfl rfl rfl rfl (fun hc75 hp => ?_) (fun hc75 hp => ?_)
                  · subst hK43
                    subst hK42
                    obtain rfl := endS (show some _ = some r from hp)
                    exact WJ.rt 231 rfl rfl rfl (fun ids H' fr => ⟨fr.ext0, rfl⟩)
                  · refine WJ.ci 204 hp rfl rfl rfl rfl rfl rfl rfl rfl rfl (fun hc80 hp => ?_) (fun hc80 hp => ?_)
                    · obtain ⟨t87, e87, hp⟩ := bindS hp
                      obtain ⟨b87, o87, cs87, i87, rfl, p87⟩ := g_t12.at e87 u40 sz3
                      refine WJ.hd (v := .pointer (some ⟨b87, o87, none⟩)) 206 rfl rfl rfl rfl (fun ids H' fr => opD_indexAddr rfl (evV_eq _ _ _ _ _ rfl) (evV_eq _ _ _ _ _ rfl) (i87 _)) rfl ?_
                      refine WJ.hd (v := .int .i64 t87) 200 rfl rfl rfl rfl (fun ids H' fr => opD_load rfl (evV_eq _ _ _ _ _ rfl) ((p87.mono (Nat.zero_le _) (fr.abv.le (Nat.zero_le _))).load (d := 0) ag3 rfl)) rfl ?_
                      obtain ⟨t89, e89, hp⟩ := bindS hp
                      refine WJ.cl 200 (R := R_4 t89) (fun hm h k => R_4.mono hm h k) rfl (fun ids H' fr => f23_ok e89) ?_
                      rintro v B11 ⟨abB11, ivB11⟩ rfl
                      refine ⟨_, rfl, ?_⟩
                      replace g_t12 := g_t12.mono (Nat.le_refl _) (abB11.le (Nat.zero_le _))
                      replace p28 := p28.mono (Nat.le_refl _) (abB11.le (Nat.zero_le _))
                      replace p37 := p37.mono (Nat.le_refl _) (abB11.le (Nat.zero_le _))
                      replace p45 := p45.mono (Nat.le_refl _) (abB11.le (Nat.zero_le _))
                      replace p87 := p87.mono (Nat.le_refl _) (abB11.le (Nat.zero_le _))
                      cases t89
                      · replace hp := (itS hp).2 Bool.false_ne_true
                        subst hK43
                        subst hK42
                        obtain rfl := endS (show some _ = some r from hp)
                        exact WJ.rt 217 rfl rfl rfl (fun ids H' fr => ⟨fr.ext0, rfl⟩)
                      · replace hp := (itS hp).1 rfl
                        refine WJ.ci 205 hp rfl rfl rfl rfl rfl rfl rfl rfl rfl (fun hc95 hp => ?_) (fun hc95 hp => ?_)
                        · refine WJ.cn 202 hp rfl rfl rfl rfl rfl rfl rfl rfl rfl (fun hc98 hp => ?_) (fun hc98 hp => ?_)
                          · subst hK43
                            subst hK42
                            obtain rfl := endS (show some _ = some r from hp)
                            exact WJ.rt 208 rfl rfl rfl (fun ids H' fr => ⟨fr.ext0, rfl⟩)
                          · exact WJ.goto 6 (j43 B11 ⟨hp, g_t12⟩) rfl rfl (by exact ⟨rfl, rfl, rfl, rfl, trivial⟩) rfl rfl rfl
                        · exact WJ.goto 9 (j43 B11 ⟨hp, g_t12⟩) rfl rfl (by exact ⟨rfl, rfl, rfl, rfl, trivial⟩) rfl rfl rfl
                    · refine WJ.ci 214 hp rfl rfl rfl rfl rfl rfl rfl rfl rfl (fun hc95 hp => ?_) (fun hc95 hp => ?_)
                      · refine WJ.cn 202 hp rfl rfl rfl rfl rfl rfl rfl rfl rfl (fun hc98 hp => ?_) (fun hc98 hp => ?_)
                        · subst hK43
                          subst hK42
                          obtain rfl := endS (show some _ = some r from hp)
                          exact WJ.rt 208 rfl rfl rfl (fun ids H' fr => ⟨fr.ext0, rfl⟩)
                        · exact WJ.goto 6 (j43 B7 ⟨hp, g_t12⟩) rfl rfl (by exact ⟨rfl, rfl, rfl, rfl, trivial⟩) rfl rfl rfl
                      · exact WJ.goto 9 (j43 B7 ⟨hp, g_t12⟩) rfl rfl (by exact ⟨rfl, rfl, rfl, rfl, trivial⟩) rfl rfl rfl
                · refine WJ.ci 207 hp rfl rfl rfl rfl rfl rfl rfl rfl rfl (fun hc80 hp => ?_) (fun hc80 hp => ?_)
                  · obtain ⟨t87, e87, hp⟩ := bindS hp
                    obtain ⟨b87, o87, cs87, i87, rfl, p87⟩ := g_t12.at e87 u40 sz3
                    refine WJ.hd (v := .pointer (some ⟨b87, o87, none⟩)) 206 rfl rfl rfl rfl (fun ids H' fr => opD_indexAddr rfl (evV_eq _ _ _ _ _ rfl) (evV_eq _ _ _ _ _ rfl) (i87 _)) rfl ?_
                    refine WJ.hd (v := .int .i64 t87) 200 rfl rfl rfl rfl (fun ids H' fr => opD_load rfl (evV_eq _ _ _ _ _ rfl) ((p87.mono (Nat.zero_le _) (fr.abv.le (Nat.zero_le _))).load (d := 0) ag3 rfl)) rfl ?_
                    obtain ⟨t89, e89, hp⟩ := bindS hp
                    refine WJ.cl 200 (R := R_4 t89) (fun hm h k => R_4.mono hm h k) rfl (fun ids H' fr => f23_ok e89) ?_
                    rintro v B12 ⟨abB12, ivB12⟩ rfl
                    refine ⟨_, rfl, ?_⟩
                    replace g_t12 := g_t12.mono (Nat.le_refl _) (abB12.le (Nat.zero_le _))
                    replace p28 := p28.mono (Nat.le_refl _) (abB12.le (Nat.zero_le _))
                    replace p37 := p37.mono (Nat.le_refl _) (abB12.le (Nat.zero_le _))
                    replace p45 := p45.mono (Nat.le_refl _) (abB12.le (Nat.zero_le _))
                    replace p87 := p87.mono (Nat.le_refl _) (abB12.le (Nat.zero_le _))
                    cases t89
                    · replace hp := (itS hp).2 Bool.false_ne_true
                      subst hK43
                      subst hK42
                      obtain rfl := endS (show some _ = some r from hp)
                      exact WJ.rt 217 rfl rfl rfl (fun ids H' fr => ⟨fr.ext0, rfl⟩)
                    · replace hp := (itS hp).1 rfl
                      refine WJ.ci 205 hp rfl rfl rfl rfl rfl rfl rfl rfl rfl (fun hc95 hp => ?_) (fun hc95 hp => ?_)
                      · refine WJ.cn 202 hp rfl rfl rfl rfl rfl rfl rfl rfl rfl (fun hc98 hp => ?_) (fun hc98 hp => ?_)
                        · subst hK43
                          subst hK42
                          obtain rfl := endS (show some _ = some r from hp)
                          exact WJ.rt 208 rfl rfl rfl (fun ids H' fr => ⟨fr.ext0, rfl⟩)
                        · exact WJ.goto 6 (j43 B12 ⟨hp, g_t12⟩) rfl rfl (by exact ⟨rfl, rfl, rfl, rfl, trivial⟩) rfl rfl rfl
                      · exact WJ.goto 9 (j43 B12 ⟨hp, g_t12⟩) rfl rfl (by exact ⟨rfl, rfl, rfl, rfl, trivial⟩) rfl rfl rfl
                  · refine WJ.ci 214 hp rfl rfl rfl rfl rfl rfl rfl rfl rfl (fun hc95 hp => ?_) (fun hc95 hp => ?_)
                    · refine WJ.cn 202 hp rfl rfl rfl rfl rfl rfl rfl rfl rfl (fun hc98 hp => ?_) (fun hc98 hp => ?_)
                      · subst hK43
                        subst hK42
                        obtain rfl := endS (show some _ = some r from hp)
                        exact WJ.rt 208 rfl rfl rfl (fun ids H' fr => ⟨fr.ext0, rfl⟩)
                      · exact WJ.goto 6 (j43 B7 ⟨hp, g_t12⟩) rfl rfl (by exact ⟨rfl, rfl, rfl, rfl, trivial⟩) rfl rfl rfl
                    · exact WJ.goto 9 (j43 B7 ⟨hp, g_t12⟩) rfl rfl (by exact ⟨rfl, rfl, rfl, rfl, trivial⟩) rfl rfl rfl
        · exact WJ.goto 3 (j42 B4 ⟨hp, g_t12⟩) rfl rfl (by exact ⟨rfl, rfl, rfl, trivial⟩) rfl rfl rfl
end
end Go.Proofs.YtcephcgnfmcdhaaDoor

set_option linter.unusedVariables false
namespace Go.Proofs.YtcephcgnfmcdhaaDoor
open Go Go.Det Go.RowKit
theorem ul22 : Tryd.prog.underlying 22 = some (.int .u64) := by kernel_rfl
def ok22 (x : Int) : Prop := okI .u64 x
theorem rd22 {H : Hp} {cs : List Value} (h : Rd Tryd.prog H 22 cs) : ∃ x : Int, Cod.rep (kindC .u64) 0 H cs x ∧ ok22 x := by
  obtain ⟨x, rfl, hx⟩ := h.int_inv ul22
  exact ⟨x, rfl, hx⟩
theorem ul9 : Tryd.prog.underlying 9 = some .string := by kernel_rfl
def ok9 (x : List UInt8) : Prop := x.length ≤ reachBytes
theorem rd9 {H : Hp} {cs : List Value} (h : Rd Tryd.prog H 9 cs) : ∃ x : List UInt8, Cod.rep strC 0 H cs x ∧ ok9 x := by
  obtain ⟨x, rfl, hx⟩ := h.str_inv ul9
  exact ⟨x, rfl, hx⟩
theorem ul3 : Tryd.prog.underlying 3 = some (.int .i64) := by kernel_rfl
def ok3 (x : Int) : Prop := okI .i64 x
theorem rd3 {H : Hp} {cs : List Value} (h : Rd Tryd.prog H 3 cs) : ∃ x : Int, Cod.rep intC 0 H cs x ∧ ok3 x := by
  obtain ⟨x, rfl, hx⟩ := h.int_inv ul3
  exact ⟨x, rfl, hx⟩
theorem ul4 : Tryd.prog.underlying 4 = some .bool := by kernel_rfl
def ok4 (_ : Bool) : Prop := True
theorem rd4 {H : Hp} {cs : List Value} (h : Rd Tryd.prog H 4 cs) : ∃ x : Bool, Cod.rep boolC 0 H cs x ∧ ok4 x := by
  obtain ⟨x, rfl⟩ := h.bool_inv ul4
  exact ⟨x, rfl, trivial⟩
def Pure3 : Prop := ∀ (x0 : Int) (x1 : List UInt8), ok22 x0 → ok9 x1 → ∃ k : Nat, f3 k x0 x1 = some true
theorem law3 (hp : Pure3) (H : Hp) (args : List Value) (_ : Tryd.prog.globals.size ≤ H.next) (h : RdArgs Tryd.prog H Tryd.f3.params.toList args) : SCall Tryd.prog 3 args H (fun e _ => e = .ret (.bool true)) := by
  replace h : RdArgs Tryd.prog H [22, 9] args := h
  obtain ⟨v0, args0, ea0, h0, h⟩ := h.scal (by kernel_rfl)
  obtain ⟨x0, e0, k0⟩ := rd22 h0
  obtain rfl := (List.cons.inj e0).1
  obtain ⟨v1, args1, ea1, h1, h⟩ := h.scal (by kernel_rfl)
  obtain ⟨x1, e1, k1⟩ := rd9 h1
  obtain rfl := (List.cons.inj e1).1
  obtain rfl := h.nil_inv
  subst ea1
  subst ea0
  obtain ⟨k, hk⟩ := hp x0 x1 k0 k1
  exact (f3_ok hk).mono fun e H' ⟨v, h1, _, h2⟩ => by rw [h1, h2]
def Pure4 : Prop := ∀ (x0 : Int) (x1 : Int) (x2 : Int) (x3 : Bool), ok22 x0 → ok3 x1 → ok3 x2 → ok4 x3 → ∃ k : Nat, f4 k x0 x1 x2 x3 = some true
theorem law4 (hp : Pure4) (H : Hp) (args : List Value) (_ : Tryd.prog.globals.size ≤ H.next) (h : RdArgs Tryd.prog H Tryd.f4.params.toList args) : SCall Tryd.prog 4 args H (fun e _ => e = .ret (.bool true)) := by
  replace h : RdArgs Tryd.prog H [22, 3, 3, 4] args := h
  obtain ⟨v0, args0, ea0, h0, h⟩ := h.scal (by kernel_rfl)
  obtain ⟨x0, e0, k0⟩ := rd22 h0
  obtain rfl := (List.cons.inj e0).1
  obtain ⟨v1, args1, ea1, h1, h⟩ := h.scal (by kernel_rfl)
  obtain ⟨x1, e1, k1⟩ := rd3 h1
  obtain rfl := (List.cons.inj e1).1
  obtain ⟨v2, args2, ea2, h2, h⟩ := h.scal (by kernel_rfl)
  obtain ⟨x2, e2, k2⟩ := rd3 h2
  obtain rfl := (List.cons.inj e2).1
  obtain ⟨v3, args3, ea3, h3, h⟩ := h.scal (by kernel_rfl)
  obtain ⟨x3, e3, k3⟩ := rd4 h3
  obtain rfl := (List.cons.inj e3).1
  obtain rfl := h.nil_inv
  subst ea3
  subst ea2
  subst ea1
  subst ea0
  obtain ⟨k, hk⟩ := hp x0 x1 x2 x3 k0 k1 k2 k3
  exact (f4_ok hk).mono fun e H' ⟨v, h1, _, h2⟩ => by rw [h1, h2]
def Pure5 : Prop := ∀ (_ : Unit), ∃ k : Nat, f5 k = some true
theorem law5 (hp : Pure5) (H : Hp) (args : List Value) (_ : Tryd.prog.globals.size ≤ H.next) (h : RdArgs Tryd.prog H Tryd.f5.params.toList args) : SCall Tryd.prog 5 args H (fun e _ => e = .ret (.bool true)) := by
  replace h : RdArgs Tryd.prog H [] args := h
  obtain rfl := h.nil_inv
  obtain ⟨k, hk⟩ := hp ()
  exact (f5_ok hk).mono fun e H' ⟨v, h1, _, h2⟩ => by rw [h1, h2]
def Pure6 : Prop := ∀ (x0 : Int) (x1 : Int) (x2 : Int) (x3 : Bool), ok22 x0 → ok3 x1 → ok3 x2 → ok4 x3 → ∃ k : Nat, f6 k x0 x1 x2 x3 = some true
theorem law6 (hp : Pure6) (H : Hp) (args : List Value) (_ : Tryd.prog.globals.size ≤ H.next) (h : RdArgs Tryd.prog H Tryd.f6.params.toList args) : SCall Tryd.prog 6 args H (fun e _ => e = .ret (.bool true)) := by
  replace h : RdArgs Tryd.prog H [22, 3, 3, 4] args := h
  obtain ⟨v0, args0, ea0, h0, h⟩ := h.scal (by kernel_rfl)
  obtain ⟨x0, e0, k0⟩ := rd22 h0
  obtain rfl := (List.cons.inj e0).1
  obtain ⟨v1, args1, ea1, h1, h⟩ := h.scal (by kernel_rfl)
  obtain ⟨x1, e1, k1⟩ := rd3 h1
  obtain rfl := (List.cons.inj e1).1
  obtain ⟨v2, args2, ea2, h2, h⟩ := h.scal (by kernel_rfl)
  obtain ⟨x2, e2, k2⟩ := rd3 h2
  obtain rfl := (List.cons.inj e2).1
  obtain ⟨v3, args3, ea3, h3, h⟩ := h.scal (by kernel_rfl)
  obtain ⟨x3, e3, k3⟩ := rd4 h3
  obtain rfl := (List.cons.inj e3).1
  obtain rfl := h.nil_inv
  subst ea3
  subst ea2
  subst ea1
  subst ea0
  obtain ⟨k, hk⟩ := hp x0 x1 x2 x3 k0 k1 k2 k3
  exact (f6_ok hk).mono fun e H' ⟨v, h1, _, h2⟩ => by rw [h1, h2]
def Pure7 : Prop := ∀ (x0 : Int) (x1 : Int), ok22 x0 → ok3 x1 → ∃ k : Nat, f7 k x0 x1 = some true
theorem law7 (hp : Pure7) (H : Hp) (args : List Value) (_ : Tryd.prog.globals.size ≤ H.next) (h : RdArgs Tryd.prog H Tryd.f7.params.toList args) : SCall Tryd.prog 7 args H (fun e _ => e = .ret (.bool true)) := by
  replace h : RdArgs Tryd.prog H [22, 3] args := h
  obtain ⟨v0, args0, ea0, h0, h⟩ := h.scal (by kernel_rfl)
  obtain ⟨x0, e0, k0⟩ := rd22 h0
  obtain rfl := (List.cons.inj e0).1
  obtain ⟨v1, args1, ea1, h1, h⟩ := h.scal (by kernel_rfl)
  obtain ⟨x1, e1, k1⟩ := rd3 h1
  obtain rfl := (List.cons.inj e1).1
  obtain rfl := h.nil_inv
  subst ea1
  subst ea0
  obtain ⟨k, hk⟩ := hp x0 x1 k0 k1
  exact (f7_ok hk).mono fun e H' ⟨v, h1, _, h2⟩ => by rw [h1, h2]
def Pure8 : Prop := ∀ (x0 : Int) (x1 : List UInt8), ok22 x0 → ok9 x1 → ∃ k : Nat, f8 k x0 x1 = some true
theorem law8 (hp : Pure8) (H : Hp) (args : List Value) (_ : Tryd.prog.globals.size ≤ H.next) (h : RdArgs Tryd.prog H Tryd.f8.params.toList args) : SCall Tryd.prog 8 args H (fun e _ => e = .ret (.bool true)) := by
  replace h : RdArgs Tryd.prog H [22, 9] args := h
  obtain ⟨v0, args0, ea0, h0, h⟩ := h.scal (by kernel_rfl)
  obtain ⟨x0, e0, k0⟩ := rd22 h0
  obtain rfl := (List.cons.inj e0).1
  obtain ⟨v1, args1, ea1, h1, h⟩ := h.scal (by kernel_rfl)
  obtain ⟨x1, e1, k1⟩ := rd9 h1
  obtain rfl := (List.cons.inj e1).1
  obtain rfl := h.nil_inv
  subst ea1
  subst ea0
  obtain ⟨k, hk⟩ := hp x0 x1 k0 k1
  exact (f8_ok hk).mono fun e H' ⟨v, h1, _, h2⟩ => by rw [h1, h2]
end Go.Proofs.YtcephcgnfmcdhaaDoor

set_option linter.unusedVariables false
namespace Go.Proofs.YtcephcgnfmcdhaaDoor
open Go Go.Det Go.RowKit
def Pure9 : Prop := ∀ (x0 : Int) (x1 : Int), ok22 x0 → ok3 x1 → ∃ k : Nat, f9 k x0 x1 = some true
theorem law9 (hp : Pure9) (H : Hp) (args : List Value) (_ : Tryd.prog.globals.size ≤ H.next) (h : RdArgs Tryd.prog H Tryd.f9.params.toList args) : SCall Tryd.prog 9 args H (fun e _ => e = .ret (.bool true)) := by
  replace h : RdArgs Tryd.prog H [22, 3] args := h
  obtain ⟨v0, args0, ea0, h0, h⟩ := h.scal (by kernel_rfl)
  obtain ⟨x0, e0, k0⟩ := rd22 h0
  obtain rfl := (List.cons.inj e0).1
  obtain ⟨v1, args1, ea1, h1, h⟩ := h.scal (by kernel_rfl)
  obtain ⟨x1, e1, k1⟩ := rd3 h1
  obtain rfl := (List.cons.inj e1).1
  obtain rfl := h.nil_inv
  subst ea1
  subst ea0
  obtain ⟨k, hk⟩ := hp x0 x1 k0 k1
  exact (f9_ok hk).mono fun e H' ⟨v, h1, _, h2⟩ => by rw [h1, h2]
def Pure10 : Prop := ∀ (x0 : Int), ok22 x0 → ∃ k : Nat, f10 k x0 = some true
theorem law10 (hp : Pure10) (H : Hp) (args : List Value) (_ : Tryd.prog.globals.size ≤ H.next) (h : RdArgs Tryd.prog H Tryd.f10.params.toList args) : SCall Tryd.prog 10 args H (fun e _ => e = .ret (.bool true)) := by
  replace h : RdArgs Tryd.prog H [22] args := h
  obtain ⟨v0, args0, ea0, h0, h⟩ := h.scal (by kernel_rfl)
  obtain ⟨x0, e0, k0⟩ := rd22 h0
  obtain rfl := (List.cons.inj e0).1
  obtain rfl := h.nil_inv
  subst ea0
  obtain ⟨k, hk⟩ := hp x0 k0
  exact (f10_ok hk).mono fun e H' ⟨v, h1, _, h2⟩ => by rw [h1, h2]
end Go.Proofs.YtcephcgnfmcdhaaDoor
