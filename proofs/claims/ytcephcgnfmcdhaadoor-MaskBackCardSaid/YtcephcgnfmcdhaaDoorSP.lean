import Derived.Test.YtcephcgnfmcdhaaDoorSG
import Derived.Laws.BitsAllLaws
import Derived.Lib.BitFns
set_option linter.unusedVariables false
set_option linter.unusedSimpArgs false
namespace Go.Proofs.YtcephcgnfmcdhaaDoor
open Go Go.Det Go.RowKit
/-! Numbers of 64 bits -/
theorem w64 {x : Int} (h1 : -9223372036854775808 ≤ x) (h2 : x ≤ 9223372036854775807) : IntKind.i64.wrap x = x := by rw [IntKind.wrap_i64]; omega
theorem wu64 {n : Nat} (h : n < 18446744073709551616) : IntKind.u64.wrap (n : Int) = (n : Int) := by rw [IntKind.wrap_u64]; omega
theorem pow64 {n : Nat} (h : n < 64) : 2 ^ n < 18446744073709551616 := by
  have := Nat.pow_lt_pow_right (a := 2) (by decide) h
  exact this
theorem pow64' {n : Nat} (h : n ≤ 64) : 2 ^ n ≤ 18446744073709551616 := by
  have := Nat.pow_le_pow_right (n := 2) (by decide) h
  exact this
theorem shl1 {n : Nat} (h : n < 64) : gshl .u64 1 (n : Int) = ((2 ^ n : Nat) : Int) := by
  unfold gshl
  have : min ((n : Int).toNat) IntKind.u64.bits = n := by simp [IntKind.bits]; omega
  rw [this, Int.one_mul, show ((2 : Int) ^ n) = ((2 ^ n : Nat) : Int) from by simp, wu64 (pow64 h)]
theorem okU {x : Int} (h : okI .u64 x) : ∃ M : Nat, x = (M : Int) ∧ M < 18446744073709551616 := by
  simp [okI, Lit.wf, IntKind.min, IntKind.max, IntKind.signed, IntKind.bits] at h
  exact ⟨x.toNat, by omega, by omega⟩
theorem testBit_big {M i : Nat} (h : M < 18446744073709551616) (hi : 64 ≤ i) : M.testBit i = false :=
  Nat.testBit_lt_two_pow (Nat.lt_of_lt_of_le h (by have := Nat.pow_le_pow_right (n := 2) (by decide) hi; exact this))
theorem ext64 {A B : Nat} (ha : A < 18446744073709551616) (hb : B < 18446744073709551616) (h : ∀ i, i < 64 → A.testBit i = B.testBit i) : A = B := by
  apply Nat.eq_of_testBit_eq
  intro i
  by_cases hi : i < 64
  · exact h i hi
  · rw [testBit_big ha (by omega), testBit_big hb (by omega)]
theorem testBit_not {x i : Nat} (hx : x < 18446744073709551616) (hi : i < 64) : (18446744073709551615 - x).testBit i = !x.testBit i := by
  have := Nat.testBit_two_pow_sub_succ (n := 64) (x := x) hx i
  rw [show 2 ^ 64 - (x + 1) = 18446744073709551615 - x from by omega] at this
  rw [this]; simp [hi]

theorem f37_eq (x : Int) : f37 x = some (decide (0 ≤ x ∧ x < 64)) := by
  unfold f37
  by_cases h : 0 ≤ x
  · rw [if_pos h]; simp [h]
  · rw [if_neg h]; simp [h]
theorem f39_eq {n : Nat} (h : n ≤ 64) : f39 (n : Int) = some ((2 ^ n - 1 : Nat) : Int) := by
  unfold f39
  by_cases h1 : n = 64
  · subst h1; rfl
  · rw [if_neg (by omega), wu64 (by omega), shl1 (by omega)]
    have := pow64 (n := n) (by omega)
    have hp : 0 < 2 ^ n := Nat.pow_pos (by decide)
    rw [show ((2 ^ n : Nat) : Int) - 1 = ((2 ^ n - 1 : Nat) : Int) from by omega, wu64 (by omega)]
theorem hasAnd {M n : Nat} (hM : M < 18446744073709551616) (hn : n < 64) : (bits .and .u64 (M : Int) ((2 ^ n : Nat) : Int) != 0) = M.testBit n := by
  have : 0 < 2 ^ n := Nat.pow_pos (by decide)
  rw [u64_and_nat M _ hM (pow64 hn), nat_bit, Nat.testBit_eq_decide_div_mod_eq]
  rcases Nat.mod_two_eq_zero_or_one (M / 2 ^ n) with h | h
  · simp [h]
  · rw [h, Nat.one_mul]
    generalize 2 ^ n = p at this ⊢
    simp; omega
def hasI (M : Nat) (x : Int) : Bool := decide (0 ≤ x ∧ x < 64) && M.testBit x.toNat
theorem f26_eq {M : Nat} (hM : M < 18446744073709551616) (x : Int) : f26 (M : Int) x = some (hasI M x) := by
  unfold f26 hasI
  rw [f37_eq]
  by_cases h : 0 ≤ x ∧ x < 64
  · obtain ⟨n, rfl⟩ := Int.eq_ofNat_of_zero_le h.1
    simp only [Option.bind_some, decide_eq_true h, if_true, Bool.true_and]
    rw [wu64 (by omega), shl1 (by omega), hasAnd hM (by omega)]; rfl
  · simp [h]
theorem f31_eq {M : Nat} (hM : M < 18446744073709551616) (x : Int) : f31 (M : Int) x = some (hasI M x) := by
  unfold f31 hasI
  by_cases h : 0 ≤ x
  · rw [if_pos h]
    by_cases h2 : x < 64
    · rw [if_pos h2]
      obtain ⟨n, rfl⟩ := Int.eq_ofNat_of_zero_le h
      have hb : min ((n : Int).toNat) IntKind.u64.bits = n := by simp [IntKind.bits]; omega
      have hr : gshr .u64 (M : Int) (n : Int) = ((M / 2 ^ n : Nat) : Int) := by
        unfold gshr
        rw [hb, show ((2 : Int) ^ n) = ((2 ^ n : Nat) : Int) from by simp, Int.fdiv_eq_ediv_of_nonneg _ (Int.natCast_nonneg _)]; rfl
      have hlt : M / 2 ^ n < 18446744073709551616 := Nat.lt_of_le_of_lt (Nat.div_le_self _ _) hM
      have h1 : bits .and .u64 ((M / 2 ^ n : Nat) : Int) 1 = ((M / 2 ^ n &&& 1 : Nat) : Int) := u64_and_nat _ 1 hlt (by decide)
      rw [wu64 (by omega), hr, h1, Nat.and_one_is_mod]
      clear h1 hr
      simp only [Option.bind_some, Int.toNat_natCast, Nat.testBit_eq_decide_div_mod_eq, decide_eq_true (show 0 ≤ (n : Int) ∧ (n : Int) < 64 from ⟨h, h2⟩), Bool.true_and]
      congr 1
      rw [Bool.eq_iff_iff, beq_iff_eq, decide_eq_true_iff]; omega
    · rw [if_neg h2]; simp [h2]
  · rw [if_neg h]; simp [h]

/-! Ranges put in and out -/
def putN (M a b : Nat) (v : Bool) : Nat := if v then M ||| ((2 ^ (b + 1) - 1) &&& (18446744073709551615 - (2 ^ a - 1))) else M &&& (18446744073709551615 - ((2 ^ (b + 1) - 1) &&& (18446744073709551615 - (2 ^ a - 1))))
theorem rng_lt {a b : Nat} (hb : b < 64) : (2 ^ (b + 1) - 1) &&& (18446744073709551615 - (2 ^ a - 1)) < 18446744073709551616 := by
  have := pow64' (n := b + 1) (by omega)
  have hp : 0 < 2 ^ (b + 1) := Nat.pow_pos (by decide)
  exact Nat.lt_of_le_of_lt Nat.and_le_left (by omega)
theorem rng_bit {a b i : Nat} (ha : a < 64) (hb : b < 64) (hi : i < 64) : ((2 ^ (b + 1) - 1) &&& (18446744073709551615 - (2 ^ a - 1))).testBit i = decide (a ≤ i ∧ i ≤ b) := by
  have := pow64 ha
  have hp : 0 < 2 ^ a := Nat.pow_pos (by decide)
  rw [Nat.testBit_and, testBit_not (by omega) hi, Nat.testBit_two_pow_sub_one, Nat.testBit_two_pow_sub_one]
  rw [Bool.eq_iff_iff]; simp; omega
theorem putN_lt {M a b : Nat} {v : Bool} (hM : M < 18446744073709551616) (hb : b < 64) : putN M a b v < 18446744073709551616 := by
  unfold putN
  split
  · exact Nat.or_lt_two_pow (n := 64) hM (rng_lt hb)
  · exact Nat.lt_of_le_of_lt Nat.and_le_left hM
theorem putN_bit {M a b i : Nat} {v : Bool} (ha : a < 64) (hb : b < 64) (hi : i < 64) : (putN M a b v).testBit i = if a ≤ i ∧ i ≤ b then v else M.testBit i := by
  unfold putN
  by_cases h : a ≤ i ∧ i ≤ b
  · rw [if_pos h]
    cases v
    · simp only [Bool.false_eq_true, if_false]
      rw [Nat.testBit_and, testBit_not (rng_lt hb) hi, rng_bit ha hb hi]; simp [h]
    · simp only [if_true]
      rw [Nat.testBit_or, rng_bit ha hb hi]; simp [h]
  · rw [if_neg h]
    cases v
    · simp only [Bool.false_eq_true, if_false]
      rw [Nat.testBit_and, testBit_not (rng_lt hb) hi, rng_bit ha hb hi]; simp [h]
    · simp only [if_true]
      rw [Nat.testBit_or, rng_bit ha hb hi]; simp [h]
theorem f16_eq {M a b : Nat} (hM : M < 18446744073709551616) (hab : a ≤ b) (hb : b < 64) (v : Bool) : f16 (M : Int) (a : Int) (b : Int) v = some (((putN M a b v : Nat) : Int), 0) := by
  unfold f16
  have h1 := pow64' (n := b + 1) (by omega)
  have h2 := pow64 (n := a) (by omega)
  have hp : 0 < 2 ^ (b + 1) := Nat.pow_pos (by decide)
  have hq : 0 < 2 ^ a := Nat.pow_pos (by decide)
  have e : IntKind.i64.wrap ((b : Int) + 1) = ((b + 1 : Nat) : Int) := by rw [w64 (by omega) (by omega)]; omega
  rw [f37_eq, f37_eq, decide_eq_true (by omega), decide_eq_true (by omega)]
  simp only [Option.bind_some, if_true]
  rw [if_neg (by omega), e, f39_eq (by omega), f39_eq (by omega)]
  simp only [Option.bind_some]
  have r := u64_andNot_nat (2 ^ (b + 1) - 1) (2 ^ a - 1) (by omega) (by omega)
  rw [r]
  have hl := rng_lt (a := a) hb
  rw [u64_or_nat M _ hM hl, u64_andNot_nat M _ hM hl]
  unfold putN
  cases v <;> rfl
theorem f16_no {M : Nat} {a b : Int} (h : ¬ (0 ≤ a ∧ a ≤ b ∧ b < 64)) (v : Bool) : f16 (M : Int) a b v = some (0, 2) := by
  unfold f16
  rw [f37_eq, f37_eq]
  by_cases h1 : 0 ≤ a ∧ a < 64
  · by_cases h2 : 0 ≤ b ∧ b < 64
    · rw [decide_eq_true h1, decide_eq_true h2]
      simp only [Option.bind_some, if_true]
      rw [if_pos (by omega)]
    · rw [decide_eq_true h1, decide_eq_false h2]; rfl
  · rw [decide_eq_false h1]; rfl
theorem f17_loop (b : Nat) (hb : b < 64) (v : Bool) : ∀ (d n x M : Nat), x + d = b + 1 → d < n → M < 18446744073709551616 → ∃ R : Nat, f17_l1 (b : Int) v n (M : Int) (x : Int) = some (R : Int) ∧ R < 18446744073709551616 ∧ ∀ i, i < 64 → R.testBit i = if x ≤ i ∧ i ≤ b then v else M.testBit i
  | d, 0, x, M, hx, hd, hM => by omega
  | 0, n + 1, x, M, hx, hd, hM => by
    refine ⟨M, ?_, hM, fun i hi => by rw [if_neg (by omega)]⟩
    rw [f17_l1, if_neg (by omega)]
  | d + 1, n + 1, x, M, hx, hd, hM => by
    have hp := pow64 (n := x) (by omega)
    have e : IntKind.i64.wrap ((x : Int) + 1) = ((x + 1 : Nat) : Int) := by rw [w64 (by omega) (by omega)]; omega
    have hA : M &&& (18446744073709551615 - 2 ^ x) < 18446744073709551616 := Nat.lt_of_le_of_lt Nat.and_le_left hM
    have hA2 : M &&& (18446744073709551615 - 2 ^ x) ||| 2 ^ x < 18446744073709551616 := Nat.or_lt_two_pow (n := 64) hA hp
    have key : ∀ i, i < 64 → (M &&& (18446744073709551615 - 2 ^ x)).testBit i = (M.testBit i && !decide (x = i)) := by
      intro i hi
      rw [Nat.testBit_and, testBit_not hp hi, Nat.testBit_two_pow]
    cases v
    · obtain ⟨R, h1, h2, h3⟩ := f17_loop b hb false d n (x + 1) (M &&& (18446744073709551615 - 2 ^ x)) (by omega) (by omega) hA
      refine ⟨R, ?_, h2, fun i hi => ?_⟩
      · rw [f17_l1, if_pos (by omega), wu64 (by omega), shl1 (by omega), u64_andNot_nat M _ hM hp, e]
        simpa using h1
      · rw [h3 i hi, key i hi]
        by_cases q : x = i
        · subst q; rw [if_neg (by omega), if_pos (by omega)]; simp
        · by_cases q2 : x + 1 ≤ i ∧ i ≤ b
          · rw [if_pos q2, if_pos (by omega)]
          · rw [if_neg q2, if_neg (by omega)]; simp [q]
    · obtain ⟨R, h1, h2, h3⟩ := f17_loop b hb true d n (x + 1) (M &&& (18446744073709551615 - 2 ^ x) ||| 2 ^ x) (by omega) (by omega) hA2
      refine ⟨R, ?_, h2, fun i hi => ?_⟩
      · rw [f17_l1, if_pos (by omega), wu64 (by omega), shl1 (by omega), u64_andNot_nat M _ hM hp, u64_or_nat _ _ hA hp, e]
        simpa using h1
      · rw [h3 i hi, Nat.testBit_or, key i hi, Nat.testBit_two_pow]
        by_cases q : x = i
        · subst q; rw [if_neg (by omega), if_pos (by omega)]; simp
        · by_cases q2 : x + 1 ≤ i ∧ i ≤ b
          · rw [if_pos q2, if_pos (by omega)]
          · rw [if_neg q2, if_neg (by omega)]; simp [q]
theorem f17_eq {k : Nat} (hk : 65 < k) {M : Nat} (hM : M < 18446744073709551616) (a b : Int) (v : Bool) : f17 k (M : Int) a b v = f16 (M : Int) a b v := by
  by_cases h : 0 ≤ a ∧ a ≤ b ∧ b < 64
  · obtain ⟨A, rfl⟩ := Int.eq_ofNat_of_zero_le h.1
    obtain ⟨B, rfl⟩ := Int.eq_ofNat_of_zero_le (show 0 ≤ b by omega)
    rw [f16_eq hM (by omega) (by omega)]
    obtain ⟨R, h1, h2, h3⟩ := f17_loop B (by omega) v (B + 1 - A) k A M (by omega) (by omega) hM
    unfold f17
    rw [if_neg (by omega), if_neg (by omega), if_neg (by omega)]
    have : R = putN M A B v := ext64 h2 (putN_lt hM (by omega)) fun i hi => by rw [h3 i hi, putN_bit (by omega) (by omega) hi]
    subst this
    have h1' : f17_l1 (B : Int) v k (M : Int) (A : Int) = some ((putN M A B v : Nat) : Int) := h1
    rw [h1']; rfl
  · rw [f16_no h]
    unfold f17
    by_cases h1 : a < 0
    · rw [if_pos h1]
    · rw [if_neg h1]
      by_cases h2 : a > b
      · rw [if_pos h2]
      · rw [if_neg h2, if_pos (by omega)]
theorem f19_loop (b : Nat) (hb : b ≤ 64) : ∀ (d n x M : Nat), x + d = b → d < n → M < 18446744073709551616 → ∃ R : Nat, f19_l1 (b : Int) n (M : Int) (x : Int) = some (R : Int) ∧ R < 18446744073709551616 ∧ ∀ i, i < 64 → R.testBit i = (M.testBit i || decide (x ≤ i ∧ i < b))
  | d, 0, x, M, hx, hd, hM => by omega
  | 0, n + 1, x, M, hx, hd, hM => by
    refine ⟨M, ?_, hM, fun i hi => by rw [decide_eq_false (by omega)]; simp⟩
    rw [f19_l1, if_neg (by omega)]
  | d + 1, n + 1, x, M, hx, hd, hM => by
    have hp := pow64 (n := x) (by omega)
    have e : IntKind.i64.wrap ((x : Int) + 1) = ((x + 1 : Nat) : Int) := by rw [w64 (by omega) (by omega)]; omega
    have hA2 : M ||| 2 ^ x < 18446744073709551616 := Nat.or_lt_two_pow (n := 64) hM hp
    obtain ⟨R, h1, h2, h3⟩ := f19_loop b hb d n (x + 1) (M ||| 2 ^ x) (by omega) (by omega) hA2
    refine ⟨R, ?_, h2, fun i hi => ?_⟩
    · rw [f19_l1, if_pos (by omega), wu64 (by omega), shl1 (by omega), u64_or_nat _ _ hM hp, e]
      exact h1
    · rw [h3 i hi, Nat.testBit_or, Nat.testBit_two_pow]
      clear e h1 h3
      cases M.testBit i
      · rw [Bool.eq_iff_iff]; simp; omega
      · simp
theorem f18_eq {n : Nat} (h : n ≤ 64) : f18 (n : Int) = some (((2 ^ n - 1 : Nat) : Int), 0) := by
  unfold f18
  rw [if_neg (by omega), if_neg (by omega), f39_eq h]; rfl
theorem f19_eq {k : Nat} (hk : 65 < k) (x : Int) : f19 k x = f18 x := by
  by_cases h : 0 ≤ x ∧ x ≤ 64
  · obtain ⟨n, rfl⟩ := Int.eq_ofNat_of_zero_le h.1
    obtain ⟨R, h1, h2, h3⟩ := f19_loop n (by omega) n k 0 0 (by omega) (by omega) (by decide)
    have hp := pow64' (n := n) (by omega)
    have hq : 0 < 2 ^ n := Nat.pow_pos (by decide)
    have : R = 2 ^ n - 1 := ext64 h2 (by omega) fun i hi => by rw [h3 i hi, Nat.testBit_two_pow_sub_one]; simp
    rw [f18_eq (by omega)]
    unfold f19
    rw [if_neg (by omega), if_neg (by omega)]
    have h1' : f19_l1 (n : Int) k 0 0 = some (R : Int) := h1
    rw [h1', this]; rfl
  · unfold f19 f18
    by_cases h1 : x < 0
    · rw [if_pos h1, if_pos h1]
    · rw [if_neg h1, if_neg h1, if_pos (by omega), if_pos (by omega)]
theorem f18_some (x : Int) : ∃ r, f18 x = some r := by
  unfold f18
  by_cases h1 : x < 0
  · exact ⟨_, by rw [if_pos h1]⟩
  · by_cases h2 : x > 64
    · exact ⟨_, by rw [if_neg h1, if_pos h2]⟩
    · obtain ⟨n, rfl⟩ := Int.eq_ofNat_of_zero_le (show 0 ≤ x by omega)
      exact ⟨_, by rw [if_neg h1, if_neg h2, f39_eq (by omega)]; rfl⟩
theorem f16_some {M : Nat} (hM : M < 18446744073709551616) (a b : Int) (v : Bool) : ∃ r, f16 (M : Int) a b v = some r := by
  by_cases h : 0 ≤ a ∧ a ≤ b ∧ b < 64
  · obtain ⟨A, rfl⟩ := Int.eq_ofNat_of_zero_le h.1
    obtain ⟨B, rfl⟩ := Int.eq_ofNat_of_zero_le (show 0 ≤ b by omega)
    exact ⟨_, f16_eq hM (by omega) (by omega) v⟩
  · exact ⟨_, f16_no h v⟩
theorem awake : f11 1000 = some true := by kernel_rfl
theorem known5 : f5 1000 = some true := by kernel_rfl
theorem f4_eq (M : Nat) (hM : M < 18446744073709551616) (a b : Int) (v : Bool) : f4 1000 (M : Int) a b v = some true := by
  obtain ⟨⟨r1, r2⟩, hr⟩ := f16_some hM a b v
  obtain ⟨⟨q1, q2⟩, hq⟩ := f18_some b
  unfold f4
  rw [f17_eq (by decide) hM, f19_eq (by decide), hr, hq]
  simp only [Option.bind_some, if_true, awake]
theorem pure4 : Pure4 := fun x0 x1 x2 x3 h0 _ _ _ => by
  obtain ⟨M, rfl, hM⟩ := okU h0
  exact ⟨1000, f4_eq M hM x1 x2 x3⟩
theorem pure5 : Pure5 := fun _ => ⟨1000, known5⟩
end Go.Proofs.YtcephcgnfmcdhaaDoor

set_option linter.unusedVariables false
set_option linter.unusedSimpArgs false
namespace Go.Proofs.YtcephcgnfmcdhaaDoor
open Go Go.Det Go.RowKit
/-! How many bits are set -/
def ds (B : Nat) : Nat → Nat → Nat
  | 0, _ => 0
  | n + 1, x => x % B + ds B n (x / B)
def pairS (B : Nat) : Nat → Nat → Nat
  | 0, _ => 0
  | n + 1, x => (x % B + x / B % B) + B * B * pairS B n (x / (B * B))
def mk (B : Nat) : Nat → Nat
  | 0 => 0
  | n + 1 => (B - 1) + B * B * mk B n
theorem and_mk (w : Nat) : ∀ (n x : Nat), x &&& mk (2 ^ w) (n + 1) = x % 2 ^ w + 2 ^ w * 2 ^ w * (x / (2 ^ w * 2 ^ w) &&& mk (2 ^ w) n) := by
  intro n x
  have hp : 0 < 2 ^ w := Nat.pow_pos (by decide)
  have hB : 2 ^ w * 2 ^ w = 2 ^ (w + w) := (Nat.pow_add 2 w w).symm
  have hm : mk (2 ^ w) (n + 1) = (2 ^ w - 1) + 2 ^ (w + w) * mk (2 ^ w) n := by rw [← hB]; rfl
  have hlt : 2 ^ w - 1 < 2 ^ (w + w) := by
    have := Nat.pow_le_pow_right (n := 2) (by decide) (show w ≤ w + w by omega)
    omega
  have h1 : mk (2 ^ w) (n + 1) % 2 ^ (w + w) = 2 ^ w - 1 := by rw [hm, Nat.add_mul_mod_self_left, Nat.mod_eq_of_lt hlt]
  have h2 : mk (2 ^ w) (n + 1) / 2 ^ (w + w) = mk (2 ^ w) n := by
    rw [hm, Nat.add_mul_div_left _ _ (Nat.pow_pos (by decide)), Nat.div_eq_of_lt hlt, Nat.zero_add]
  have h3 := Nat.mod_add_div (x &&& mk (2 ^ w) (n + 1)) (2 ^ (w + w))
  rw [Nat.and_mod_two_pow, Nat.and_div_two_pow, h1, h2, Nat.and_two_pow_sub_one_eq_mod] at h3
  rw [hB, ← h3]
  congr 1
  rw [← hB, Nat.mod_mul_right_mod]
theorem pair_and (w : Nat) : ∀ (n x : Nat), (x / 2 ^ w &&& mk (2 ^ w) n) + (x &&& mk (2 ^ w) n) = pairS (2 ^ w) n x
  | 0, x => by simp [mk, pairS]
  | n + 1, x => by
    rw [and_mk, and_mk, pairS, ← pair_and w n (x / (2 ^ w * 2 ^ w))]
    have : x / 2 ^ w / (2 ^ w * 2 ^ w) = x / (2 ^ w * 2 ^ w) / 2 ^ w := by rw [Nat.div_div_eq_div_mul, Nat.div_div_eq_div_mul]; congr 1; rw [Nat.mul_comm]
    rw [this]
    generalize x / (2 ^ w * 2 ^ w) / 2 ^ w &&& mk (2 ^ w) n = p
    generalize x / (2 ^ w * 2 ^ w) &&& mk (2 ^ w) n = q
    rw [Nat.mul_add]
    omega
theorem ds_pair {B : Nat} (hB : 2 ≤ B) : ∀ (n x : Nat), ds (B * B) n (pairS B n x) = ds B (2 * n) x
  | 0, x => rfl
  | n + 1, x => by
    have hq : 0 < B * B := Nat.mul_pos (by omega) (by omega)
    have h1 : x % B < B := Nat.mod_lt _ (by omega)
    have h2 : x / B % B < B := Nat.mod_lt _ (by omega)
    have hlt : x % B + x / B % B < B * B := by
      have : 2 * B ≤ B * B := Nat.mul_le_mul_right B hB
      omega
    show (pairS B (n + 1) x) % (B * B) + ds (B * B) n (pairS B (n + 1) x / (B * B)) = ds B (2 * n + 1 + 1) x
    rw [pairS, Nat.add_mul_mod_self_left, Nat.mod_eq_of_lt hlt, Nat.add_mul_div_left _ _ hq, Nat.div_eq_of_lt hlt, Nat.zero_add, ds_pair hB n]
    show _ = x % B + (x / B % B + ds B (2 * n) (x / B / B))
    rw [Nat.div_div_eq_div_mul]; omega
theorem pair_lt {B : Nat} (hB : 2 ≤ B) : ∀ (n x : Nat), pairS B n x < (B * B) ^ n
  | 0, x => by simp [pairS]
  | n + 1, x => by
    have h1 : x % B < B := Nat.mod_lt _ (by omega)
    have h2 : x / B % B < B := Nat.mod_lt _ (by omega)
    have hlt : x % B + x / B % B < B * B := by
      have : 2 * B ≤ B * B := Nat.mul_le_mul_right B hB
      omega
    have ih := pair_lt hB n (x / (B * B))
    rw [pairS, Nat.pow_succ, Nat.mul_comm ((B * B) ^ n)]
    have : B * B * pairS B n (x / (B * B)) + B * B ≤ B * B * (B * B) ^ n := by
      rw [← Nat.mul_succ]; exact Nat.mul_le_mul_left _ ih
    omega
/-- Every digit is at most so much. -/
def dle (B m : Nat) : Nat → Nat → Prop
  | 0, x => x = 0
  | n + 1, x => x % B ≤ m ∧ dle B m n (x / B)
theorem dle_pair {B m : Nat} (hB : 2 ≤ B) (hm : 2 * m < B * B) : ∀ (n x : Nat), dle B m (2 * n) x → dle (B * B) (2 * m) n (pairS B n x)
  | 0, x, h => rfl
  | n + 1, x, h => by
    have hq : 0 < B * B := Nat.mul_pos (by omega) (by omega)
    obtain ⟨h1, h2, h3⟩ : x % B ≤ m ∧ x / B % B ≤ m ∧ dle B m (2 * n) (x / B / B) := h
    rw [Nat.div_div_eq_div_mul] at h3
    have hlt : x % B + x / B % B < B * B := by omega
    refine ⟨?_, ?_⟩
    · rw [pairS, Nat.add_mul_mod_self_left, Nat.mod_eq_of_lt hlt]; omega
    · rw [pairS, Nat.add_mul_div_left _ _ hq, Nat.div_eq_of_lt hlt, Nat.zero_add]
      exact dle_pair hB hm n _ h3
theorem dle_two : ∀ (n x : Nat), x < 2 ^ n → dle 2 1 n x
  | 0, x, h => by simp [dle] at *; omega
  | n + 1, x, h => ⟨by omega, dle_two n (x / 2) (by rw [Nat.pow_succ] at h; omega)⟩
theorem sum_step (x : Nat) (h1 : x % 16 ≤ 4) (h2 : x / 16 % 16 ≤ 4) (h4 : x / 256 % 16 ≤ 4) : (x / 16 + x) / 256 = x / 256 / 16 + x / 256 ∧ (x / 16 + x) % 16 = x % 16 + x / 16 % 16 := by
  have e0 : x / 16 = 16 * (x / 256) + x / 16 % 16 := by omega
  have e1 : x = 256 * (x / 256) + 16 * (x / 16 % 16) + x % 16 := by omega
  have e3 : x / 256 = 16 * (x / 256 / 16) + x / 256 % 16 := by omega
  generalize x / 16 % 16 = b at *
  generalize x % 16 = a at *
  generalize x / 256 % 16 = c at *
  generalize x / 256 / 16 = z at *
  generalize x / 256 = y at *
  generalize x / 16 = u at *
  subst e0 e3 e1
  constructor <;> omega
theorem sum_and : ∀ (n x : Nat), dle 16 4 (2 * n) x → (x / 16 + x) &&& mk 16 n = pairS 16 n x
  | 0, x, h => by simp [mk, pairS]
  | n + 1, x, h => by
    obtain ⟨h1, h2, h3⟩ : x % 16 ≤ 4 ∧ x / 16 % 16 ≤ 4 ∧ dle 16 4 (2 * n) (x / 16 / 16) := h
    rw [Nat.div_div_eq_div_mul] at h3
    have h4 : x / 256 % 16 ≤ 4 := by
      cases n with
      | zero => have : x / (16 * 16) = 0 := h3; omega
      | succ n => exact h3.1
    have hm := and_mk 4 n (x / 16 + x)
    rw [show (2 : Nat) ^ 4 = 16 from rfl] at hm
    obtain ⟨e1, e2⟩ := sum_step x h1 h2 h4
    rw [hm, pairS, ← sum_and n (x / (16 * 16)) h3, show (16 * 16 : Nat) = 256 from rfl, e1, e2]
theorem shr (M n : Nat) (h : n < 64) : gshr .u64 (M : Int) (n : Int) = ((M / 2 ^ n : Nat) : Int) := by
  have hb : min ((n : Int).toNat) IntKind.u64.bits = n := by simp [IntKind.bits]; omega
  unfold gshr
  rw [hb, show ((2 : Int) ^ n) = ((2 ^ n : Nat) : Int) from by simp, Int.fdiv_eq_ediv_of_nonneg _ (Int.natCast_nonneg _)]; rfl
def popc (M : Nat) : Nat := ds 2 64 M
theorem dv {z low B q : Nat} (h : z = low + B * q) (hl : low < B) : z / B = q := by
  subst h
  rw [Nat.add_mul_div_left _ _ (by omega), Nat.div_eq_of_lt hl, Nat.zero_add]
theorem fin8 (e0 e1 e2 e3 e4 e5 e6 e7 q1 q2 q3 q4 q5 q6 : Nat) (h0 : e0 ≤ 8) (h1 : e1 ≤ 8) (h2 : e2 ≤ 8) (h3 : e3 ≤ 8) (h4 : e4 ≤ 8) (h5 : e5 ≤ 8) (h6 : e6 ≤ 8) (h7 : e7 ≤ 8) (a z1 z2 : Nat)
    (p0 : a = e0 + 256 * q1) (p1 : q1 = e1 + 256 * q2) (p2 : q2 = e2 + 256 * q3) (p3 : q3 = e3 + 256 * q4) (p4 : q4 = e4 + 256 * q5) (p5 : q5 = e5 + 256 * q6) (p6 : q6 = e6 + 256 * e7) (hz1 : z1 = a + a / 256) (hz2 : z2 = z1 + z1 / 65536) :
    (z2 + z2 / 4294967296) % 128 = e0 + e1 + e2 + e3 + e4 + e5 + e6 + e7 ∧ z1 < 18446744073709551616 ∧ z2 < 18446744073709551616 ∧ z2 + z2 / 4294967296 < 9223372036854775808 := by
  have k1 : a / 256 = q1 := dv p0 (by omega)
  have k2 : z1 / 65536 = q2 + q3 := dv (low := e0 + e1 + 256 * (e1 + e2)) (by rw [hz1, k1, p0, p1, p2]; omega) (by omega)
  have k3 : z2 / 4294967296 = q4 + q5 + q6 + e7 := dv (low := e0 + e1 + 256 * (e1 + e2) + 65536 * (e2 + e3) + 16777216 * (e3 + e4) + (e2 + e3) + 256 * (e3 + e4) + 65536 * (e4 + e5) + 16777216 * (e5 + e6)) (by rw [hz2, k2, hz1, k1]; clear k1 k2 hz1 hz2; omega) (by omega)
  have b6 : q6 ≤ 2056 := by omega
  have b5 : q5 ≤ 526344 := by omega
  have b4 : q4 ≤ 134744072 := by omega
  have b3 : q3 ≤ 34494482440 := by omega
  have b2 : q2 ≤ 8830587504648 := by omega
  have b1 : q1 ≤ 2260630401189896 := by omega
  have b0 : a ≤ 578721382704613384 := by omega
  refine ⟨?_, ?_, ?_, ?_⟩
  · rw [k3, hz2, k2, hz1, k1]
    clear k1 k2 k3 hz1 hz2 b0 b1 b2 b3 b4 b5 b6
    have : a + q1 + (q2 + q3) + (q4 + q5 + q6 + e7) = e0 + e1 + e2 + e3 + e4 + e5 + e6 + e7 + 256 * (q1 + q2 + q3 + q4 + q5 + q6 + e7) := by omega
    rw [this]
    clear p0 p1 p2 p3 p4 p5 p6 this
    omega
  · rw [hz1, k1]; omega
  · rw [hz2, k2, hz1, k1]; omega
  · rw [k3, hz2, k2, hz1, k1]; omega
theorem digits8 {x : Nat} (h : dle 256 8 8 x) : ∃ e0 e1 e2 e3 e4 e5 e6 e7 q1 q2 q3 q4 q5 q6, e0 ≤ 8 ∧ e1 ≤ 8 ∧ e2 ≤ 8 ∧ e3 ≤ 8 ∧ e4 ≤ 8 ∧ e5 ≤ 8 ∧ e6 ≤ 8 ∧ e7 ≤ 8 ∧ x = e0 + 256 * q1 ∧ q1 = e1 + 256 * q2 ∧ q2 = e2 + 256 * q3 ∧ q3 = e3 + 256 * q4 ∧ q4 = e4 + 256 * q5 ∧ q5 = e5 + 256 * q6 ∧ q6 = e6 + 256 * e7 ∧ ds 256 8 x = e0 + e1 + e2 + e3 + e4 + e5 + e6 + e7 := by
  obtain ⟨h0, h1, h2, h3, h4, h5, h6, h7, h8⟩ := h
  have dm : ∀ y : Nat, y = y % 256 + 256 * (y / 256) := fun y => by omega
  refine ⟨_, _, _, _, _, _, _, _, _, _, _, _, _, _, h0, h1, h2, h3, h4, h5, h6, h7, dm _, dm _, dm _, dm _, dm _, dm _, ?_, ?_⟩
  · have h8 : x / 256 / 256 / 256 / 256 / 256 / 256 / 256 / 256 = 0 := h8
    generalize x / 256 / 256 / 256 / 256 / 256 / 256 = y at *
    clear dm
    omega
  · simp only [ds]; omega
theorem f46_eq {M : Nat} (hM : M < 18446744073709551616) : f46 (M : Int) = some ((popc M : Nat) : Int) := by
  have m0 : (6148914691236517205 : Nat) = mk (2 ^ 1) 32 := by decide
  have m1 : (3689348814741910323 : Nat) = mk (2 ^ 2) 16 := by decide
  have m2 : (1085102592571150095 : Nat) = mk 16 8 := by decide
  have c0 : ∀ x : Nat, x &&& 6148914691236517205 ≤ 6148914691236517205 := fun x => Nat.and_le_right
  have c1 : ∀ x : Nat, x &&& 3689348814741910323 ≤ 3689348814741910323 := fun x => Nat.and_le_right
  have hd : ∀ x j : Nat, x < 18446744073709551616 → x / 2 ^ j < 18446744073709551616 := fun x j h => Nat.lt_of_le_of_lt (Nat.div_le_self _ _) h
  have s1 : IntKind.u64.wrap (bits .and .u64 (gshr .u64 (M : Int) 1) 6148914691236517205 + bits .and .u64 (M : Int) 6148914691236517205) = ((pairS 2 32 M : Nat) : Int) := by
    have h := shr M 1 (by decide)
    have a1 := u64_and_nat (M / 2 ^ 1) 6148914691236517205 (hd _ _ hM) (by decide)
    have a2 := u64_and_nat M 6148914691236517205 hM (by decide)
    have h' : gshr .u64 (M : Int) 1 = ((M / 2 ^ 1 : Nat) : Int) := h
    rw [h', show (6148914691236517205 : Int) = ((6148914691236517205 : Nat) : Int) from rfl, a1, a2, ← Int.natCast_add]
    have p := pair_and 1 32 M
    rw [← m0] at p
    rw [wu64 (by have := c0 (M / 2 ^ 1); have := c0 M; omega), p]
  have l1 : pairS 2 32 M < 18446744073709551616 := pair_lt (by decide) 32 M
  have s2 : IntKind.u64.wrap (bits .and .u64 (gshr .u64 ((pairS 2 32 M : Nat) : Int) 2) 3689348814741910323 + bits .and .u64 ((pairS 2 32 M : Nat) : Int) 3689348814741910323) = ((pairS 4 16 (pairS 2 32 M) : Nat) : Int) := by
    generalize pairS 2 32 M = X at l1
    have h' : gshr .u64 (X : Int) 2 = ((X / 2 ^ 2 : Nat) : Int) := shr X 2 (by decide)
    have a1 := u64_and_nat (X / 2 ^ 2) 3689348814741910323 (hd _ _ l1) (by decide)
    have a2 := u64_and_nat X 3689348814741910323 l1 (by decide)
    rw [h', show (3689348814741910323 : Int) = ((3689348814741910323 : Nat) : Int) from rfl, a1, a2, ← Int.natCast_add]
    have p := pair_and 2 16 X
    rw [← m1] at p
    rw [wu64 (by have := c1 (X / 2 ^ 2); have := c1 X; omega), p]
  have l2 : pairS 4 16 (pairS 2 32 M) < 18446744073709551616 := pair_lt (by decide) 16 _
  have d1 : dle 4 2 32 (pairS 2 32 M) := dle_pair (B := 2) (m := 1) (by decide) (by decide) 32 M (dle_two 64 M hM)
  have d2 : dle 16 4 16 (pairS 4 16 (pairS 2 32 M)) := dle_pair (B := 4) (m := 2) (by decide) (by decide) 16 _ d1
  have d3 : dle 256 8 8 (pairS 16 8 (pairS 4 16 (pairS 2 32 M))) := dle_pair (B := 16) (m := 4) (by decide) (by decide) 8 _ d2
  have q1 := ds_pair (B := 2) (by decide) 32 M
  have q2 := ds_pair (B := 4) (by decide) 16 (pairS 2 32 M)
  have q3 := ds_pair (B := 16) (by decide) 8 (pairS 4 16 (pairS 2 32 M))
  have s3 : bits .and .u64 (IntKind.u64.wrap (gshr .u64 ((pairS 4 16 (pairS 2 32 M) : Nat) : Int) 4 + ((pairS 4 16 (pairS 2 32 M) : Nat) : Int))) 1085102592571150095 = ((pairS 16 8 (pairS 4 16 (pairS 2 32 M)) : Nat) : Int) := by
    generalize pairS 4 16 (pairS 2 32 M) = X at l2 d2
    have h' : gshr .u64 (X : Int) 4 = ((X / 2 ^ 4 : Nat) : Int) := shr X 4 (by decide)
    have hX : X / 16 + X < 18446744073709551616 := by
      obtain ⟨_, _, _, _, _, _, _, _, _, _, _, _, _, _, _, h16, hz⟩ := d2
      have hz : X / 16 / 16 / 16 / 16 / 16 / 16 / 16 / 16 / 16 / 16 / 16 / 16 / 16 / 16 / 16 / 16 = 0 := hz
      have h16 : X / 16 / 16 / 16 / 16 / 16 / 16 / 16 / 16 / 16 / 16 / 16 / 16 / 16 / 16 / 16 % 16 ≤ 4 := h16
      omega
    rw [h', ← Int.natCast_add, wu64 hX, show (1085102592571150095 : Int) = ((1085102592571150095 : Nat) : Int) from rfl, u64_and_nat _ _ hX (by decide)]
    rw [show X / 2 ^ 4 = X / 16 from rfl, m2, sum_and 8 X d2]
  obtain ⟨e0, e1, e2, e3, e4, e5, e6, e7, q1', q2', q3', q4', q5', q6', g0, g1, g2, g3, g4, g5, g6, g7, hx, w1, w2, w3, w4, w5, w6, hs⟩ := digits8 d3
  have hpop : popc M = e0 + e1 + e2 + e3 + e4 + e5 + e6 + e7 := by
    unfold popc
    rw [← hs, q3]
    show ds 2 64 M = ds 16 16 _
    rw [q2]
    show ds 2 64 M = ds 4 32 _
    rw [q1]
  obtain ⟨r1, r2, r3, r4⟩ := fin8 e0 e1 e2 e3 e4 e5 e6 e7 q1' q2' q3' q4' q5' q6' g0 g1 g2 g3 g4 g5 g6 g7 _ _ _ hx w1 w2 w3 w4 w5 w6 rfl rfl
  unfold f46
  rw [s1, s2, s3]
  clear s1 s2 s3 hx hs w1 w2 w3 w4 w5 w6 g0 g1 g2 g3 g4 g5 g6 g7 m0 m1 m2 hd d1 d2 d3 q1 q2 q3 l1 l2 c0 c1
  generalize pairS 16 8 (pairS 4 16 (pairS 2 32 M)) = X at r1 r2 r3 r4
  have t1 : IntKind.u64.wrap ((X : Int) + gshr .u64 (X : Int) 8) = ((X + X / 256 : Nat) : Int) := by
    have h' : gshr .u64 (X : Int) 8 = ((X / 2 ^ 8 : Nat) : Int) := shr X 8 (by decide)
    rw [h', ← Int.natCast_add, wu64 r2]
  rw [t1]
  generalize X + X / 256 = Y at r1 r2 r3 r4
  have t2 : IntKind.u64.wrap ((Y : Int) + gshr .u64 (Y : Int) 16) = ((Y + Y / 65536 : Nat) : Int) := by
    have h' : gshr .u64 (Y : Int) 16 = ((Y / 2 ^ 16 : Nat) : Int) := shr Y 16 (by decide)
    rw [h', ← Int.natCast_add, wu64 r3]
  rw [t2]
  generalize Y + Y / 65536 = Z at r1 r2 r3 r4
  have t3 : IntKind.u64.wrap ((Z : Int) + gshr .u64 (Z : Int) 32) = ((Z + Z / 4294967296 : Nat) : Int) := by
    have h' : gshr .u64 (Z : Int) 32 = ((Z / 2 ^ 32 : Nat) : Int) := shr Z 32 (by decide)
    rw [h', ← Int.natCast_add, wu64 (by omega)]
  rw [t3]
  generalize Z + Z / 4294967296 = U at r1 r4
  rw [w64 (by omega) (by omega), hpop, ← r1]
  have b1 := bits_mask .i64 63 (by decide) (fun n h0 h1 => w64 (by omega) (by omega)) 7 (by decide) (U : Int) (by omega) (by omega)
  exact congrArg some b1
/-- The bits below one. -/
def cntTo (M : Nat) : Nat → Nat
  | 0 => 0
  | i + 1 => cntTo M i + if M.testBit i then 1 else 0
theorem cnt_half : ∀ (n M : Nat), cntTo M (n + 1) = M % 2 + cntTo (M / 2) n
  | 0, M => by
    simp only [cntTo, Nat.testBit_zero]
    rcases Nat.mod_two_eq_zero_or_one M with h | h <;> simp [h]
  | n + 1, M => by
    have ih := cnt_half n M
    rw [cntTo, ih, cntTo, Nat.testBit_succ]; omega
theorem cnt_ds : ∀ (n M : Nat), cntTo M n = ds 2 n M
  | 0, M => rfl
  | n + 1, M => by rw [cnt_half, cnt_ds n]; rfl
theorem f27_eq {M : Nat} (hM : M < 18446744073709551616) : f27 (M : Int) = some ((cntTo M 64 : Nat) : Int) := by
  unfold f27
  rw [f46_eq hM, cnt_ds]; rfl
theorem cnt_le (M : Nat) : ∀ n, cntTo M n ≤ n
  | 0 => Nat.le_refl _
  | n + 1 => by have := cnt_le M n; rw [cntTo]; split <;> omega

theorem f25_eq {x : Int} : ∃ n : Nat, n < 64 ∧ f25 x 64 = some (n : Int) := by
  have h1 := Int.tmod_lt_of_pos x (show (0 : Int) < 64 by decide)
  have h2 : -64 < x.tmod 64 := by
    have := Int.lt_tmod_of_pos x (show (0 : Int) < 64 by decide)
    exact this
  unfold f25
  rw [if_neg (by decide), if_pos (by decide)]
  by_cases h : x.tmod 64 < 0
  · rw [if_pos h, w64 (by omega) (by omega)]
    exact ⟨(x.tmod 64 + 64).toNat, by omega, by simp; omega⟩
  · rw [if_neg h]
    exact ⟨(x.tmod 64).toNat, by omega, by simp; omega⟩
theorem hasI_nat {M i : Nat} (hi : i < 64) : hasI M (i : Int) = M.testBit i := by
  unfold hasI
  rw [decide_eq_true (by omega)]; simp
theorem gmin_nat (a b : Nat) : gmin (a : Int) (b : Int) = ((min a b : Nat) : Int) := by rw [gmin_eq]; omega
theorem gmax_nat (a b : Nat) : gmax (a : Int) (b : Int) = ((max a b : Nat) : Int) := by rw [gmax_eq]; omega
theorem f6_loop {M a b X Y : Nat} {v : Bool} (hM : M < 18446744073709551616) (ha : a < 64) (hb : b < 64) (hX : X = putN M (min a b) (max a b) v) (hY : Y = putN X (min a b) (max a b) false) : ∀ (d n i : Nat), i + d = 64 → d < n → f6_l1 (M : Int) v (a : Int) (b : Int) (X : Int) (Y : Int) n ((cntTo X i : Nat) : Int) (i : Int) = some (.inr ((cntTo X 64 : Nat) : Int))
  | d, 0, i, hi, hd => by omega
  | 0, n + 1, i, hi, hd => by
    have : i = 64 := by omega
    subst this
    rw [f6_l1, if_neg (by omega)]
  | d + 1, n + 1, i, hi, hd => by
    have lX : X < 18446744073709551616 := by rw [hX]; exact putN_lt hM (by omega)
    have lY : Y < 18446744073709551616 := by rw [hY]; exact putN_lt lX (by omega)
    have bX : X.testBit i = if min a b ≤ i ∧ i ≤ max a b then v else M.testBit i := by rw [hX]; exact putN_bit (by omega) (by omega) (by omega)
    have bY : Y.testBit i = if min a b ≤ i ∧ i ≤ max a b then false else X.testBit i := by rw [hY]; exact putN_bit (by omega) (by omega) (by omega)
    have ih := f6_loop hM ha hb hX hY d n (i + 1) (by omega) (by omega)
    have hc := cnt_le X i
    have e : IntKind.i64.wrap ((i : Int) + 1) = ((i + 1 : Nat) : Int) := by rw [w64 (by omega) (by omega)]; omega
    have ec : (if X.testBit i = true then some (IntKind.i64.wrap (((cntTo X i : Nat) : Int) + 1)) else some ((cntTo X i : Nat) : Int)) = some ((cntTo X (i + 1) : Nat) : Int) := by
      rw [cntTo]
      split
      · rw [w64 (by omega) (by omega)]; simp
      · simp
    rw [f6_l1, if_pos (by omega), gmin_nat, gmax_nat, f26_eq lX, f26_eq lY, f26_eq hM, hasI_nat (by omega), hasI_nat (by omega), hasI_nat (by omega), e]
    have tail : ∀ Z : Option (Unit ⊕ Bool), Z = some (.inl ()) → (Z.bind fun s => match s with
        | .inl _ => (some (X.testBit i)).bind fun t95 => (if t95 = true then some (IntKind.i64.wrap (((cntTo X i : Nat) : Int) + 1)) else some ((cntTo X i : Nat) : Int)).bind fun x16 => f6_l1 (M : Int) v (a : Int) (b : Int) (X : Int) (Y : Int) n x16 ((i + 1 : Nat) : Int)
        | .inr st => some (Sum.inl st)) = some (.inr ((cntTo X 64 : Nat) : Int)) := by
      intro Z hZ
      rw [hZ]
      simp only [Option.bind_some]
      rw [ec]
      exact ih
    by_cases hin : min a b ≤ i ∧ i ≤ max a b
    · rw [if_pos hin] at bX bY
      have e1 : (if (i : Int) ≥ ((min a b : Nat) : Int) then (some (decide ((i : Int) ≤ ((max a b : Nat) : Int)))).bind fun t61 => some t61 else some false) = some true := by
        rw [if_pos (by omega), decide_eq_true (by omega)]; rfl
      rw [e1]
      simp only [Option.bind_some, if_true]
      refine tail _ ?_
      rw [bX, bY]
      cases v <;> rfl
    · rw [if_neg hin] at bX bY
      have e1 : (if (i : Int) ≥ ((min a b : Nat) : Int) then (some (decide ((i : Int) ≤ ((max a b : Nat) : Int)))).bind fun t61 => some t61 else some false) = some false := by
        by_cases q : (i : Int) ≥ ((min a b : Nat) : Int)
        · rw [if_pos q, decide_eq_false (by omega)]; rfl
        · rw [if_neg q]
      rw [e1]
      simp only [Option.bind_some, Bool.false_eq_true, if_false]
      refine tail _ ?_
      rw [bY, bX]
      cases M.testBit i <;> rfl
theorem f6_eq {M : Nat} (hM : M < 18446744073709551616) (a b : Int) (v : Bool) : f6 1000 (M : Int) a b v = some true := by
  obtain ⟨A, hA, eA⟩ := f25_eq (x := a)
  obtain ⟨B, hB, eB⟩ := f25_eq (x := b)
  unfold f6
  rw [known5, eA, eB]
  simp only [Option.bind_some]
  rw [gmin_nat, gmax_nat, f16_eq hM (by omega) (by omega)]
  simp only [Option.bind_some]
  have lX := putN_lt (a := min A B) (v := v) hM (show max A B < 64 by omega)
  rw [f16_eq lX (by omega) (by omega)]
  simp only [Option.bind_some, if_true]
  have := f6_loop (v := v) hM hA hB rfl rfl 64 1000 0 (by omega) (by omega)
  have h0 : ((cntTo (putN M (min A B) (max A B) v) 0 : Nat) : Int) = 0 := rfl
  rw [h0] at this
  rw [show ((0 : Nat) : Int) = 0 from rfl] at this
  rw [this]
  simp only [Option.bind_some]
  rw [f27_eq lX]
  simp
theorem pure6 : Pure6 := fun x0 x1 x2 x3 h0 _ _ _ => by
  obtain ⟨M, rfl, hM⟩ := okU h0
  exact ⟨1000, f6_eq hM x1 x2 x3⟩
end Go.Proofs.YtcephcgnfmcdhaaDoor

set_option linter.unusedVariables false
set_option linter.unusedSimpArgs false
namespace Go.Proofs.YtcephcgnfmcdhaaDoor
open Go Go.Det Go.RowKit
/-! The next and the nearest floors -/
theorem ctz_spec {x : Nat} (h0 : x ≠ 0) (hx : x < 18446744073709551616) : Lib.ctz 64 x < 64 ∧ x.testBit (Lib.ctz 64 x) = true ∧ ∀ j, j < Lib.ctz 64 x → x.testBit j = false := by
  have he : Lib.ctz 64 x = Lib.ctzFrom 64 x := by unfold Lib.ctz; rw [if_neg h0]
  rw [he]
  obtain ⟨m, h1, h2⟩ := Lib.ctzFrom_spec 64 x (by omega) hx
  generalize Lib.ctzFrom 64 x = c at h1 h2
  subst h1
  refine ⟨h2, ?_, fun j hj => ?_⟩
  · rw [Nat.testBit_eq_decide_div_mod_eq, Nat.mul_div_cancel_left _ (Nat.pow_pos (by decide))]
    simp
  · rw [Nat.testBit_eq_decide_div_mod_eq]
    have : 2 ^ c * (2 * m + 1) / 2 ^ j = 2 * (2 ^ (c - j - 1) * (2 * m + 1)) := by
      have e : 2 ^ c = 2 ^ j * (2 * 2 ^ (c - j - 1)) := by
        rw [← Nat.pow_succ', ← Nat.pow_add]; congr 1; omega
      rw [e, Nat.mul_assoc, Nat.mul_div_cancel_left _ (Nat.pow_pos (by decide)), Nat.mul_assoc]
    rw [this]; simp
theorem bitLen_spec : ∀ (f x : Nat), x ≤ f → x ≠ 0 → x < 18446744073709551616 → ∃ k, Lib.bitLen x = k + 1 ∧ x.testBit k = true ∧ ∀ j, k < j → x.testBit j = false
  | 0, x, hf, h0, _ => by omega
  | f + 1, x, hf, h0, hx => by
    rw [Lib.bitLen_half x h0 hx]
    by_cases h1 : x = 1
    · subst h1
      refine ⟨0, by decide, by decide, fun j hj => ?_⟩
      rw [Nat.testBit_eq_decide_div_mod_eq, Nat.div_eq_of_lt (Nat.one_lt_two_pow (by omega))]; simp
    · obtain ⟨k, h2, h3, h4⟩ := bitLen_spec f (x / 2) (by omega) (by omega) (by omega)
      refine ⟨k + 1, by omega, by rw [Nat.testBit_succ]; exact h3, fun j hj => ?_⟩
      obtain ⟨i, rfl⟩ : ∃ i, j = i + 1 := ⟨j - 1, by omega⟩
      rw [Nat.testBit_succ]; exact h4 i (by omega)
theorem bitLen_spec' {x : Nat} (h0 : x ≠ 0) (hx : x < 18446744073709551616) : ∃ k, Lib.bitLen x = k + 1 ∧ k < 64 ∧ x.testBit k = true ∧ ∀ j, k < j → x.testBit j = false := by
  obtain ⟨k, h1, h2, h3⟩ := bitLen_spec x x (Nat.le_refl _) h0 hx
  refine ⟨k, h1, ?_, h2, h3⟩
  rcases Nat.lt_or_ge k 64 with h | h
  · exact h
  · rw [testBit_big hx h] at h2; cases h2
/-- The next floor above. -/
def UpIs (M x : Nat) (r : Int × Int) : Prop := (∃ j : Nat, r = ((j : Int), 0) ∧ x < j ∧ j < 64 ∧ M.testBit j = true ∧ ∀ i, x < i → i < j → M.testBit i = false) ∨ (r = (0, 6) ∧ ∀ i, x < i → i < 64 → M.testBit i = false)
def DnIs (M x : Nat) (r : Int × Int) : Prop := (∃ j : Nat, r = ((j : Int), 0) ∧ j < x ∧ M.testBit j = true ∧ ∀ i, i < x → j < i → M.testBit i = false) ∨ (r = (0, 6) ∧ ∀ i, i < x → M.testBit i = false)
theorem f20_eq {M x : Nat} (hM : M < 18446744073709551616) (hx : x < 64) : ∃ r, f20 (M : Int) (x : Int) = some r ∧ UpIs M x r := by
  unfold f20
  have h1 := pow64' (n := x + 1) (by omega)
  have hp : 0 < 2 ^ (x + 1) := Nat.pow_pos (by decide)
  have e : IntKind.i64.wrap ((x : Int) + 1) = ((x + 1 : Nat) : Int) := by rw [w64 (by omega) (by omega)]; omega
  rw [f37_eq, decide_eq_true (by omega)]
  simp only [Option.bind_some, if_true]
  rw [e, f39_eq (by omega)]
  simp only [Option.bind_some]
  rw [u64_andNot_nat M _ hM (by omega)]
  have hlt : M &&& (18446744073709551615 - (2 ^ (x + 1) - 1)) < 18446744073709551616 := Nat.lt_of_le_of_lt Nat.and_le_left hM
  have hb : ∀ i, i < 64 → (M &&& (18446744073709551615 - (2 ^ (x + 1) - 1))).testBit i = (M.testBit i && decide (x < i)) := by
    intro i hi
    rw [Nat.testBit_and, testBit_not (by omega) hi, Nat.testBit_two_pow_sub_one]
    congr 1
    rw [Bool.eq_iff_iff]; simp; omega
  generalize M &&& (18446744073709551615 - (2 ^ (x + 1) - 1)) = y at hlt hb
  by_cases h0 : y = 0
  · subst h0
    rw [if_pos (show ((0 : Nat) : Int) = 0 from rfl)]
    refine ⟨_, rfl, .inr ⟨rfl, fun i hi h64 => ?_⟩⟩
    have := hb i h64
    rw [Nat.zero_testBit] at this
    simpa [hi] using this.symm
  · rw [if_neg (by omega)]
    obtain ⟨c1, c2, c3⟩ := ctz_spec h0 hlt
    unfold f41
    rw [if_pos ⟨by omega, by omega⟩]
    simp only [Option.bind_some, Int.toNat_natCast]
    generalize Lib.ctz 64 y = c at c1 c2 c3
    rw [hb c c1] at c2
    simp only [Bool.and_eq_true, decide_eq_true_eq] at c2
    refine ⟨_, rfl, .inl ⟨c, rfl, c2.2, c1, c2.1, fun i hi hc => ?_⟩⟩
    have := c3 i hc
    rw [hb i (by omega)] at this
    simpa [hi] using this
theorem f21_eq {M x : Nat} (hM : M < 18446744073709551616) (hx : x < 64) : ∃ r, f21 (M : Int) (x : Int) = some r ∧ DnIs M x r := by
  unfold f21
  have h1 := pow64 (n := x) hx
  have hp : 0 < 2 ^ x := Nat.pow_pos (by decide)
  rw [f37_eq, decide_eq_true (by omega)]
  simp only [Option.bind_some, if_true]
  rw [f39_eq (by omega)]
  simp only [Option.bind_some]
  rw [u64_and_nat M _ hM (by omega)]
  have hlt : M &&& (2 ^ x - 1) < 18446744073709551616 := Nat.lt_of_le_of_lt Nat.and_le_left hM
  have hb : ∀ i, (M &&& (2 ^ x - 1)).testBit i = (M.testBit i && decide (i < x)) := by
    intro i
    rw [Nat.testBit_and, Nat.testBit_two_pow_sub_one]
  generalize M &&& (2 ^ x - 1) = y at hlt hb
  by_cases h0 : y = 0
  · subst h0
    rw [if_pos (show ((0 : Nat) : Int) = 0 from rfl)]
    refine ⟨_, rfl, .inr ⟨rfl, fun i hi => ?_⟩⟩
    have := hb i
    rw [Nat.zero_testBit] at this
    simpa [hi] using this.symm
  · rw [if_neg (by omega)]
    obtain ⟨c, c0, c1, c2, c3⟩ := bitLen_spec' h0 hlt
    unfold f45
    rw [if_pos ⟨by omega, by omega⟩]
    simp only [Option.bind_some, Int.toNat_natCast, c0]
    rw [w64 (by omega) (by omega)]
    rw [hb c] at c2
    simp only [Bool.and_eq_true, decide_eq_true_eq] at c2
    refine ⟨_, rfl, .inl ⟨c, by simp, c2.2, c2.1, fun i hi hc => ?_⟩⟩
    have := c3 i hc
    rw [hb i] at this
    simpa [hi] using this
def distN (a b : Nat) : Nat := max a b - min a b
/-- The nearest floor. -/
def NrIs (M x : Nat) (r : Int × Int) : Prop := (∃ j : Nat, r = ((j : Int), 0) ∧ j < 64 ∧ M.testBit j = true ∧ ∀ i, i < 64 → M.testBit i = true → distN j x < distN i x ∨ (distN j x = distN i x ∧ j ≤ i)) ∨ (r = (0, 6) ∧ ∀ i, i < 64 → M.testBit i = false)
theorem f22_eq {M x : Nat} (hM : M < 18446744073709551616) (hx : x < 64) : ∃ r, f22 (M : Int) (x : Int) = some r ∧ NrIs M x r := by
  unfold f22
  rw [f37_eq, decide_eq_true (by omega), f26_eq hM, hasI_nat hx]
  simp only [Option.bind_some, if_true]
  by_cases hh : M.testBit x = true
  · rw [hh]
    simp only [if_true]
    refine ⟨_, rfl, .inl ⟨x, rfl, hx, hh, fun i hi hb => ?_⟩⟩
    unfold distN
    by_cases q : i = x
    · subst q; right; omega
    · left; omega
  · have hh' : M.testBit x = false := by simpa using hh
    rw [hh']
    simp only [Bool.false_eq_true, if_false]
    obtain ⟨⟨u1, u2⟩, e1, hu⟩ := f20_eq hM hx
    obtain ⟨⟨d1, d2⟩, e2, hd⟩ := f21_eq hM hx
    rw [e1, e2]
    simp only [Option.bind_some]
    have split : ∀ i, i < 64 → M.testBit i = true → i < x ∨ x < i := by
      intro i hi hb
      rcases Nat.lt_trichotomy i x with h | h | h
      · exact .inl h
      · subst h; rw [hh'] at hb; cases hb
      · exact .inr h
    rcases hu with ⟨j, hj, g1, g2, g3, g4⟩ | ⟨hj, g⟩ <;> rcases hd with ⟨i, hi, k1, k2, k3⟩ | ⟨hi, k⟩ <;> cases hj <;> cases hi
    · rw [if_pos rfl, if_pos rfl, if_pos rfl]
      rw [w64 (by omega) (by omega), w64 (by omega) (by omega)]
      by_cases hle : (x : Int) - (i : Int) ≤ (j : Int) - (x : Int)
      · rw [if_pos hle]
        refine ⟨_, rfl, .inl ⟨i, rfl, by omega, k2, fun n hn hb => ?_⟩⟩
        unfold distN
        rcases split n hn hb with h | h
        · have : n ≤ i := by
            rcases Nat.lt_or_ge i n with q | q
            · rw [k3 n h q] at hb; cases hb
            · exact q
          omega
        · have : j ≤ n := by
            rcases Nat.lt_or_ge n j with q | q
            · rw [g4 n h q] at hb; cases hb
            · exact q
          omega
      · rw [if_neg hle]
        refine ⟨_, rfl, .inl ⟨j, rfl, g2, g3, fun n hn hb => ?_⟩⟩
        unfold distN
        rcases split n hn hb with h | h
        · have : n ≤ i := by
            rcases Nat.lt_or_ge i n with q | q
            · rw [k3 n h q] at hb; cases hb
            · exact q
          omega
        · have : j ≤ n := by
            rcases Nat.lt_or_ge n j with q | q
            · rw [g4 n h q] at hb; cases hb
            · exact q
          omega
    · rw [if_pos rfl, if_pos rfl, if_neg (by decide)]
      refine ⟨_, rfl, .inl ⟨j, rfl, g2, g3, fun n hn hb => ?_⟩⟩
      unfold distN
      rcases split n hn hb with h | h
      · rw [k n h] at hb; cases hb
      · have : j ≤ n := by
          rcases Nat.lt_or_ge n j with q | q
          · rw [g4 n h q] at hb; cases hb
          · exact q
        omega
    · rw [if_neg (by decide), if_pos rfl, if_neg (by decide)]
      refine ⟨_, rfl, .inl ⟨i, rfl, by omega, k2, fun n hn hb => ?_⟩⟩
      unfold distN
      rcases split n hn hb with h | h
      · have : n ≤ i := by
          rcases Nat.lt_or_ge i n with q | q
          · rw [k3 n h q] at hb; cases hb
          · exact q
        omega
      · rw [g n h hn] at hb; cases hb
    · rw [if_neg (by decide), if_neg (by decide)]
      refine ⟨_, rfl, .inr ⟨rfl, fun n hn => ?_⟩⟩
      cases hb : M.testBit n with
      | false => rfl
      | true =>
        rcases split n hn hb with h | h
        · rw [k n h] at hb; cases hb
        · rw [g n h hn] at hb; cases hb
theorem dist_int (a b : Nat) (ha : a < 64) (hb : b < 64) : IntKind.i64.wrap (gmax (a : Int) (b : Int) - gmin (a : Int) (b : Int)) = ((distN a b : Nat) : Int) := by
  rw [gmax_nat, gmin_nat, w64 (by omega) (by omega)]
  unfold distN
  omega
theorem f7_loop {M x j : Nat} (hM : M < 18446744073709551616) (hx : x < 64) (hj : j < 64) (h : ∀ i, i < 64 → M.testBit i = true → distN j x < distN i x ∨ (distN j x = distN i x ∧ j ≤ i)) : ∀ (d n i : Nat), i + d = 64 → d < n → f7_l1 (M : Int) (x : Int) (j : Int) n (i : Int) = some (.inr ())
  | d, 0, i, hi, hd => by omega
  | 0, n + 1, i, hi, hd => by
    rw [f7_l1, if_neg (by omega)]
  | d + 1, n + 1, i, hi, hd => by
    have ih := f7_loop hM hx hj h d n (i + 1) (by omega) (by omega)
    have e : IntKind.i64.wrap ((i : Int) + 1) = ((i + 1 : Nat) : Int) := by rw [w64 (by omega) (by omega)]; omega
    rw [f7_l1, if_pos (by omega), f26_eq hM, hasI_nat (by omega), dist_int i x (by omega) hx, dist_int j x hj hx, e]
    simp only [Option.bind_some]
    cases hb : M.testBit i with
    | false => exact ih
    | true =>
      simp only [if_true]
      have := h i (by omega) hb
      rw [if_neg (by omega)]
      by_cases q : ((distN i x : Nat) : Int) = ((distN j x : Nat) : Int)
      · rw [if_pos q, if_neg (by omega)]; exact ih
      · rw [if_neg q]; exact ih
theorem f7_eq {M : Nat} (hM : M < 18446744073709551616) (a : Int) : f7 1000 (M : Int) a = some true := by
  obtain ⟨x, hx, ex⟩ := f25_eq (x := a)
  obtain ⟨⟨r1, r2⟩, er, hr⟩ := f22_eq hM hx
  unfold f7
  rw [known5, ex]
  simp only [Option.bind_some]
  rw [er]
  simp only [Option.bind_some, if_true]
  rcases hr with ⟨j, hj, h1, h2, h3⟩ | ⟨hj, h⟩
  · cases hj
    have h0 : M ≠ 0 := by rintro rfl; rw [Nat.zero_testBit] at h2; cases h2
    rw [if_neg (by omega), if_pos rfl, f26_eq hM, f26_eq hM, hasI_nat h1, hasI_nat hx, h2]
    simp only [Option.bind_some, if_true]
    have hl := f7_loop hM hx h1 h3 64 1000 0 (by omega) (by omega)
    have hl : f7_l1 (M : Int) (x : Int) (j : Int) 1000 0 = some (.inr ()) := hl
    cases hb : M.testBit x with
    | false =>
      simp only [Bool.false_eq_true, if_false, Option.bind_some]
      rw [hl]; rfl
    | true =>
      simp only [if_true]
      have := h3 x hx hb
      have hjx : j = x := by unfold distN at this; omega
      rw [if_pos (by omega)]
      simp only [Option.bind_some]
      rw [hl]; rfl
  · cases hj
    have h0 : M = 0 := ext64 hM (by decide) fun i hi => by rw [h i hi, Nat.zero_testBit]
    rw [if_pos (by omega)]; rfl
theorem pure7 : Pure7 := fun x0 x1 h0 _ => by
  obtain ⟨M, rfl, hM⟩ := okU h0
  exact ⟨1000, f7_eq hM x1⟩
end Go.Proofs.YtcephcgnfmcdhaaDoor

set_option linter.unusedVariables false
set_option linter.unusedSimpArgs false
namespace Go.Proofs.YtcephcgnfmcdhaaDoor
open Go Go.Det Go.RowKit
/-! The floors of a set as a list -/
def upTo (M j : Nat) : List Nat := (List.range j).filter fun i => M.testBit i
def ints (l : List Nat) : List Int := l.map fun (i : Nat) => (i : Int)
theorem upTo_succ (M j : Nat) : upTo M (j + 1) = upTo M j ++ if M.testBit j then [j] else [] := by
  unfold upTo
  rw [List.range_succ, List.filter_append]
  congr 1
  by_cases h : M.testBit j <;> simp [h]
theorem upTo_len (M : Nat) : ∀ j, (upTo M j).length = cntTo M j
  | 0 => rfl
  | j + 1 => by
    rw [upTo_succ, List.length_append, upTo_len M j, cntTo]
    by_cases h : M.testBit j <;> simp [h]
theorem ints_append (a b : List Nat) : ints (a ++ b) = ints a ++ ints b := by simp [ints]
theorem ints_len (a : List Nat) : (ints a).length = a.length := by simp [ints]
theorem upTo_gap {M c : Nat} : ∀ (d j : Nat), j + d = c → (∀ i, j ≤ i → i < c → M.testBit i = false) → upTo M c = upTo M j
  | 0, j, h, _ => by simp at h; rw [h]
  | d + 1, j, h, hz => by
    obtain ⟨c, rfl⟩ : ∃ c', c = c' + 1 := ⟨c - 1, by omega⟩
    rw [upTo_succ, hz c (by omega) (by omega)]
    simp only [Bool.false_eq_true, if_false, List.append_nil]
    exact upTo_gap d j (by omega) fun i h1 h2 => hz i h1 (by omega)
theorem apd_ok {α : Type} {by_ : Nat} {l l' : List α} (h : (l.length + l'.length) * by_ ≤ 140737488355328) : apd by_ l l' = some (l ++ l') := by unfold apd; rw [if_pos h]
theorem f35_loop {M : Nat} (hM : M < 18446744073709551616) : ∀ (d n i : Nat), i + d = 64 → d < n → f35_l1 (M : Int) n (ints (upTo M i)) (i : Int) = some (ints (upTo M 64))
  | d, 0, i, hi, hd => by omega
  | 0, n + 1, i, hi, hd => by
    have : i = 64 := by omega
    subst this
    rw [f35_l1, if_neg (by omega)]
  | d + 1, n + 1, i, hi, hd => by
    have ih := f35_loop hM d n (i + 1) (by omega) (by omega)
    have hl := cnt_le M i
    have e : IntKind.i64.wrap ((i : Int) + 1) = ((i + 1 : Nat) : Int) := by rw [w64 (by omega) (by omega)]; omega
    rw [f35_l1, if_pos (by omega), f31_eq hM, hasI_nat (by omega), e, apd_ok (by rw [ints_len, upTo_len]; simp; omega)]
    simp only [Option.bind_some]
    rw [upTo_succ, ints_append] at ih
    cases h : M.testBit i with
    | false => rw [h] at ih; simpa [ints] using ih
    | true => rw [h] at ih; simpa [ints] using ih
theorem f35_eq {M : Nat} (hM : M < 18446744073709551616) : f35 1000 (M : Int) = some (ints (upTo M 64)) := by
  unfold f35
  have := f35_loop hM 64 1000 0 (by omega) (by omega)
  have h : f35_l1 (M : Int) 1000 [] 0 = some (ints (upTo M 64)) := this
  rw [h]; rfl
theorem clear_low {x : Nat} (h0 : x ≠ 0) (hx : x < 18446744073709551616) : ∀ i, (x &&& (x - 1)).testBit i = (x.testBit i && decide (Lib.ctz 64 x < i)) := by
  obtain ⟨c1, c2, c3⟩ := ctz_spec h0 hx
  have he : Lib.ctz 64 x = Lib.ctzFrom 64 x := by unfold Lib.ctz; rw [if_neg h0]
  obtain ⟨m, h1, h2⟩ := Lib.ctzFrom_spec 64 x (by omega) hx
  rw [← he] at h1
  generalize Lib.ctz 64 x = c at h1 c1 c2 c3
  intro i
  rw [Nat.testBit_and]
  have hp : 0 < 2 ^ c := Nat.pow_pos (by decide)
  have e : x - 1 = 2 ^ c * (2 * m) + (2 ^ c - 1) := by
    rw [h1, Nat.mul_add, Nat.mul_one]; omega
  rcases Nat.lt_trichotomy i c with h | h | h
  · rw [c3 i h]; simp
  · subst h
    rw [e, Nat.testBit_two_pow_mul_add _ (by omega)]
    simp
  · rw [e, Nat.testBit_two_pow_mul_add _ (by omega), if_neg (by omega)]
    have e2 : x = 2 ^ c * (2 * m + 1) + 0 := by rw [h1]; rfl
    rw [e2, Nat.testBit_two_pow_mul_add _ hp, if_neg (by omega), decide_eq_true h]
    obtain ⟨j, hj⟩ : ∃ j, i - c = j + 1 := ⟨i - c - 1, by omega⟩
    rw [hj, Nat.testBit_succ, Nat.testBit_succ]
    rw [show (2 * m + 1) / 2 = m from by omega, show 2 * m / 2 = m from by omega]; simp
theorem f34_loop {M : Nat} (hM : M < 18446744073709551616) : ∀ (d n j x : Nat), j + d = 65 → d < n → x < 18446744073709551616 → (∀ i, x.testBit i = (M.testBit i && decide (j ≤ i))) → f34_l1 n (ints (upTo M j)) (x : Int) = some (ints (upTo M 64))
  | d, 0, j, x, hj, hd, hx, hb => by omega
  | d, n + 1, j, x, hj, hd, hx, hb => by
    rw [f34_l1]
    by_cases h0 : x = 0
    · subst h0
      rw [if_pos (show ((0 : Nat) : Int) = 0 from rfl)]
      have hz : ∀ i, j ≤ i → M.testBit i = false := by
        intro i hi
        have := hb i
        rw [Nat.zero_testBit] at this
        simpa [hi] using this.symm
      rcases Nat.le_total j 64 with q | q
      · rw [upTo_gap (c := 64) (64 - j) j (by omega) fun i h1 _ => hz i h1]
      · rw [upTo_gap (c := j) (j - 64) 64 (by omega) fun i h1 _ => testBit_big hM h1]
    · rw [if_neg (by omega)]
      obtain ⟨c1, c2, c3⟩ := ctz_spec h0 hx
      have hcl := clear_low h0 hx
      have e1 : IntKind.u64.wrap ((x : Int) - 1) = ((x - 1 : Nat) : Int) := by rw [show (x : Int) - 1 = ((x - 1 : Nat) : Int) from by omega, wu64 (by omega)]
      have e41 : f41 (x : Int) = some ((Lib.ctz 64 x : Nat) : Int) := by
        unfold f41; rw [if_pos ⟨by omega, by omega⟩]; simp
      rw [e41, e1, u64_and_nat x _ hx (by omega)]
      generalize Lib.ctz 64 x = c at c1 c2 c3 hcl
      have hjc : j ≤ c := by
        have := hb c
        rw [c2] at this
        simp at this; omega
      have hMc : M.testBit c = true := by
        have := hb c
        rw [c2] at this
        simp at this; exact this.1
      have hgap : upTo M c = upTo M j := upTo_gap (c - j) j (by omega) fun i h1 h2 => by
        have := hb i
        rw [c3 i h2] at this
        simpa [h1] using this.symm
      have hnext : upTo M (c + 1) = upTo M j ++ [c] := by rw [upTo_succ, hMc, hgap]; rfl
      have hl := cnt_le M j
      simp only [Option.bind_some]
      rw [apd_ok (by rw [ints_len, upTo_len]; simp; omega)]
      simp only [Option.bind_some]
      have ih := f34_loop hM (64 - c) n (c + 1) (x &&& (x - 1)) (by omega) (by omega) (Nat.lt_of_le_of_lt Nat.and_le_left hx) fun i => by
        rw [hcl i, hb i]
        cases M.testBit i
        · simp
        · rw [Bool.eq_iff_iff]; simp; omega
      rw [hnext, ints_append] at ih
      exact ih
theorem f34_eq {M : Nat} (hM : M < 18446744073709551616) : f34 1000 (M : Int) = some (ints (upTo M 64)) := by
  unfold f34
  have := f34_loop hM 65 1000 0 M (by omega) (by omega) hM fun i => by simp
  have h : f34_l1 1000 [] (M : Int) = some (ints (upTo M 64)) := this
  rw [h]; rfl
theorem f33_loop (l : List Int) (hl : l.length ≤ 64) : ∀ (d n i : Nat), i + d = l.length → d < n → f33_l1 l l n (i : Int) = some (.inr ())
  | d, 0, i, hi, hd => by omega
  | 0, n + 1, i, hi, hd => by rw [f33_l1, if_neg (by omega)]
  | d + 1, n + 1, i, hi, hd => by
    have ih := f33_loop l hl d n (i + 1) (by omega) (by omega)
    have e : IntKind.i64.wrap ((i : Int) + 1) = ((i + 1 : Nat) : Int) := by rw [w64 (by omega) (by omega)]; omega
    rw [f33_l1, if_pos (by omega), rd_nat, List.getElem?_eq_getElem (by omega), e]
    simpa using ih
theorem f33_eq (l : List Int) (hl : l.length ≤ 64) : f33 1000 l l = some true := by
  unfold f33
  rw [if_pos rfl]
  have h : f33_l1 l l 1000 0 = some (.inr ()) := f33_loop l hl l.length 1000 0 (by omega) (by omega)
  rw [h]; rfl
theorem ul (M : Nat) : (ints (upTo M 64)).length ≤ 64 := by rw [ints_len, upTo_len]; exact cnt_le M 64
/-! The reference's loops -/
theorem f28_loop {M x : Nat} (hM : M < 18446744073709551616) : ∀ (d n i : Nat), i + d = 64 → d < n → x < i → (∀ j, x < j → j < i → M.testBit j = false) → ∃ r, (f28_l1 (M : Int) n (i : Int)).bind (fun s => match s with | .inl st => some st | .inr _ => some (0, 6)) = some r ∧ UpIs M x r
  | d, 0, i, hi, hd, hx, hz => by omega
  | 0, n + 1, i, hi, hd, hx, hz => by
    rw [f28_l1, if_neg (by omega)]
    exact ⟨_, rfl, .inr ⟨rfl, fun j h1 h2 => hz j h1 (by omega)⟩⟩
  | d + 1, n + 1, i, hi, hd, hx, hz => by
    have e : IntKind.i64.wrap ((i : Int) + 1) = ((i + 1 : Nat) : Int) := by rw [w64 (by omega) (by omega)]; omega
    rw [f28_l1, if_pos (by omega), f31_eq hM, hasI_nat (by omega), e]
    simp only [Option.bind_some]
    cases h : M.testBit i with
    | true => exact ⟨_, rfl, .inl ⟨i, rfl, hx, by omega, h, hz⟩⟩
    | false =>
      simp only [Bool.false_eq_true, if_false]
      exact f28_loop hM d n (i + 1) (by omega) (by omega) (by omega) fun j h1 h2 => by
        by_cases q : j = i
        · subst q; exact h
        · exact hz j h1 (by omega)
theorem f29_loop {M x : Nat} (hM : M < 18446744073709551616) (hx : x < 64) : ∀ (n i : Nat), i ≤ x → i < n → (∀ j, i ≤ j → j < x → M.testBit j = false) → ∃ r, (f29_l1 (M : Int) n ((i : Int) - 1)).bind (fun s => match s with | .inl st => some st | .inr _ => some (0, 6)) = some r ∧ DnIs M x r
  | 0, i, hi, hd, hz => by omega
  | n + 1, 0, hi, hd, hz => by
    rw [f29_l1, if_neg (by omega)]
    exact ⟨_, rfl, .inr ⟨rfl, fun j h2 => hz j (by omega) h2⟩⟩
  | n + 1, i + 1, hi, hd, hz => by
    have e : IntKind.i64.wrap ((i : Int) - 1) = (i : Int) - 1 := w64 (by omega) (by omega)
    rw [show (((i + 1 : Nat) : Int) - 1) = (i : Int) from by omega, f29_l1, if_pos (by omega), f31_eq hM, hasI_nat (by omega), e]
    simp only [Option.bind_some]
    cases h : M.testBit i with
    | true => exact ⟨_, rfl, .inl ⟨i, rfl, by omega, h, fun j h1 h2 => hz j (by omega) h1⟩⟩
    | false =>
      simp only [Bool.false_eq_true, if_false]
      exact f29_loop hM hx n i (by omega) (by omega) fun j h1 h2 => by
        by_cases q : j = i
        · subst q; exact h
        · exact hz j (by omega) h2
theorem f30_loop {M x : Nat} (hM : M < 18446744073709551616) (hx : x < 64) : ∀ (e n d : Nat), d + e = 64 → e < n → (∀ i, i < 64 → distN i x < d → M.testBit i = false) → ∃ r, (f30_l1 (M : Int) (x : Int) n (d : Int)).bind (fun s => match s with | .inl st => some st | .inr _ => some (0, 6)) = some r ∧ NrIs M x r
  | e, 0, d, hd, hn, hz => by omega
  | 0, n + 1, d, hd, hn, hz => by
    rw [f30_l1, if_neg (by omega)]
    exact ⟨_, rfl, .inr ⟨rfl, fun i hi => hz i hi (by unfold distN; omega)⟩⟩
  | e + 1, n + 1, d, hd, hn, hz => by
    have e1 : IntKind.i64.wrap ((d : Int) + 1) = ((d + 1 : Nat) : Int) := by rw [w64 (by omega) (by omega)]; omega
    have e2 : IntKind.i64.wrap ((x : Int) - (d : Int)) = (x : Int) - (d : Int) := w64 (by omega) (by omega)
    have e3 : IntKind.i64.wrap ((x : Int) + (d : Int)) = ((x + d : Nat) : Int) := by rw [w64 (by omega) (by omega)]; omega
    rw [f30_l1, if_pos (by omega), f31_eq hM, f31_eq hM, e1, e2, e3]
    simp only [Option.bind_some]
    by_cases h1 : d ≤ x ∧ M.testBit (x - d) = true
    · have : hasI M ((x : Int) - (d : Int)) = true := by
        rw [show (x : Int) - (d : Int) = ((x - d : Nat) : Int) from by omega, hasI_nat (by omega)]; exact h1.2
      rw [this]
      simp only [if_true]
      refine ⟨_, rfl, .inl ⟨x - d, by simp; omega, by omega, h1.2, fun i hi hb => ?_⟩⟩
      have : ¬ distN i x < d := fun q => by rw [hz i hi q] at hb; cases hb
      unfold distN at this ⊢
      omega
    · have hn1 : hasI M ((x : Int) - (d : Int)) = false := by
        by_cases q : d ≤ x
        · rw [show (x : Int) - (d : Int) = ((x - d : Nat) : Int) from by omega, hasI_nat (by omega)]
          cases hb : M.testBit (x - d) with
          | false => rfl
          | true => exact absurd ⟨q, hb⟩ h1
        · unfold hasI; rw [decide_eq_false (by omega)]; rfl
      rw [hn1]
      simp only [Bool.false_eq_true, if_false]
      have hz1 : ∀ i, i < 64 → i ≤ x → distN i x < d + 1 → M.testBit i = false := by
        intro i hi hix hdi
        by_cases q : distN i x < d
        · exact hz i hi q
        · have : i = x - d := by unfold distN at *; omega
          subst this
          cases hb : M.testBit (x - d) with
          | false => rfl
          | true => exact absurd ⟨by unfold distN at *; omega, hb⟩ h1
      by_cases h2 : x + d < 64 ∧ M.testBit (x + d) = true
      · have : hasI M ((x + d : Nat) : Int) = true := by rw [hasI_nat h2.1]; exact h2.2
        rw [this]
        simp only [if_true]
        refine ⟨_, rfl, .inl ⟨x + d, rfl, h2.1, h2.2, fun i hi hb => ?_⟩⟩
        have k1 : ¬ distN i x < d := fun q => by rw [hz i hi q] at hb; cases hb
        have k2 : i ≤ x → ¬ distN i x < d + 1 := fun q q2 => by rw [hz1 i hi q q2] at hb; cases hb
        unfold distN at *
        omega
      · have hn2 : hasI M ((x + d : Nat) : Int) = false := by
          by_cases q : x + d < 64
          · rw [hasI_nat q]
            cases hb : M.testBit (x + d) with
            | false => rfl
            | true => exact absurd ⟨q, hb⟩ h2
          · unfold hasI; rw [decide_eq_false (by omega)]; rfl
        rw [hn2]
        simp only [Bool.false_eq_true, if_false]
        refine f30_loop hM hx e n (d + 1) (by omega) (by omega) fun i hi hdi => ?_
        by_cases q : i ≤ x
        · exact hz1 i hi q hdi
        · by_cases q2 : distN i x < d
          · exact hz i hi q2
          · have : i = x + d := by unfold distN at *; omega
            subst this
            cases hb : M.testBit (x + d) with
            | false => rfl
            | true => exact absurd ⟨hi, hb⟩ h2
theorem UpIs.uniq {M x : Nat} {r s : Int × Int} (h : UpIs M x r) (k : UpIs M x s) : r = s := by
  rcases h with ⟨j, rfl, h1, h2, h3, h4⟩ | ⟨rfl, h⟩ <;> rcases k with ⟨i, rfl, k1, k2, k3, k4⟩ | ⟨rfl, k⟩
  · have : i = j := by
      rcases Nat.lt_trichotomy i j with q | q | q
      · rw [h4 i k1 q] at k3; cases k3
      · exact q
      · rw [k4 j h1 q] at h3; cases h3
    rw [this]
  · rw [k j h1 h2] at h3; cases h3
  · rw [h i k1 k2] at k3; cases k3
  · rfl
theorem DnIs.uniq {M x : Nat} {r s : Int × Int} (h : DnIs M x r) (k : DnIs M x s) : r = s := by
  rcases h with ⟨j, rfl, h1, h3, h4⟩ | ⟨rfl, h⟩ <;> rcases k with ⟨i, rfl, k1, k3, k4⟩ | ⟨rfl, k⟩
  · have : i = j := by
      rcases Nat.lt_trichotomy i j with q | q | q
      · rw [k4 j h1 q] at h3; cases h3
      · exact q
      · rw [h4 i k1 q] at k3; cases k3
    rw [this]
  · rw [k j h1] at h3; cases h3
  · rw [h i k1] at k3; cases k3
  · rfl
theorem NrIs.uniq {M x : Nat} {r s : Int × Int} (h : NrIs M x r) (k : NrIs M x s) : r = s := by
  rcases h with ⟨j, rfl, h1, h2, h3⟩ | ⟨rfl, h⟩ <;> rcases k with ⟨i, rfl, k1, k2, k3⟩ | ⟨rfl, k⟩
  · have a := h3 i k1 k2
    have b := k3 j h1 h2
    have : i = j := by omega
    rw [this]
  · rw [k j h1] at h2; cases h2
  · rw [h i k1] at k2; cases k2
  · rfl
theorem f28_eq {M : Nat} (hM : M < 18446744073709551616) (x : Int) : f28 1000 (M : Int) x = f20 (M : Int) x := by
  by_cases h : 0 ≤ x ∧ x < 64
  · obtain ⟨n, rfl⟩ := Int.eq_ofNat_of_zero_le h.1
    obtain ⟨r, e, hr⟩ := f20_eq hM (show n < 64 by omega)
    have e1 : IntKind.i64.wrap ((n : Int) + 1) = ((n + 1 : Nat) : Int) := by rw [w64 (by omega) (by omega)]; omega
    obtain ⟨s, e2, hs⟩ := f28_loop (x := n) hM (63 - n) 1000 (n + 1) (by omega) (by omega) (by omega) (fun j h1 h2 => by omega)
    unfold f28
    rw [if_neg (by omega), if_neg (by omega), e1, e, hr.uniq hs]
    exact e2
  · unfold f28 f20
    rw [f37_eq, decide_eq_false h]
    by_cases h1 : x < 0
    · rw [if_pos h1]; rfl
    · rw [if_neg h1, if_pos (by omega)]; rfl
theorem f29_eq {M : Nat} (hM : M < 18446744073709551616) (x : Int) : f29 1000 (M : Int) x = f21 (M : Int) x := by
  by_cases h : 0 ≤ x ∧ x < 64
  · obtain ⟨n, rfl⟩ := Int.eq_ofNat_of_zero_le h.1
    obtain ⟨r, e, hr⟩ := f21_eq hM (show n < 64 by omega)
    have e1 : IntKind.i64.wrap ((n : Int) - 1) = (n : Int) - 1 := w64 (by omega) (by omega)
    obtain ⟨s, e2, hs⟩ := f29_loop (x := n) hM (by omega) 1000 n (Nat.le_refl _) (by omega) (fun j h1 h2 => by omega)
    unfold f29
    rw [if_neg (by omega), if_neg (by omega), e1, e, hr.uniq hs]
    exact e2
  · unfold f29 f21
    rw [f37_eq, decide_eq_false h]
    by_cases h1 : x < 0
    · rw [if_pos h1]; rfl
    · rw [if_neg h1, if_pos (by omega)]; rfl
theorem f30_eq {M : Nat} (hM : M < 18446744073709551616) (x : Int) : f30 1000 (M : Int) x = f22 (M : Int) x := by
  by_cases h : 0 ≤ x ∧ x < 64
  · obtain ⟨n, rfl⟩ := Int.eq_ofNat_of_zero_le h.1
    obtain ⟨r, e, hr⟩ := f22_eq hM (show n < 64 by omega)
    obtain ⟨s, e2, hs⟩ := f30_loop (x := n) hM (by omega) 64 1000 0 (by omega) (by omega) (fun j h1 h2 => by omega)
    unfold f30
    rw [if_neg (by omega), if_neg (by omega), e, hr.uniq hs]
    exact e2
  · unfold f30 f22
    rw [f37_eq, decide_eq_false h]
    by_cases h1 : x < 0
    · rw [if_pos h1]; rfl
    · rw [if_neg h1, if_pos (by omega)]; rfl
theorem f20_some {M : Nat} (hM : M < 18446744073709551616) (x : Int) : ∃ r, f20 (M : Int) x = some r := by
  by_cases h : 0 ≤ x ∧ x < 64
  · obtain ⟨n, rfl⟩ := Int.eq_ofNat_of_zero_le h.1
    obtain ⟨r, e, _⟩ := f20_eq hM (show n < 64 by omega)
    exact ⟨r, e⟩
  · exact ⟨(0, 2), by unfold f20; rw [f37_eq, decide_eq_false h]; rfl⟩
theorem f21_some {M : Nat} (hM : M < 18446744073709551616) (x : Int) : ∃ r, f21 (M : Int) x = some r := by
  by_cases h : 0 ≤ x ∧ x < 64
  · obtain ⟨n, rfl⟩ := Int.eq_ofNat_of_zero_le h.1
    obtain ⟨r, e, _⟩ := f21_eq hM (show n < 64 by omega)
    exact ⟨r, e⟩
  · exact ⟨(0, 2), by unfold f21; rw [f37_eq, decide_eq_false h]; rfl⟩
theorem f22_some {M : Nat} (hM : M < 18446744073709551616) (x : Int) : ∃ r, f22 (M : Int) x = some r := by
  by_cases h : 0 ≤ x ∧ x < 64
  · obtain ⟨n, rfl⟩ := Int.eq_ofNat_of_zero_le h.1
    obtain ⟨r, e, _⟩ := f22_eq hM (show n < 64 by omega)
    exact ⟨r, e⟩
  · exact ⟨(0, 2), by unfold f22; rw [f37_eq, decide_eq_false h]; rfl⟩
theorem f9_eq {M : Nat} (hM : M < 18446744073709551616) (x : Int) : f9 1000 (M : Int) x = some true := by
  obtain ⟨⟨a1, a2⟩, ha⟩ := f20_some hM x
  obtain ⟨⟨b1, b2⟩, hb⟩ := f21_some hM x
  obtain ⟨⟨c1, c2⟩, hc⟩ := f22_some hM x
  unfold f9
  rw [f28_eq hM, f29_eq hM, f30_eq hM, ha, hb, hc, f26_eq hM, f31_eq hM, f27_eq hM, f34_eq hM]
  unfold f32
  rw [f35_eq hM]
  simp only [Option.bind_some, if_true, beq_self_eq_true]
  rw [f33_eq _ (ul M), if_pos (by rw [ints_len, upTo_len])]
  simp only [Option.bind_some, if_true, awake]
theorem pure9 : Pure9 := fun x0 x1 h0 _ => by
  obtain ⟨M, rfl, hM⟩ := okU h0
  exact ⟨1000, f9_eq hM x1⟩
/-! Walks -/
theorem upTo_mem {M j i : Nat} : i ∈ upTo M j ↔ i < j ∧ M.testBit i = true := by simp [upTo]
theorem upTo_sorted (M j : Nat) : (upTo M j).Pairwise (· < ·) := List.Pairwise.filter _ List.pairwise_lt_range
theorem sorted_lt {l : List Nat} (h : l.Pairwise (· < ·)) {i j a b : Nat} (hi : l[i]? = some a) (hj : l[j]? = some b) (hij : i < j) : a < b := by
  obtain ⟨h1, rfl⟩ := List.getElem?_eq_some_iff.1 hi
  obtain ⟨h2, rfl⟩ := List.getElem?_eq_some_iff.1 hj
  exact List.pairwise_iff_getElem.1 h i j h1 h2 hij
theorem f10_loop {M : Nat} (hM : M < 18446744073709551616) : ∀ (d n i : Nat), i + d = (upTo M 64).length → d < n → f10_l1 (M : Int) (ints (upTo M 64)) n (i : Int) = some (.inr ())
  | d, 0, i, hi, hd => by omega
  | 0, n + 1, i, hi, hd => by
    rw [f10_l1, if_neg (by rw [ints_len]; omega)]
  | d + 1, n + 1, i, hi, hd => by
    have ih := f10_loop hM d n (i + 1) (by omega) (by omega)
    have hl := ul M
    rw [ints_len] at hl
    have srt := upTo_sorted M 64
    generalize hL : upTo M 64 = L at *
    have hmem : ∀ a, a ∈ L ↔ a < 64 ∧ M.testBit a = true := fun a => by rw [← hL]; exact upTo_mem
    have e : IntKind.i64.wrap ((i : Int) + 1) = ((i + 1 : Nat) : Int) := by rw [w64 (by omega) (by omega)]; omega
    have hrd : ∀ (j : Nat) (a : Nat), L[j]? = some a → rd (ints L) (j : Int) = some (a : Int) := fun j a h => by
      rw [rd_nat, ints, List.getElem?_map, h]; rfl
    obtain ⟨a, ha⟩ : ∃ a, L[i]? = some a := ⟨L[i], List.getElem?_eq_getElem (by omega)⟩
    obtain ⟨ha1, ha2⟩ := (hmem a).1 (List.mem_of_getElem? ha)
    obtain ⟨⟨u1, u2⟩, eu, hu⟩ := f20_eq hM ha1
    obtain ⟨⟨v1, v2⟩, ev, hv⟩ := f21_eq hM ha1
    have hup : (∀ b, L[i + 1]? = some b → u1 = (b : Int) ∧ u2 = 0) ∧ (L.length ≤ i + 1 → u2 = 6) := by
      rcases hu with ⟨j, hj, h1, h2, h3, h4⟩ | ⟨hj, h⟩ <;> cases hj
      · obtain ⟨k, hk⟩ := List.getElem?_of_mem ((hmem j).2 ⟨h2, h3⟩)
        have hik : i < k := by
          rcases Nat.lt_trichotomy i k with q | q | q
          · exact q
          · subst q; rw [ha] at hk; cases hk; omega
          · have := sorted_lt srt hk ha q; omega
        refine ⟨fun b hb => ⟨?_, rfl⟩, fun q => by have := (List.getElem?_eq_some_iff.1 hk).1; omega⟩
        obtain ⟨hb1, hb2⟩ := (hmem b).1 (List.mem_of_getElem? hb)
        have hab := sorted_lt srt ha hb (by omega)
        have : b = j := by
          rcases Nat.lt_trichotomy b j with q | q | q
          · rw [h4 b hab q] at hb2; cases hb2
          · exact q
          · rcases Nat.lt_or_ge (i + 1) k with q2 | q2
            · have := sorted_lt srt hb hk q2; omega
            · have : k = i + 1 := by omega
              subst this; rw [hb] at hk; cases hk; rfl
        rw [this]
      · refine ⟨fun b hb => ?_, fun _ => rfl⟩
        obtain ⟨hb1, hb2⟩ := (hmem b).1 (List.mem_of_getElem? hb)
        have hab := sorted_lt srt ha hb (by omega)
        rw [h b hab hb1] at hb2; cases hb2
    have hdn : (∀ j b, i = j + 1 → L[j]? = some b → v1 = (b : Int) ∧ v2 = 0) ∧ (i = 0 → v2 = 6) := by
      rcases hv with ⟨j, hj, h1, h3, h4⟩ | ⟨hj, h⟩ <;> cases hj
      · obtain ⟨k, hk⟩ := List.getElem?_of_mem ((hmem j).2 ⟨by omega, h3⟩)
        have hik : k < i := by
          rcases Nat.lt_trichotomy i k with q | q | q
          · have := sorted_lt srt ha hk q; omega
          · subst q; rw [ha] at hk; cases hk; omega
          · exact q
        refine ⟨fun p b hp hb => ⟨?_, rfl⟩, fun q => by omega⟩
        obtain ⟨hb1, hb2⟩ := (hmem b).1 (List.mem_of_getElem? hb)
        have hab := sorted_lt srt hb ha (by omega)
        have : b = j := by
          rcases Nat.lt_trichotomy b j with q | q | q
          · rcases Nat.lt_or_ge k p with q2 | q2
            · have := sorted_lt srt hk hb q2; omega
            · have : k = p := by omega
              subst this; rw [hb] at hk; cases hk; rfl
          · exact q
          · rw [h4 b hab q] at hb2; cases hb2
        rw [this]
      · refine ⟨fun p b hp hb => ?_, fun _ => rfl⟩
        obtain ⟨hb1, hb2⟩ := (hmem b).1 (List.mem_of_getElem? hb)
        have hab := sorted_lt srt hb ha (by omega)
        rw [h b hab] at hb2; cases hb2
    have hlen : ((ints L).length : Int) = (L.length : Int) := by rw [ints_len]
    rw [f10_l1, hlen, if_pos (by omega), hrd i a ha]
    simp only [Option.bind_some]
    rw [eu]
    simp only [Option.bind_some]
    rw [ev]
    simp only [Option.bind_some]
    rw [f26_eq hM, hasI_nat ha1, ha2, e]
    simp only [Option.bind_some, if_true]
    have tail : ∀ Z : Option (Bool ⊕ Unit), Z = some (.inr ()) → (Z.bind fun s => match s with
        | .inl st => some (Sum.inl st)
        | .inr _ => f10_l1 (M : Int) (ints L) n ((i + 1 : Nat) : Int)) = some (.inr ()) := fun Z hZ => by rw [hZ]; exact ih
    refine tail _ ?_
    -- below
    have low : ∀ Y : Option (Bool ⊕ Unit), Y = (if (i : Int) > 0 then (rd (ints L) (IntKind.i64.wrap ((i : Int) - 1))).bind fun t87 => (f23 v1 v2 t87).bind fun t89 => if t89 then (if (i : Int) = 0 then (if v2 = 6 then some (Sum.inr ()) else some (Sum.inl false)) else some (Sum.inr ())) else some (Sum.inl false) else if (i : Int) = 0 then (if v2 = 6 then some (Sum.inr ()) else some (Sum.inl false)) else some (Sum.inr ())) → Y = some (.inr ()) := by
      intro Y hY
      rw [hY]
      by_cases q : i = 0
      · rw [if_neg (by omega), if_pos (by omega), if_pos (hdn.2 q)]
      · obtain ⟨p, rfl⟩ : ∃ p, i = p + 1 := ⟨i - 1, by omega⟩
        obtain ⟨b, hb⟩ : ∃ b, L[p]? = some b := ⟨L[p], List.getElem?_eq_getElem (by omega)⟩
        obtain ⟨w1, w2⟩ := hdn.1 p b rfl hb
        have e2 : IntKind.i64.wrap (((p + 1 : Nat) : Int) - 1) = (p : Int) := by rw [w64 (by omega) (by omega)]; omega
        rw [if_pos (by omega), e2, hrd p b hb]
        simp only [Option.bind_some]
        unfold f23
        rw [w1, w2, if_pos rfl]
        simp only [Option.bind_some, beq_self_eq_true, if_true]
        rw [if_neg (by omega)]
    by_cases q : i + 1 < L.length
    · obtain ⟨b, hb⟩ : ∃ b, L[i + 1]? = some b := ⟨L[i + 1], List.getElem?_eq_getElem q⟩
      obtain ⟨w1, w2⟩ := hup.1 b hb
      rw [if_pos (by omega), hrd (i + 1) b hb]
      simp only [Option.bind_some]
      have e23 : f23 u1 u2 (b : Int) = some true := by unfold f23; rw [w1, w2]; simp
      rw [e23]
      simp only [Option.bind_some, if_true]
      rw [if_neg (by omega)]
      exact low _ rfl
    · rw [if_neg (by omega), if_pos (by omega), if_pos (hup.2 (by omega))]
      exact low _ rfl
theorem f10_eq {M : Nat} (hM : M < 18446744073709551616) : f10 1000 (M : Int) = some true := by
  unfold f10
  rw [known5, f34_eq hM, f27_eq hM]
  simp only [Option.bind_some]
  have hl := ul M
  rw [ints_len] at hl
  rw [if_pos (by rw [ints_len, upTo_len])]
  have h := f10_loop hM (upTo M 64).length 1000 0 (by omega) (by omega)
  have h : f10_l1 (M : Int) (ints (upTo M 64)) 1000 0 = some (.inr ()) := h
  rw [h]
  simp only [Option.bind_some, if_true]
  have h26 : f26 (M : Int) 0 = some (M.testBit 0) := by rw [f26_eq hM]; exact congrArg some (hasI_nat (i := 0) (by decide))
  rw [h26]
  simp only [Option.bind_some]
  have srt := upTo_sorted M 64
  generalize hL : upTo M 64 = L at *
  have hmem : ∀ a, a ∈ L ↔ a < 64 ∧ M.testBit a = true := fun a => by rw [← hL]; exact upTo_mem
  cases L with
  | nil =>
    rw [if_neg (by simp [ints])]
    have : M.testBit 0 = false := by
      cases hb : M.testBit 0 with
      | false => rfl
      | true => have := (hmem 0).2 ⟨by decide, hb⟩; cases this
    rw [this]; rfl
  | cons a L =>
    rw [if_pos (by simp [ints])]
    have hr : rd (ints (a :: L)) 0 = some (a : Int) := rfl
    rw [hr]
    simp only [Option.bind_some]
    congr 1
    have : M.testBit 0 = ((a : Int) == 0) := by
      by_cases q : a = 0
      · subst q
        have := ((hmem 0).1 (List.mem_cons_self ..)).2
        rw [this]; rfl
      · have h0 : M.testBit 0 = false := by
          cases hb : M.testBit 0 with
          | false => rfl
          | true =>
            have := (hmem 0).2 ⟨by decide, hb⟩
            rcases List.mem_cons.1 this with w | w
            · omega
            · have := (List.pairwise_cons.1 srt).1 0 w; omega
        rw [h0]; symm; simp; omega
    rw [this]; simp
theorem pure10 : Pure10 := fun x0 h0 => by
  obtain ⟨M, rfl, hM⟩ := okU h0
  exact ⟨1000, f10_eq hM⟩
end Go.Proofs.YtcephcgnfmcdhaaDoor
