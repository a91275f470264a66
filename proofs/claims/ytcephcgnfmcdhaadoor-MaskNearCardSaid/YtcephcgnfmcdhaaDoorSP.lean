import Derived.Test.YtcephcgnfmcdhaaDoorSL
import Derived.Laws.BitsAllLaws
set_option linter.unusedVariables false
set_option linter.unusedSimpArgs false
namespace Go.Proofs.YtcephcgnfmcdhaaDoor
open Go Go.Det Go.RowKit
/-! Numbers of 64 bits -/
theorem w64 {x : Int} (h1 : -9223372036854775808 ≤ x) (h2 : x ≤ 9223372036854775807) : IntKind.i64.wrap x = x := by rw [IntKind.wrap_i64]; omega
theorem wu64 {n : Nat} (h : n < 18446744073709551616) : IntKind.u64.wrap (n : Int) = (n : Int) := by rw [IntKind.wrap_u64]; omega
theorem pow64 {n : Nat} (h : n < 64) : 2 ^ n < 18446744073709551616 := by
  have := Nat.pow_lt_pow_right (a := 2) (by decide) h
  exact this
theorem pow64' {n : Nat} (h : n ≤ 64) : 2 ^ n ≤ 18446744073709551616 := by
  have := Nat.pow_le_pow_right (n := 2) (by decide) h
  exact this
theorem shl1 {n : Nat} (h : n < 64) : gshl .u64 1 (n : Int) = ((2 ^ n : Nat) : Int) := by
  unfold gshl
  have : min ((n : Int).toNat) IntKind.u64.bits = n := by simp [IntKind.bits]; omega
  rw [this, Int.one_mul, show ((2 : Int) ^ n) = ((2 ^ n : Nat) : Int) from by simp, wu64 (pow64 h)]
theorem okU {x : Int} (h : okI .u64 x) : ∃ M : Nat, x = (M : Int) ∧ M < 18446744073709551616 := by
  simp [okI, Lit.wf, IntKind.min, IntKind.max, IntKind.signed, IntKind.bits] at h
  exact ⟨x.toNat, by omega, by omega⟩
theorem testBit_big {M i : Nat} (h : M < 18446744073709551616) (hi : 64 ≤ i) : M.testBit i = false :=
  Nat.testBit_lt_two_pow (Nat.lt_of_lt_of_le h (by have := Nat.pow_le_pow_right (n := 2) (by decide) hi; exact this))
theorem ext64 {A B : Nat} (ha : A < 18446744073709551616) (hb : B < 18446744073709551616) (h : ∀ i, i < 64 → A.testBit i = B.testBit i) : A = B := by
  apply Nat.eq_of_testBit_eq
  intro i
  by_cases hi : i < 64
  · exact h i hi
  · rw [testBit_big ha (by omega), testBit_big hb (by omega)]
theorem testBit_not {x i : Nat} (hx : x < 18446744073709551616) (hi : i < 64) : (18446744073709551615 - x).testBit i = !x.testBit i := by
  have := Nat.testBit_two_pow_sub_succ (n := 64) (x := x) hx i
  rw [show 2 ^ 64 - (x + 1) = 18446744073709551615 - x from by omega] at this
  rw [this]; simp [hi]

theorem f37_eq (x : Int) : f37 x = some (decide (0 ≤ x ∧ x < 64)) := by
  unfold f37
  by_cases h : 0 ≤ x
  · rw [if_pos h]; simp [h]
  · rw [if_neg h]; simp [h]
theorem f39_eq {n : Nat} (h : n ≤ 64) : f39 (n : Int) = some ((2 ^ n - 1 : Nat) : Int) := by
  unfold f39
  by_cases h1 : n = 64
  · subst h1; rfl
  · rw [if_neg (by omega), wu64 (by omega), shl1 (by omega)]
    have := pow64 (n := n) (by omega)
    have hp : 0 < 2 ^ n := Nat.pow_pos (by decide)
    rw [show ((2 ^ n : Nat) : Int) - 1 = ((2 ^ n - 1 : Nat) : Int) from by omega, wu64 (by omega)]
theorem hasAnd {M n : Nat} (hM : M < 18446744073709551616) (hn : n < 64) : (bits .and .u64 (M : Int) ((2 ^ n : Nat) : Int) != 0) = M.testBit n := by
  have : 0 < 2 ^ n := Nat.pow_pos (by decide)
  rw [u64_and_nat M _ hM (pow64 hn), nat_bit, Nat.testBit_eq_decide_div_mod_eq]
  rcases Nat.mod_two_eq_zero_or_one (M / 2 ^ n) with h | h
  · simp [h]
  · rw [h, Nat.one_mul]
    generalize 2 ^ n = p at this ⊢
    simp; omega
def hasI (M : Nat) (x : Int) : Bool := decide (0 ≤ x ∧ x < 64) && M.testBit x.toNat
theorem f26_eq {M : Nat} (hM : M < 18446744073709551616) (x : Int) : f26 (M : Int) x = some (hasI M x) := by
  unfold f26 hasI
  rw [f37_eq]
  by_cases h : 0 ≤ x ∧ x < 64
  · obtain ⟨n, rfl⟩ := Int.eq_ofNat_of_zero_le h.1
    simp only [Option.bind_some, decide_eq_true h, if_true, Bool.true_and]
    rw [wu64 (by omega), shl1 (by omega), hasAnd hM (by omega)]; rfl
  · simp [h]
theorem f31_eq {M : Nat} (hM : M < 18446744073709551616) (x : Int) : f31 (M : Int) x = some (hasI M x) := by
  unfold f31 hasI
  by_cases h : 0 ≤ x
  · rw [if_pos h]
    by_cases h2 : x < 64
    · rw [if_pos h2]
      obtain ⟨n, rfl⟩ := Int.eq_ofNat_of_zero_le h
      have hb : min ((n : Int).toNat) IntKind.u64.bits = n := by simp [IntKind.bits]; omega
      have hr : gshr .u64 (M : Int) (n : Int) = ((M / 2 ^ n : Nat) : Int) := by
        unfold gshr
        rw [hb, show ((2 : Int) ^ n) = ((2 ^ n : Nat) : Int) from by simp, Int.fdiv_eq_ediv_of_nonneg _ (Int.natCast_nonneg _)]; rfl
      have hlt : M / 2 ^ n < 18446744073709551616 := Nat.lt_of_le_of_lt (Nat.div_le_self _ _) hM
      have h1 : bits .and .u64 ((M / 2 ^ n : Nat) : Int) 1 = ((M / 2 ^ n &&& 1 : Nat) : Int) := u64_and_nat _ 1 hlt (by decide)
      rw [wu64 (by omega), hr, h1, Nat.and_one_is_mod]
      clear h1 hr
      simp only [Option.bind_some, Int.toNat_natCast, Nat.testBit_eq_decide_div_mod_eq, decide_eq_true (show 0 ≤ (n : Int) ∧ (n : Int) < 64 from ⟨h, h2⟩), Bool.true_and]
      congr 1
      rw [Bool.eq_iff_iff, beq_iff_eq, decide_eq_true_iff]; omega
    · rw [if_neg h2]; simp [h2]
  · rw [if_neg h]; simp [h]

/-! Ranges put in and out -/
def putN (M a b : Nat) (v : Bool) : Nat := if v then M ||| ((2 ^ (b + 1) - 1) &&& (18446744073709551615 - (2 ^ a - 1))) else M &&& (18446744073709551615 - ((2 ^ (b + 1) - 1) &&& (18446744073709551615 - (2 ^ a - 1))))
theorem rng_lt {a b : Nat} (hb : b < 64) : (2 ^ (b + 1) - 1) &&& (18446744073709551615 - (2 ^ a - 1)) < 18446744073709551616 := by
  have := pow64' (n := b + 1) (by omega)
  have hp : 0 < 2 ^ (b + 1) := Nat.pow_pos (by decide)
  exact Nat.lt_of_le_of_lt Nat.and_le_left (by omega)
theorem rng_bit {a b i : Nat} (ha : a < 64) (hb : b < 64) (hi : i < 64) : ((2 ^ (b + 1) - 1) &&& (18446744073709551615 - (2 ^ a - 1))).testBit i = decide (a ≤ i ∧ i ≤ b) := by
  have := pow64 ha
  have hp : 0 < 2 ^ a := Nat.pow_pos (by decide)
  rw [Nat.testBit_and, testBit_not (by omega) hi, Nat.testBit_two_pow_sub_one, Nat.testBit_two_pow_sub_one]
  rw [Bool.eq_iff_iff]; simp; omega
theorem putN_lt {M a b : Nat} {v : Bool} (hM : M < 18446744073709551616) (hb : b < 64) : putN M a b v < 18446744073709551616 := by
  unfold putN
  split
  · exact Nat.or_lt_two_pow (n := 64) hM (rng_lt hb)
  · exact Nat.lt_of_le_of_lt Nat.and_le_left hM
theorem putN_bit {M a b i : Nat} {v : Bool} (ha : a < 64) (hb : b < 64) (hi : i < 64) : (putN M a b v).testBit i = if a ≤ i ∧ i ≤ b then v else M.testBit i := by
  unfold putN
  by_cases h : a ≤ i ∧ i ≤ b
  · rw [if_pos h]
    cases v
    · simp only [Bool.false_eq_true, if_false]
      rw [Nat.testBit_and, testBit_not (rng_lt hb) hi, rng_bit ha hb hi]; simp [h]
    · simp only [if_true]
      rw [Nat.testBit_or, rng_bit ha hb hi]; simp [h]
  · rw [if_neg h]
    cases v
    · simp only [Bool.false_eq_true, if_false]
      rw [Nat.testBit_and, testBit_not (rng_lt hb) hi, rng_bit ha hb hi]; simp [h]
    · simp only [if_true]
      rw [Nat.testBit_or, rng_bit ha hb hi]; simp [h]
theorem f16_eq {M a b : Nat} (hM : M < 18446744073709551616) (hab : a ≤ b) (hb : b < 64) (v : Bool) : f16 (M : Int) (a : Int) (b : Int) v = some (((putN M a b v : Nat) : Int), 0) := by
  unfold f16
  have h1 := pow64' (n := b + 1) (by omega)
  have h2 := pow64 (n := a) (by omega)
  have hp : 0 < 2 ^ (b + 1) := Nat.pow_pos (by decide)
  have hq : 0 < 2 ^ a := Nat.pow_pos (by decide)
  have e : IntKind.i64.wrap ((b : Int) + 1) = ((b + 1 : Nat) : Int) := by rw [w64 (by omega) (by omega)]; omega
  rw [f37_eq, f37_eq, decide_eq_true (by omega), decide_eq_true (by omega)]
  simp only [Option.bind_some, if_true]
  rw [if_neg (by omega), e, f39_eq (by omega), f39_eq (by omega)]
  simp only [Option.bind_some]
  have r := u64_andNot_nat (2 ^ (b + 1) - 1) (2 ^ a - 1) (by omega) (by omega)
  rw [r]
  have hl := rng_lt (a := a) hb
  rw [u64_or_nat M _ hM hl, u64_andNot_nat M _ hM hl]
  unfold putN
  cases v <;> rfl
theorem f16_no {M : Nat} {a b : Int} (h : ¬ (0 ≤ a ∧ a ≤ b ∧ b < 64)) (v : Bool) : f16 (M : Int) a b v = some (0, 2) := by
  unfold f16
  rw [f37_eq, f37_eq]
  by_cases h1 : 0 ≤ a ∧ a < 64
  · by_cases h2 : 0 ≤ b ∧ b < 64
    · rw [decide_eq_true h1, decide_eq_true h2]
      simp only [Option.bind_some, if_true]
      rw [if_pos (by omega)]
    · rw [decide_eq_true h1, decide_eq_false h2]; rfl
  · rw [decide_eq_false h1]; rfl
theorem f17_loop (b : Nat) (hb : b < 64) (v : Bool) : ∀ (d n x M : Nat), x + d = b + 1 → d < n → M < 18446744073709551616 → ∃ R : Nat, f17_l1 (b : Int) v n (M : Int) (x : Int) = some (R : Int) ∧ R < 18446744073709551616 ∧ ∀ i, i < 64 → R.testBit i = if x ≤ i ∧ i ≤ b then v else M.testBit i
  | d, 0, x, M, hx, hd, hM => by omega
  | 0, n + 1, x, M, hx, hd, hM => by
    refine ⟨M, ?_, hM, fun i hi => by rw [if_neg (by omega)]⟩
    rw [f17_l1, if_neg (by omega)]
  | d + 1, n + 1, x, M, hx, hd, hM => by
    have hp := pow64 (n := x) (by omega)
    have e : IntKind.i64.wrap ((x : Int) + 1) = ((x + 1 : Nat) : Int) := by rw [w64 (by omega) (by omega)]; omega
    have hA : M &&& (18446744073709551615 - 2 ^ x) < 18446744073709551616 := Nat.lt_of_le_of_lt Nat.and_le_left hM
    have hA2 : M &&& (18446744073709551615 - 2 ^ x) ||| 2 ^ x < 18446744073709551616 := Nat.or_lt_two_pow (n := 64) hA hp
    have key : ∀ i, i < 64 → (M &&& (18446744073709551615 - 2 ^ x)).testBit i = (M.testBit i && !decide (x = i)) := by
      intro i hi
      rw [Nat.testBit_and, testBit_not hp hi, Nat.testBit_two_pow]
    cases v
    · obtain ⟨R, h1, h2, h3⟩ := f17_loop b hb false d n (x + 1) (M &&& (18446744073709551615 - 2 ^ x)) (by omega) (by omega) hA
      refine ⟨R, ?_, h2, fun i hi => ?_⟩
      · rw [f17_l1, if_pos (by omega), wu64 (by omega), shl1 (by omega), u64_andNot_nat M _ hM hp, e]
        simpa using h1
      · rw [h3 i hi, key i hi]
        by_cases q : x = i
        · subst q; rw [if_neg (by omega), if_pos (by omega)]; simp
        · by_cases q2 : x + 1 ≤ i ∧ i ≤ b
          · rw [if_pos q2, if_pos (by omega)]
          · rw [if_neg q2, if_neg (by omega)]; simp [q]
    · obtain ⟨R, h1, h2, h3⟩ := f17_loop b hb true d n (x + 1) (M &&& (18446744073709551615 - 2 ^ x) ||| 2 ^ x) (by omega) (by omega) hA2
      refine ⟨R, ?_, h2, fun i hi => ?_⟩
      · rw [f17_l1, if_pos (by omega), wu64 (by omega), shl1 (by omega), u64_andNot_nat M _ hM hp, u64_or_nat _ _ hA hp, e]
        simpa using h1
      · rw [h3 i hi, Nat.testBit_or, key i hi, Nat.testBit_two_pow]
        by_cases q : x = i
        · subst q; rw [if_neg (by omega), if_pos (by omega)]; simp
        · by_cases q2 : x + 1 ≤ i ∧ i ≤ b
          · rw [if_pos q2, if_pos (by omega)]
          · rw [if_neg q2, if_neg (by omega)]; simp [q]
theorem f17_eq {k : Nat} (hk : 65 < k) {M : Nat} (hM : M < 18446744073709551616) (a b : Int) (v : Bool) : f17 k (M : Int) a b v = f16 (M : Int) a b v := by
  by_cases h : 0 ≤ a ∧ a ≤ b ∧ b < 64
  · obtain ⟨A, rfl⟩ := Int.eq_ofNat_of_zero_le h.1
    obtain ⟨B, rfl⟩ := Int.eq_ofNat_of_zero_le (show 0 ≤ b by omega)
    rw [f16_eq hM (by omega) (by omega)]
    obtain ⟨R, h1, h2, h3⟩ := f17_loop B (by omega) v (B + 1 - A) k A M (by omega) (by omega) hM
    unfold f17
    rw [if_neg (by omega), if_neg (by omega), if_neg (by omega)]
    have : R = putN M A B v := ext64 h2 (putN_lt hM (by omega)) fun i hi => by rw [h3 i hi, putN_bit (by omega) (by omega) hi]
    subst this
    have h1' : f17_l1 (B : Int) v k (M : Int) (A : Int) = some ((putN M A B v : Nat) : Int) := h1
    rw [h1']; rfl
  · rw [f16_no h]
    unfold f17
    by_cases h1 : a < 0
    · rw [if_pos h1]
    · rw [if_neg h1]
      by_cases h2 : a > b
      · rw [if_pos h2]
      · rw [if_neg h2, if_pos (by omega)]
theorem f19_loop (b : Nat) (hb : b ≤ 64) : ∀ (d n x M : Nat), x + d = b → d < n → M < 18446744073709551616 → ∃ R : Nat, f19_l1 (b : Int) n (M : Int) (x : Int) = some (R : Int) ∧ R < 18446744073709551616 ∧ ∀ i, i < 64 → R.testBit i = (M.testBit i || decide (x ≤ i ∧ i < b))
  | d, 0, x, M, hx, hd, hM => by omega
  | 0, n + 1, x, M, hx, hd, hM => by
    refine ⟨M, ?_, hM, fun i hi => by rw [decide_eq_false (by omega)]; simp⟩
    rw [f19_l1, if_neg (by omega)]
  | d + 1, n + 1, x, M, hx, hd, hM => by
    have hp := pow64 (n := x) (by omega)
    have e : IntKind.i64.wrap ((x : Int) + 1) = ((x + 1 : Nat) : Int) := by rw [w64 (by omega) (by omega)]; omega
    have hA2 : M ||| 2 ^ x < 18446744073709551616 := Nat.or_lt_two_pow (n := 64) hM hp
    obtain ⟨R, h1, h2, h3⟩ := f19_loop b hb d n (x + 1) (M ||| 2 ^ x) (by omega) (by omega) hA2
    refine ⟨R, ?_, h2, fun i hi => ?_⟩
    · rw [f19_l1, if_pos (by omega), wu64 (by omega), shl1 (by omega), u64_or_nat _ _ hM hp, e]
      exact h1
    · rw [h3 i hi, Nat.testBit_or, Nat.testBit_two_pow]
      clear e h1 h3
      cases M.testBit i
      · rw [Bool.eq_iff_iff]; simp; omega
      · simp
theorem f18_eq {n : Nat} (h : n ≤ 64) : f18 (n : Int) = some (((2 ^ n - 1 : Nat) : Int), 0) := by
  unfold f18
  rw [if_neg (by omega), if_neg (by omega), f39_eq h]; rfl
theorem f19_eq {k : Nat} (hk : 65 < k) (x : Int) : f19 k x = f18 x := by
  by_cases h : 0 ≤ x ∧ x ≤ 64
  · obtain ⟨n, rfl⟩ := Int.eq_ofNat_of_zero_le h.1
    obtain ⟨R, h1, h2, h3⟩ := f19_loop n (by omega) n k 0 0 (by omega) (by omega) (by decide)
    have hp := pow64' (n := n) (by omega)
    have hq : 0 < 2 ^ n := Nat.pow_pos (by decide)
    have : R = 2 ^ n - 1 := ext64 h2 (by omega) fun i hi => by rw [h3 i hi, Nat.testBit_two_pow_sub_one]; simp
    rw [f18_eq (by omega)]
    unfold f19
    rw [if_neg (by omega), if_neg (by omega)]
    have h1' : f19_l1 (n : Int) k 0 0 = some (R : Int) := h1
    rw [h1', this]; rfl
  · unfold f19 f18
    by_cases h1 : x < 0
    · rw [if_pos h1, if_pos h1]
    · rw [if_neg h1, if_neg h1, if_pos (by omega), if_pos (by omega)]
theorem f18_some (x : Int) : ∃ r, f18 x = some r := by
  unfold f18
  by_cases h1 : x < 0
  · exact ⟨_, by rw [if_pos h1]⟩
  · by_cases h2 : x > 64
    · exact ⟨_, by rw [if_neg h1, if_pos h2]⟩
    · obtain ⟨n, rfl⟩ := Int.eq_ofNat_of_zero_le (show 0 ≤ x by omega)
      exact ⟨_, by rw [if_neg h1, if_neg h2, f39_eq (by omega)]; rfl⟩
theorem f16_some {M : Nat} (hM : M < 18446744073709551616) (a b : Int) (v : Bool) : ∃ r, f16 (M : Int) a b v = some r := by
  by_cases h : 0 ≤ a ∧ a ≤ b ∧ b < 64
  · obtain ⟨A, rfl⟩ := Int.eq_ofNat_of_zero_le h.1
    obtain ⟨B, rfl⟩ := Int.eq_ofNat_of_zero_le (show 0 ≤ b by omega)
    exact ⟨_, f16_eq hM (by omega) (by omega) v⟩
  · exact ⟨_, f16_no h v⟩
theorem awake : f11 1000 = some true := by kernel_rfl
theorem known5 : f5 1000 = some true := by kernel_rfl
theorem f4_eq (M : Nat) (hM : M < 18446744073709551616) (a b : Int) (v : Bool) : f4 1000 (M : Int) a b v = some true := by
  obtain ⟨⟨r1, r2⟩, hr⟩ := f16_some hM a b v
  obtain ⟨⟨q1, q2⟩, hq⟩ := f18_some b
  unfold f4
  rw [f17_eq (by decide) hM, f19_eq (by decide), hr, hq]
  simp only [Option.bind_some, if_true, awake]
theorem pure4 : Pure4 := fun x0 x1 x2 x3 h0 _ _ _ => by
  obtain ⟨M, rfl, hM⟩ := okU h0
  exact ⟨1000, f4_eq M hM x1 x2 x3⟩
theorem pure5 : Pure5 := fun _ => ⟨1000, known5⟩
end Go.Proofs.YtcephcgnfmcdhaaDoor
