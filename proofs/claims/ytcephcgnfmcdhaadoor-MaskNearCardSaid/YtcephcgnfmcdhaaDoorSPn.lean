import Derived.Test.YtcephcgnfmcdhaaDoorSPb
import Derived.Lib.BitFns
set_option linter.unusedVariables false
set_option linter.unusedSimpArgs false
namespace Go.Proofs.YtcephcgnfmcdhaaDoor
open Go Go.Det Go.RowKit
/-! The next and the nearest floors -/
theorem ctz_spec {x : Nat} (h0 : x ≠ 0) (hx : x < 18446744073709551616) : Lib.ctz 64 x < 64 ∧ x.testBit (Lib.ctz 64 x) = true ∧ ∀ j, j < Lib.ctz 64 x → x.testBit j = false := by
  have he : Lib.ctz 64 x = Lib.ctzFrom 64 x := by unfold Lib.ctz; rw [if_neg h0]
  rw [he]
  obtain ⟨m, h1, h2⟩ := Lib.ctzFrom_spec 64 x (by omega) hx
  generalize Lib.ctzFrom 64 x = c at h1 h2
  subst h1
  refine ⟨h2, ?_, fun j hj => ?_⟩
  · rw [Nat.testBit_eq_decide_div_mod_eq, Nat.mul_div_cancel_left _ (Nat.pow_pos (by decide))]
    simp
  · rw [Nat.testBit_eq_decide_div_mod_eq]
    have : 2 ^ c * (2 * m + 1) / 2 ^ j = 2 * (2 ^ (c - j - 1) * (2 * m + 1)) := by
      have e : 2 ^ c = 2 ^ j * (2 * 2 ^ (c - j - 1)) := by
        rw [← Nat.pow_succ', ← Nat.pow_add]; congr 1; omega
      rw [e, Nat.mul_assoc, Nat.mul_div_cancel_left _ (Nat.pow_pos (by decide)), Nat.mul_assoc]
    rw [this]; simp
theorem bitLen_spec : ∀ (f x : Nat), x ≤ f → x ≠ 0 → x < 18446744073709551616 → ∃ k, Lib.bitLen x = k + 1 ∧ x.testBit k = true ∧ ∀ j, k < j → x.testBit j = false
  | 0, x, hf, h0, _ => by omega
  | f + 1, x, hf, h0, hx => by
    rw [Lib.bitLen_half x h0 hx]
    by_cases h1 : x = 1
    · subst h1
      refine ⟨0, by decide, by decide, fun j hj => ?_⟩
      rw [Nat.testBit_eq_decide_div_mod_eq, Nat.div_eq_of_lt (Nat.one_lt_two_pow (by omega))]; simp
    · obtain ⟨k, h2, h3, h4⟩ := bitLen_spec f (x / 2) (by omega) (by omega) (by omega)
      refine ⟨k + 1, by omega, by rw [Nat.testBit_succ]; exact h3, fun j hj => ?_⟩
      obtain ⟨i, rfl⟩ : ∃ i, j = i + 1 := ⟨j - 1, by omega⟩
      rw [Nat.testBit_succ]; exact h4 i (by omega)
theorem bitLen_spec' {x : Nat} (h0 : x ≠ 0) (hx : x < 18446744073709551616) : ∃ k, Lib.bitLen x = k + 1 ∧ k < 64 ∧ x.testBit k = true ∧ ∀ j, k < j → x.testBit j = false := by
  obtain ⟨k, h1, h2, h3⟩ := bitLen_spec x x (Nat.le_refl _) h0 hx
  refine ⟨k, h1, ?_, h2, h3⟩
  rcases Nat.lt_or_ge k 64 with h | h
  · exact h
  · rw [testBit_big hx h] at h2; cases h2
/-- The next floor above. -/
def UpIs (M x : Nat) (r : Int × Int) : Prop := (∃ j : Nat, r = ((j : Int), 0) ∧ x < j ∧ j < 64 ∧ M.testBit j = true ∧ ∀ i, x < i → i < j → M.testBit i = false) ∨ (r = (0, 6) ∧ ∀ i, x < i → i < 64 → M.testBit i = false)
def DnIs (M x : Nat) (r : Int × Int) : Prop := (∃ j : Nat, r = ((j : Int), 0) ∧ j < x ∧ M.testBit j = true ∧ ∀ i, i < x → j < i → M.testBit i = false) ∨ (r = (0, 6) ∧ ∀ i, i < x → M.testBit i = false)
theorem f20_eq {M x : Nat} (hM : M < 18446744073709551616) (hx : x < 64) : ∃ r, f20 (M : Int) (x : Int) = some r ∧ UpIs M x r := by
  unfold f20
  have h1 := pow64' (n := x + 1) (by omega)
  have hp : 0 < 2 ^ (x + 1) := Nat.pow_pos (by decide)
  have e : IntKind.i64.wrap ((x : Int) + 1) = ((x + 1 : Nat) : Int) := by rw [w64 (by omega) (by omega)]; omega
  rw [f37_eq, decide_eq_true (by omega)]
  simp only [Option.bind_some, if_true]
  rw [e, f39_eq (by omega)]
  simp only [Option.bind_some]
  rw [u64_andNot_nat M _ hM (by omega)]
  have hlt : M &&& (18446744073709551615 - (2 ^ (x + 1) - 1)) < 18446744073709551616 := Nat.lt_of_le_of_lt Nat.and_le_left hM
  have hb : ∀ i, i < 64 → (M &&& (18446744073709551615 - (2 ^ (x + 1) - 1))).testBit i = (M.testBit i && decide (x < i)) := by
    intro i hi
    rw [Nat.testBit_and, testBit_not (by omega) hi, Nat.testBit_two_pow_sub_one]
    congr 1
    rw [Bool.eq_iff_iff]; simp; omega
  generalize M &&& (18446744073709551615 - (2 ^ (x + 1) - 1)) = y at hlt hb
  by_cases h0 : y = 0
  · subst h0
    rw [if_pos (show ((0 : Nat) : Int) = 0 from rfl)]
    refine ⟨_, rfl, .inr ⟨rfl, fun i hi h64 => ?_⟩⟩
    have := hb i h64
    rw [Nat.zero_testBit] at this
    simpa [hi] using this.symm
  · rw [if_neg (by omega)]
    obtain ⟨c1, c2, c3⟩ := ctz_spec h0 hlt
    unfold f41
    rw [if_pos ⟨by omega, by omega⟩]
    simp only [Option.bind_some, Int.toNat_natCast]
    generalize Lib.ctz 64 y = c at c1 c2 c3
    rw [hb c c1] at c2
    simp only [Bool.and_eq_true, decide_eq_true_eq] at c2
    refine ⟨_, rfl, .inl ⟨c, rfl, c2.2, c1, c2.1, fun i hi hc => ?_⟩⟩
    have := c3 i hc
    rw [hb i (by omega)] at this
    simpa [hi] using this
theorem f21_eq {M x : Nat} (hM : M < 18446744073709551616) (hx : x < 64) : ∃ r, f21 (M : Int) (x : Int) = some r ∧ DnIs M x r := by
  unfold f21
  have h1 := pow64 (n := x) hx
  have hp : 0 < 2 ^ x := Nat.pow_pos (by decide)
  rw [f37_eq, decide_eq_true (by omega)]
  simp only [Option.bind_some, if_true]
  rw [f39_eq (by omega)]
  simp only [Option.bind_some]
  rw [u64_and_nat M _ hM (by omega)]
  have hlt : M &&& (2 ^ x - 1) < 18446744073709551616 := Nat.lt_of_le_of_lt Nat.and_le_left hM
  have hb : ∀ i, (M &&& (2 ^ x - 1)).testBit i = (M.testBit i && decide (i < x)) := by
    intro i
    rw [Nat.testBit_and, Nat.testBit_two_pow_sub_one]
  generalize M &&& (2 ^ x - 1) = y at hlt hb
  by_cases h0 : y = 0
  · subst h0
    rw [if_pos (show ((0 : Nat) : Int) = 0 from rfl)]
    refine ⟨_, rfl, .inr ⟨rfl, fun i hi => ?_⟩⟩
    have := hb i
    rw [Nat.zero_testBit] at this
    simpa [hi] using this.symm
  · rw [if_neg (by omega)]
    obtain ⟨c, c0, c1, c2, c3⟩ := bitLen_spec' h0 hlt
    unfold f45
    rw [if_pos ⟨by omega, by omega⟩]
    simp only [Option.bind_some, Int.toNat_natCast, c0]
    rw [w64 (by omega) (by omega)]
    rw [hb c] at c2
    simp only [Bool.and_eq_true, decide_eq_true_eq] at c2
    refine ⟨_, rfl, .inl ⟨c, by simp, c2.2, c2.1, fun i hi hc => ?_⟩⟩
    have := c3 i hc
    rw [hb i] at this
    simpa [hi] using this
def distN (a b : Nat) : Nat := max a b - min a b
/-- The nearest floor. -/
def NrIs (M x : Nat) (r : Int × Int) : Prop := (∃ j : Nat, r = ((j : Int), 0) ∧ j < 64 ∧ M.testBit j = true ∧ ∀ i, i < 64 → M.testBit i = true → distN j x < distN i x ∨ (distN j x = distN i x ∧ j ≤ i)) ∨ (r = (0, 6) ∧ ∀ i, i < 64 → M.testBit i = false)
theorem f22_eq {M x : Nat} (hM : M < 18446744073709551616) (hx : x < 64) : ∃ r, f22 (M : Int) (x : Int) = some r ∧ NrIs M x r := by
  unfold f22
  rw [f37_eq, decide_eq_true (by omega), f26_eq hM, hasI_nat hx]
  simp only [Option.bind_some, if_true]
  by_cases hh : M.testBit x = true
  · rw [hh]
    simp only [if_true]
    refine ⟨_, rfl, .inl ⟨x, rfl, hx, hh, fun i hi hb => ?_⟩⟩
    unfold distN
    by_cases q : i = x
    · subst q; right; omega
    · left; omega
  · have hh' : M.testBit x = false := by simpa using hh
    rw [hh']
    simp only [Bool.false_eq_true, if_false]
    obtain ⟨⟨u1, u2⟩, e1, hu⟩ := f20_eq hM hx
    obtain ⟨⟨d1, d2⟩, e2, hd⟩ := f21_eq hM hx
    rw [e1, e2]
    simp only [Option.bind_some]
    have split : ∀ i, i < 64 → M.testBit i = true → i < x ∨ x < i := by
      intro i hi hb
      rcases Nat.lt_trichotomy i x with h | h | h
      · exact .inl h
      · subst h; rw [hh'] at hb; cases hb
      · exact .inr h
    rcases hu with ⟨j, hj, g1, g2, g3, g4⟩ | ⟨hj, g⟩ <;> rcases hd with ⟨i, hi, k1, k2, k3⟩ | ⟨hi, k⟩ <;> cases hj <;> cases hi
    · rw [if_pos rfl, if_pos rfl, if_pos rfl]
      rw [w64 (by omega) (by omega), w64 (by omega) (by omega)]
      by_cases hle : (x : Int) - (i : Int) ≤ (j : Int) - (x : Int)
      · rw [if_pos hle]
        refine ⟨_, rfl, .inl ⟨i, rfl, by omega, k2, fun n hn hb => ?_⟩⟩
        unfold distN
        rcases split n hn hb with h | h
        · have : n ≤ i := by
            rcases Nat.lt_or_ge i n with q | q
            · rw [k3 n h q] at hb; cases hb
            · exact q
          omega
        · have : j ≤ n := by
            rcases Nat.lt_or_ge n j with q | q
            · rw [g4 n h q] at hb; cases hb
            · exact q
          omega
      · rw [if_neg hle]
        refine ⟨_, rfl, .inl ⟨j, rfl, g2, g3, fun n hn hb => ?_⟩⟩
        unfold distN
        rcases split n hn hb with h | h
        · have : n ≤ i := by
            rcases Nat.lt_or_ge i n with q | q
            · rw [k3 n h q] at hb; cases hb
            · exact q
          omega
        · have : j ≤ n := by
            rcases Nat.lt_or_ge n j with q | q
            · rw [g4 n h q] at hb; cases hb
            · exact q
          omega
    · rw [if_pos rfl, if_pos rfl, if_neg (by decide)]
      refine ⟨_, rfl, .inl ⟨j, rfl, g2, g3, fun n hn hb => ?_⟩⟩
      unfold distN
      rcases split n hn hb with h | h
      · rw [k n h] at hb; cases hb
      · have : j ≤ n := by
          rcases Nat.lt_or_ge n j with q | q
          · rw [g4 n h q] at hb; cases hb
          · exact q
        omega
    · rw [if_neg (by decide), if_pos rfl, if_neg (by decide)]
      refine ⟨_, rfl, .inl ⟨i, rfl, by omega, k2, fun n hn hb => ?_⟩⟩
      unfold distN
      rcases split n hn hb with h | h
      · have : n ≤ i := by
          rcases Nat.lt_or_ge i n with q | q
          · rw [k3 n h q] at hb; cases hb
          · exact q
        omega
      · rw [g n h hn] at hb; cases hb
    · rw [if_neg (by decide), if_neg (by decide)]
      refine ⟨_, rfl, .inr ⟨rfl, fun n hn => ?_⟩⟩
      cases hb : M.testBit n with
      | false => rfl
      | true =>
        rcases split n hn hb with h | h
        · rw [k n h] at hb; cases hb
        · rw [g n h hn] at hb; cases hb
theorem dist_int (a b : Nat) (ha : a < 64) (hb : b < 64) : IntKind.i64.wrap (gmax (a : Int) (b : Int) - gmin (a : Int) (b : Int)) = ((distN a b : Nat) : Int) := by
  rw [gmax_nat, gmin_nat, w64 (by omega) (by omega)]
  unfold distN
  omega
theorem f7_loop {M x j : Nat} (hM : M < 18446744073709551616) (hx : x < 64) (hj : j < 64) (h : ∀ i, i < 64 → M.testBit i = true → distN j x < distN i x ∨ (distN j x = distN i x ∧ j ≤ i)) : ∀ (d n i : Nat), i + d = 64 → d < n → f7_l1 (M : Int) (x : Int) (j : Int) n (i : Int) = some (.inr ())
  | d, 0, i, hi, hd => by omega
  | 0, n + 1, i, hi, hd => by
    rw [f7_l1, if_neg (by omega)]
  | d + 1, n + 1, i, hi, hd => by
    have ih := f7_loop hM hx hj h d n (i + 1) (by omega) (by omega)
    have e : IntKind.i64.wrap ((i : Int) + 1) = ((i + 1 : Nat) : Int) := by rw [w64 (by omega) (by omega)]; omega
    rw [f7_l1, if_pos (by omega), f26_eq hM, hasI_nat (by omega), dist_int i x (by omega) hx, dist_int j x hj hx, e]
    simp only [Option.bind_some]
    cases hb : M.testBit i with
    | false => exact ih
    | true =>
      simp only [if_true]
      have := h i (by omega) hb
      rw [if_neg (by omega)]
      by_cases q : ((distN i x : Nat) : Int) = ((distN j x : Nat) : Int)
      · rw [if_pos q, if_neg (by omega)]; exact ih
      · rw [if_neg q]; exact ih
theorem f7_eq {M : Nat} (hM : M < 18446744073709551616) (a : Int) : f7 1000 (M : Int) a = some true := by
  obtain ⟨x, hx, ex⟩ := f25_eq (x := a)
  obtain ⟨⟨r1, r2⟩, er, hr⟩ := f22_eq hM hx
  unfold f7
  rw [known5, ex]
  simp only [Option.bind_some]
  rw [er]
  simp only [Option.bind_some, if_true]
  rcases hr with ⟨j, hj, h1, h2, h3⟩ | ⟨hj, h⟩
  · cases hj
    have h0 : M ≠ 0 := by rintro rfl; rw [Nat.zero_testBit] at h2; cases h2
    rw [if_neg (by omega), if_pos rfl, f26_eq hM, f26_eq hM, hasI_nat h1, hasI_nat hx, h2]
    simp only [Option.bind_some, if_true]
    have hl := f7_loop hM hx h1 h3 64 1000 0 (by omega) (by omega)
    have hl : f7_l1 (M : Int) (x : Int) (j : Int) 1000 0 = some (.inr ()) := hl
    cases hb : M.testBit x with
    | false =>
      simp only [Bool.false_eq_true, if_false, Option.bind_some]
      rw [hl]; rfl
    | true =>
      simp only [if_true]
      have := h3 x hx hb
      have hjx : j = x := by unfold distN at this; omega
      rw [if_pos (by omega)]
      simp only [Option.bind_some]
      rw [hl]; rfl
  · cases hj
    have h0 : M = 0 := ext64 hM (by decide) fun i hi => by rw [h i hi, Nat.zero_testBit]
    rw [if_pos (by omega)]; rfl
theorem pure7 : Pure7 := fun x0 x1 h0 _ => by
  obtain ⟨M, rfl, hM⟩ := okU h0
  exact ⟨1000, f7_eq hM x1⟩
end Go.Proofs.YtcephcgnfmcdhaaDoor
