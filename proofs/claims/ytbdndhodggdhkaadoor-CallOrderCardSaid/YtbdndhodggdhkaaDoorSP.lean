import Derived.Test.YtbdndhodggdhkaaDoorSL
import Derived.Lib.ItoaLen
set_option linter.unusedVariables false
set_option linter.unusedSimpArgs false
namespace Go.Proofs.YtbdndhodggdhkaaDoor
open Go Go.Det Go.RowKit
theorem w64 {x : Int} (h1 : -9223372036854775808 ≤ x) (h2 : x ≤ 9223372036854775807) : IntKind.i64.wrap x = x := by rw [IntKind.wrap_i64]; omega
theorem okZ {x : Int} (h : okI .i64 x) : -9223372036854775808 ≤ x ∧ x ≤ 9223372036854775807 := okI64 h
/-! Single calls -/
def chk (c : CallT) : Int :=
  if c.Kind < 1 ∨ c.Kind > 3 then 11
  else if c.Floor < 0 ∨ c.Floor ≥ 64 ∨ c.At < 0 ∨ c.At > 1099511627776 then 2
  else if c.Kind = 3 then (if c.Car < 1 ∨ c.Car > 8 then 2 else 0)
  else if c.Car = 0 then 0 else 2
theorem f27_eq (c : CallT) : f27 c = some (chk c) := by
  obtain ⟨a, b, d, e⟩ := c
  unfold f27 chk
  simp only [Option.bind_some]
  by_cases h1 : a < 1
  · simp [h1]
  by_cases h2 : a > 3
  · simp [h1, h2]
  by_cases h3 : b < 0
  · simp [h1, h2, h3]
  by_cases h4 : b ≥ 64
  · simp [h1, h2, h3, h4]
  by_cases h5 : e < 0
  · simp [h1, h2, h3, h4, h5]
  by_cases h6 : e > 1099511627776
  · simp [h1, h2, h3, h4, h5, h6]
  by_cases h7 : a = 3
  · subst h7
    by_cases h8 : d < 1
    · simp [h3, h4, h5, h6, h8]
    · by_cases h9 : d > 8 <;> simp [h3, h4, h5, h6, h8, h9]
  · by_cases h8 : d = 0 <;> simp [h1, h2, h3, h4, h5, h6, h7, h8]
theorem f31_eq (c : CallT) : f31 c = some (chk c) := by
  obtain ⟨a, b, d, e⟩ := c
  unfold f31 chk
  by_cases h1 : a < 1
  · simp [h1]
  by_cases h2 : a > 3
  · simp [h1, h2]
  by_cases h3 : b < 0
  · simp [h1, h2, h3]
  by_cases h4 : b ≥ 64
  · simp [h1, h2, h3, h4]
  by_cases h5 : e < 0
  · simp [h1, h2, h3, h4, h5]
  by_cases h6 : e > 1099511627776
  · simp [h1, h2, h3, h4, h5, h6]
  by_cases h7 : a = 3
  · subst h7
    by_cases h8 : d < 1
    · simp [h3, h4, h5, h6, h8]
    · by_cases h9 : d > 8 <;> simp [h3, h4, h5, h6, h8, h9]
  · by_cases h8 : d = 0 <;> simp [h1, h2, h3, h4, h5, h6, h7, h8]
def same (a b : CallT) : Bool := decide (a.Kind = b.Kind ∧ a.Floor = b.Floor ∧ a.Car = b.Car)
theorem f32_eq (a b : CallT) : f32 a b = some (same a b) := by
  unfold f32 f47 same
  simp
theorem f33_eq (a b : CallT) : f33 a b = some (same a b) := by
  unfold f33 same
  by_cases h1 : a.Kind = b.Kind
  · by_cases h2 : a.Floor = b.Floor
    · by_cases h3 : a.Car = b.Car <;> simp [h1, h2, h3]
    · simp [h1, h2]
  · simp [h1]
def cmpI (x y : Int) : Int := if x < y then -1 else if x > y then 1 else 0
theorem f53_eq (x y : Int) : f53 x y = some (cmpI x y) := by
  unfold f53 f64 cmpI
  simp only [Option.bind_some, bne_self_eq_false, Bool.false_eq_true, if_false]
  by_cases h1 : x < y
  · simp [h1]
  · by_cases h2 : x > y <;> simp [h1, h2]
def cmpC (a b : CallT) : Int :=
  if cmpI a.At b.At = 0 then (if cmpI a.Kind b.Kind = 0 then (if cmpI a.Floor b.Floor = 0 then cmpI a.Car b.Car else cmpI a.Floor b.Floor) else cmpI a.Kind b.Kind) else cmpI a.At b.At
theorem rd4 (a b c d : Int) : rd [a, b, c, d] 0 = some a ∧ rd [a, b, c, d] 1 = some b ∧ rd [a, b, c, d] 2 = some c ∧ rd [a, b, c, d] 3 = some d := ⟨rfl, rfl, rfl, rfl⟩
theorem ws : IntKind.i64.wrap (0 + 1) = 1 ∧ IntKind.i64.wrap (1 + 1) = 2 ∧ IntKind.i64.wrap (2 + 1) = 3 ∧ IntKind.i64.wrap (3 + 1) = 4 := by decide
theorem f52_eq (n : Nat) (a b c d : Int) : f52 (n + 5) [a, b, c, d] = some (if a = 0 then (if b = 0 then (if c = 0 then d else c) else b) else a) := by
  obtain ⟨r0, r1, r2, r3⟩ := rd4 a b c d
  obtain ⟨w0, w1, w2, w3⟩ := ws
  unfold f52 f63
  rw [f63_l1]
  simp only [Option.bind_some, List.length_cons, List.length_nil]
  rw [r0, w0]
  by_cases h1 : a = 0
  · rw [if_pos (by rfl), Option.bind_some, if_pos h1, f63_l1]
    simp only [Option.bind_some, List.length_cons, List.length_nil]
    rw [r1, w1]
    by_cases h2 : b = 0
    · rw [if_pos (by rfl), Option.bind_some, if_pos h2, f63_l1]
      simp only [Option.bind_some, List.length_cons, List.length_nil]
      rw [r2, w2]
      by_cases h3 : c = 0
      · rw [if_pos (by rfl), Option.bind_some, if_pos h3, f63_l1]
        simp only [Option.bind_some, List.length_cons, List.length_nil]
        rw [r3, w3]
        by_cases h4 : d = 0
        · rw [if_pos (by rfl), Option.bind_some, if_pos h4, f63_l1]
          simp [h1, h2, h3, h4]
        · simp [h1, h2, h3, h4]
      · simp [h1, h2, h3]
    · simp [h1, h2]
  · simp [h1]
theorem f22_eq (n : Nat) (a b : CallT) : f22 (n + 5) a b = some (cmpC a b) := by
  unfold f22 cmpC
  simp only [f53_eq, Option.bind_some, f52_eq]
def srv (c : CallT) (x y : Int) : Bool × Int :=
  if chk c = 0 then
    if x < 0 ∨ x ≥ 64 ∨ y < 1 ∨ y > 8 then (false, 2)
    else (decide (c.Floor = x ∧ (c.Kind = 3 → c.Car = y)), 0)
  else (false, chk c)
theorem f24_eq (c : CallT) (x y : Int) : f24 c x y = some (srv c x y) := by
  unfold f24 srv
  rw [f27_eq, Option.bind_some]
  by_cases h0 : chk c = 0
  · rw [if_pos (show chk (CallT.mk c.Kind c.Floor c.Car c.At) = 0 from h0), if_pos h0]
    by_cases h1 : x < 0
    · simp [h1]
    by_cases h2 : x ≥ 64
    · simp [h1, h2]
    by_cases h3 : y < 1
    · simp [h1, h2, h3]
    by_cases h4 : y > 8
    · simp [h1, h2, h3, h4]
    by_cases h5 : c.Floor = x
    · by_cases h6 : c.Kind = 3
      · by_cases h7 : c.Car = y <;> simp [h1, h2, h3, h4, h5, h6, h7]
      · simp [h1, h2, h3, h4, h5, h6]
    · simp [h1, h2, h3, h4, h5]
  · rw [if_neg (show ¬ chk (CallT.mk c.Kind c.Floor c.Car c.At) = 0 from h0), if_neg h0]
theorem f35_eq (c : CallT) (x y : Int) : f35 c x y = some (srv c x y) := by
  unfold f35 srv
  rw [f31_eq, Option.bind_some]
  show ((if chk c = 0 then _ else some (chk c)).bind _) = _
  by_cases h0 : chk c = 0
  · rw [if_pos h0, if_pos h0]
    by_cases h1 : x < 0
    · simp [h1]
    by_cases h2 : x ≥ 64
    · simp [h1, h2]
    by_cases h3 : y < 1
    · simp [h1, h2, h3]
    by_cases h4 : y > 8
    · simp [h1, h2, h3, h4]
    rw [if_neg h1, if_neg h2, if_neg h3, if_neg h4]
    rw [show (CallT.mk c.Kind c.Floor c.Car c.At) = c from rfl, h0]
    by_cases h5 : c.Floor = x
    · by_cases h6 : c.Kind = 3
      · by_cases h7 : c.Car = y <;> simp [h1, h2, h3, h4, h5, h6, h7]
      · simp [h1, h2, h3, h4, h5, h6]
    · simp [h1, h2, h3, h4, h5]
  · rw [if_neg h0, if_neg h0, Option.bind_some, if_neg h0]
def age (c : CallT) (x : Int) : Int × Int :=
  if chk c = 0 then
    if x < 0 ∨ x > 1099511627776 then (0, 2) else if x < c.At then (0, 8) else (IntKind.i64.wrap (x - c.At), 0)
  else (0, chk c)
theorem f25_eq (c : CallT) (x : Int) : f25 c x = some (age c x) := by
  unfold f25 age
  rw [f27_eq, Option.bind_some]
  by_cases h0 : chk c = 0
  · rw [if_pos (show chk (CallT.mk c.Kind c.Floor c.Car c.At) = 0 from h0), if_pos h0]
    by_cases h1 : x < 0
    · simp [h1]
    by_cases h2 : x > 1099511627776
    · simp [h1, h2]
    by_cases h3 : x < c.At <;> simp [h1, h2, h3]
  · rw [if_neg (show ¬ chk (CallT.mk c.Kind c.Floor c.Car c.At) = 0 from h0), if_neg h0]
theorem f36_eq (c : CallT) (x : Int) : f36 c x = some (age c x) := by
  unfold f36 age
  rw [f31_eq, Option.bind_some]
  show ((if chk c = 0 then _ else some (chk c)).bind _) = _
  by_cases h0 : chk c = 0
  · rw [if_pos h0, if_pos h0]
    by_cases h1 : x < 0
    · simp [h1]
    by_cases h2 : x > 1099511627776
    · simp [h1, h2]
    rw [if_neg h1, if_neg h2, show (CallT.mk c.Kind c.Floor c.Car c.At) = c from rfl, h0]
    by_cases h3 : x < c.At <;> simp [h1, h2, h3]
  · rw [if_neg h0, if_neg h0]
    simp [h0]
/-! Numerals -/
def D (n : Int) : List UInt8 := Lib.itoa n
theorem f50_eq {n : Int} (h1 : -9223372036854775808 ≤ n) (h2 : n ≤ 9223372036854775807) : f50 n = some (D n) := by unfold f50; rw [if_pos ⟨h1, h2⟩]; rfl
theorem D_len {n : Int} (h1 : -9223372036854775808 ≤ n) (h2 : n ≤ 9223372036854775807) : (D n).length ≤ 21 := Lib.itoa_length_le n h1 h2
theorem scat_ok {a b : List UInt8} (h : a.length + b.length ≤ 9223372036854775807) : scat a b = some (a ++ b) := if_pos h
theorem digit8 (u : Nat) : b8 [IntKind.u8.wrap (IntKind.i64.wrap (48 + ((u : Int).tmod 10)))] = [UInt8.ofNat (48 + u % 10)] := by
  have h1 : ((u : Int).tmod 10) = ((u % 10 : Nat) : Int) := by
    rw [Int.tmod_eq_emod_of_nonneg (by omega)]; omega
  rw [h1, w64 (by omega) (by omega)]
  have h2 : IntKind.u8.wrap (48 + ((u % 10 : Nat) : Int)) = ((48 + u % 10 : Nat) : Int) := by
    rw [IntKind.wrap_u8]; omega
  rw [h2]
  show [UInt8.ofNat (((48 + u % 10 : Nat) : Int)).toNat] = _
  rw [Int.toNat_natCast]
theorem f54_end (n : Nat) (acc : List UInt8) (h : acc ≠ []) : f54_l1 (n + 1) 0 acc = some acc := by
  rw [f54_l1]
  simp [h]
theorem f54_step (n : Nat) (u : Nat) (acc : List UInt8) (hu : u ≤ 9223372036854775807) (h : 0 < u ∨ acc = []) (hl : acc.length ≤ 1000000) : f54_l1 (n + 1) (u : Int) acc = f54_l1 n ((u / 10 : Nat) : Int) (UInt8.ofNat (48 + u % 10) :: acc) := by
  rw [f54_l1, digit8]
  have h1 : ((u : Int).tdiv 10) = ((u / 10 : Nat) : Int) := by
    rw [Int.tdiv_eq_ediv_of_nonneg (by omega)]; omega
  rw [h1, w64 (by omega) (by omega), scat_ok (by simp; omega)]
  by_cases h2 : 0 < u
  · rw [if_pos (by omega)]; rfl
  · rw [if_neg (by omega)]
    rcases h with h | h
    · omega
    · rw [if_pos h]; rfl
theorem f54_l1_eq : ∀ (n u : Nat) (acc : List UInt8), u < 10 ^ n → u ≤ 9223372036854775807 → (0 < u ∨ acc = []) → acc.length + n ≤ 1000000 → f54_l1 (n + 2) (u : Int) acc = some (Lib.decDigits u ++ acc)
  | 0, u, acc, h, hu, hp, hl => by
    have : u = 0 := by simpa using h
    subst this
    rcases hp with hp | hp
    · omega
    · subst hp
      rw [f54_step _ _ _ (by omega) (.inr rfl) (by simp), show ((0 / 10 : Nat) : Int) = 0 from rfl, f54_end _ _ (by simp), Lib.decDigits]
      rfl
  | n + 1, u, acc, h, hu, hp, hl => by
    rw [f54_step _ _ _ hu hp (by omega)]
    by_cases hs : u < 10
    · rw [show ((u / 10 : Nat) : Int) = 0 by omega, f54_end _ _ (by simp), Lib.decDigits, dif_pos hs, Nat.mod_eq_of_lt hs]
      rfl
    · rw [f54_l1_eq n (u / 10) _ (by rw [Nat.pow_succ] at h; omega) (by omega) (.inl (by omega)) (by simp; omega)]
      conv => rhs; rw [Lib.decDigits, dif_neg hs]
      simp
theorem f54_eq {n : Int} (h1 : 0 ≤ n) (h2 : n ≤ 9223372036854775807) (k : Nat) (hk : 21 ≤ k) (hk2 : k ≤ 1000000) : f54 k n = some (D n) := by
  obtain ⟨u, rfl⟩ : ∃ u : Nat, n = u := ⟨n.toNat, by omega⟩
  obtain ⟨m, rfl⟩ : ∃ m, k = m + 2 := ⟨k - 2, by omega⟩
  have hu : u < 10 ^ m := Nat.lt_of_lt_of_le (show u < 10 ^ 19 by omega) (Nat.pow_le_pow_right (by decide) (by omega))
  unfold f54 D
  rw [f54_l1_eq m u [] hu (by omega) (.inr rfl) (by simp; omega), Lib.itoa_nonneg]
  simp
def txt (c : CallT) : List UInt8 × Int :=
  if chk c = 0 then
    ((if c.Kind = 3 then [99] ++ D c.Car ++ [58] else if c.Kind = 1 then [117] else [100]) ++ D c.Floor ++ [64] ++ D c.At, 0)
  else ([], chk c)
theorem chk0 {c : CallT} (h : chk c = 0) : 1 ≤ c.Kind ∧ c.Kind ≤ 3 ∧ 0 ≤ c.Floor ∧ c.Floor < 64 ∧ 0 ≤ c.At ∧ c.At ≤ 1099511627776 ∧ (c.Kind = 3 → 1 ≤ c.Car ∧ c.Car ≤ 8) ∧ (c.Kind ≠ 3 → c.Car = 0) := by
  unfold chk at h
  split at h
  · cases h
  · split at h
    · cases h
    · split at h
      · split at h
        · cases h
        · refine ⟨by omega, by omega, by omega, by omega, by omega, by omega, fun _ => by omega, fun q => by omega⟩
      · split at h
        · refine ⟨by omega, by omega, by omega, by omega, by omega, by omega, fun q => by omega, fun _ => by omega⟩
        · cases h
theorem ud {k : Int} (h1 : 1 ≤ k) (h2 : k ≤ 3) (h3 : k ≠ 3) : sub [117, 100] (IntKind.i64.wrap (k - 1)) k = some (if k = 1 then [117] else [100]) := by
  have : k = 1 ∨ k = 2 := by omega
  rcases this with rfl | rfl <;> decide
theorem f29_eq (c : CallT) : f29 c = some (txt c) := by
  unfold f29 txt
  rw [f27_eq, Option.bind_some]
  by_cases h0 : chk c = 0
  · obtain ⟨g1, g2, g3, g4, g5, g6, g7, g8⟩ := chk0 h0
    have l1 := D_len (n := c.Floor) (by omega) (by omega)
    have l2 := D_len (n := c.At) (by omega) (by omega)
    rw [if_pos (show chk (CallT.mk c.Kind c.Floor c.Car c.At) = 0 from h0), if_pos h0]
    rw [f50_eq (by omega) (by omega), Option.bind_some, scat_ok (by simp; omega), Option.bind_some, f50_eq (by omega) (by omega), Option.bind_some, scat_ok (by simp; omega), Option.bind_some]
    by_cases h1 : c.Kind = 3
    · have l3 := D_len (n := c.Car) (by have := g7 h1; omega) (by have := g7 h1; omega)
      rw [if_pos h1, if_pos h1, f50_eq (by have := g7 h1; omega) (by have := g7 h1; omega), Option.bind_some, scat_ok (by simp; omega), Option.bind_some, scat_ok (by simp; omega), Option.bind_some, scat_ok (by simp; omega), Option.bind_some]
      simp
    · rw [if_neg h1, if_neg h1, ud g1 g2 h1, Option.bind_some, scat_ok (by split <;> simp <;> omega), Option.bind_some]
      simp
  · rw [if_neg (show ¬ chk (CallT.mk c.Kind c.Floor c.Car c.At) = 0 from h0), if_neg h0]
theorem f37_eq (c : CallT) (k : Nat) (hk : 21 ≤ k) (hk2 : k ≤ 1000000) : f37 k c = some (txt c) := by
  unfold f37 txt
  rw [f31_eq, Option.bind_some]
  by_cases h0 : chk c = 0
  · obtain ⟨g1, g2, g3, g4, g5, g6, g7, g8⟩ := chk0 h0
    have l1 := D_len (n := c.Floor) (by omega) (by omega)
    have l2 := D_len (n := c.At) (by omega) (by omega)
    rw [if_pos (show chk (CallT.mk c.Kind c.Floor c.Car c.At) = 0 from h0), if_pos h0]
    by_cases h1 : c.Kind = 3
    · have l3 := D_len (n := c.Car) (by have := g7 h1; omega) (by have := g7 h1; omega)
      rw [if_pos h1, if_pos h1, f54_eq (by have := g7 h1; omega) (by have := g7 h1; omega) k hk hk2, Option.bind_some, scat_ok (by simp; omega), Option.bind_some, scat_ok (by simp; omega), Option.bind_some, Option.bind_some,
        f54_eq (by omega) (by omega) k hk hk2, Option.bind_some, scat_ok (by simp; omega), Option.bind_some, scat_ok (by simp; omega), Option.bind_some, f54_eq (by omega) (by omega) k hk hk2, Option.bind_some, scat_ok (by simp; omega), Option.bind_some]
    · rw [if_neg h1, if_neg h1, ud g1 g2 h1, Option.bind_some, Option.bind_some,
        f54_eq (by omega) (by omega) k hk hk2, Option.bind_some, scat_ok (by split <;> simp <;> omega), Option.bind_some, scat_ok (by split <;> simp <;> omega), Option.bind_some, f54_eq (by omega) (by omega) k hk hk2, Option.bind_some, scat_ok (by split <;> simp <;> omega), Option.bind_some]
  · rw [if_neg (show ¬ chk (CallT.mk c.Kind c.Floor c.Car c.At) = 0 from h0), if_neg h0]
theorem call_eta (c : CallT) : CallT.mk c.Kind c.Floor c.Car c.At = c := rfl
end Go.Proofs.YtbdndhodggdhkaaDoor

set_option linter.unusedVariables false
namespace Go.Proofs.YtbdndhodggdhkaaDoor
open Go Go.Det Go.RowKit
theorem cmpI_cases (x y : Int) : (x < y ∧ cmpI x y = -1 ∧ cmpI y x = 1) ∨ (x = y ∧ cmpI x y = 0 ∧ cmpI y x = 0) ∨ (y < x ∧ cmpI x y = 1 ∧ cmpI y x = -1) := by
  unfold cmpI
  rcases Int.lt_trichotomy x y with h | h | h
  · exact .inl ⟨h, if_pos h, by rw [if_neg (by omega), if_pos h]⟩
  · subst h; exact .inr (.inl ⟨rfl, by simp, by simp⟩)
  · exact .inr (.inr ⟨h, by rw [if_neg (by omega), if_pos h], if_pos h⟩)
/-- The order of calls, as one of lists. -/
def ltC (a b : CallT) : Prop := a.At < b.At ∨ (a.At = b.At ∧ (a.Kind < b.Kind ∨ (a.Kind = b.Kind ∧ (a.Floor < b.Floor ∨ (a.Floor = b.Floor ∧ a.Car < b.Car)))))
theorem cmpC_cases (a b : CallT) : (ltC a b ∧ cmpC a b = -1 ∧ cmpC b a = 1) ∨ (a = b ∧ cmpC a b = 0 ∧ cmpC b a = 0) ∨ (ltC b a ∧ cmpC a b = 1 ∧ cmpC b a = -1) := by
  obtain ⟨a1, a2, a3, a4⟩ := a
  obtain ⟨b1, b2, b3, b4⟩ := b
  unfold cmpC ltC
  simp only
  rcases cmpI_cases a4 b4 with ⟨h1, h2, h3⟩ | ⟨h1, h2, h3⟩ | ⟨h1, h2, h3⟩
  · left; rw [h2, h3]; exact ⟨.inl h1, rfl, rfl⟩
  · rw [h2, h3, if_pos rfl, if_pos rfl]
    rcases cmpI_cases a1 b1 with ⟨g1, g2, g3⟩ | ⟨g1, g2, g3⟩ | ⟨g1, g2, g3⟩
    · left; rw [g2, g3]; exact ⟨.inr ⟨h1, .inl g1⟩, rfl, rfl⟩
    · rw [g2, g3, if_pos rfl, if_pos rfl]
      rcases cmpI_cases a2 b2 with ⟨k1, k2, k3⟩ | ⟨k1, k2, k3⟩ | ⟨k1, k2, k3⟩
      · left; rw [k2, k3]; exact ⟨.inr ⟨h1, .inr ⟨g1, .inl k1⟩⟩, rfl, rfl⟩
      · rw [k2, k3, if_pos rfl, if_pos rfl]
        rcases cmpI_cases a3 b3 with ⟨l1, l2, l3⟩ | ⟨l1, l2, l3⟩ | ⟨l1, l2, l3⟩
        · left; rw [l2, l3]; exact ⟨.inr ⟨h1, .inr ⟨g1, .inr ⟨k1, l1⟩⟩⟩, rfl, rfl⟩
        · right; left; rw [l2, l3]; subst h1 g1 k1 l1; exact ⟨rfl, rfl, rfl⟩
        · right; right; rw [l2, l3]; exact ⟨.inr ⟨h1.symm, .inr ⟨g1.symm, .inr ⟨k1.symm, l1⟩⟩⟩, rfl, rfl⟩
      · right; right; rw [k2, k3]; exact ⟨.inr ⟨h1.symm, .inr ⟨g1.symm, .inl k1⟩⟩, rfl, rfl⟩
    · right; right; rw [g2, g3]; exact ⟨.inr ⟨h1.symm, .inl g1⟩, rfl, rfl⟩
  · right; right; rw [h2, h3]; exact ⟨.inl h1, rfl, rfl⟩
theorem ltC_trans {a b c : CallT} (h : ltC a b) (k : ltC b c) : ltC a c := by
  unfold ltC at *
  omega
theorem ltC_irrefl {a : CallT} (h : ltC a a) : False := by unfold ltC at h; omega
theorem mod_some (x m : Int) (hm : 1 ≤ m) : ∃ r, f30 x m = some r := by
  unfold f30
  rw [if_neg (by omega), if_pos (by omega)]
  split <;> exact ⟨_, rfl⟩
theorem made_some (x : Int) : ∃ c, f28 x = some c := by
  obtain ⟨r, hr⟩ := mod_some x 1073741824 (by decide)
  unfold f28
  rw [hr, Option.bind_some]
  split <;> exact ⟨_, rfl⟩
theorem pure8 : Pure8 := by
  intro x y z hx hy hz
  obtain ⟨a, ha⟩ := made_some x
  obtain ⟨b, hb⟩ := made_some y
  obtain ⟨c, hc⟩ := made_some z
  refine ⟨100, ?_⟩
  unfold f8
  simp only [ha, hb, hc, call_eta, f5, f22_eq 95, f32_eq, Option.bind_some, if_true]
  rcases cmpC_cases a b with ⟨h1, h2, h3⟩ | ⟨h1, h2, h3⟩ | ⟨h1, h2, h3⟩
  · have hne : a ≠ b := fun q => ltC_irrefl (q ▸ h1)
    rw [h2, h3]
    rcases cmpC_cases b c with ⟨k1, k2, k3⟩ | ⟨k1, k2, k3⟩ | ⟨k1, k2, k3⟩
    · have h13 := ltC_trans h1 k1
      rcases cmpC_cases a c with ⟨l1, l2, l3⟩ | ⟨l1, l2, l3⟩ | ⟨l1, l2, l3⟩
      · rw [k2, l2]; simp [hne]; decide
      · subst l1; exact (ltC_irrefl h13).elim
      · exact (ltC_irrefl (ltC_trans h13 l1)).elim
    · subst k1
      rw [k2, h2]; simp [hne]; decide
    · rw [k2]; simp [hne]; decide
  · subst h1
    rw [h2]
    have hs : same a a = true := by simp [same]
    rcases cmpC_cases a c with ⟨k1, k2, k3⟩ | ⟨k1, k2, k3⟩ | ⟨k1, k2, k3⟩
    · rw [k2]; simp [hs]; decide
    · rw [k2]; simp [hs]; decide
    · rw [k2]; simp [hs]; decide
  · have hne : a ≠ b := fun q => ltC_irrefl (q ▸ h1)
    rw [h2, h3]
    simp [hne]; decide
end Go.Proofs.YtbdndhodggdhkaaDoor
