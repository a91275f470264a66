import Derived.Test.YtbdndhodggdhkaaDoorSL
import Derived.Lib.ItoaLen
set_option linter.unusedVariables false
set_option linter.unusedSimpArgs false
namespace Go.Proofs.YtbdndhodggdhkaaDoor
open Go Go.Det Go.RowKit
theorem w64 {x : Int} (h1 : -9223372036854775808 ≤ x) (h2 : x ≤ 9223372036854775807) : IntKind.i64.wrap x = x := by rw [IntKind.wrap_i64]; omega
theorem okZ {x : Int} (h : okI .i64 x) : -9223372036854775808 ≤ x ∧ x ≤ 9223372036854775807 := okI64 h
/-! Single calls -/
def chk (c : CallT) : Int :=
  if c.Kind < 1 ∨ c.Kind > 3 then 11
  else if c.Floor < 0 ∨ c.Floor ≥ 64 ∨ c.At < 0 ∨ c.At > 1099511627776 then 2
  else if c.Kind = 3 then (if c.Car < 1 ∨ c.Car > 8 then 2 else 0)
  else if c.Car = 0 then 0 else 2
theorem f27_eq (c : CallT) : f27 c = some (chk c) := by
  obtain ⟨a, b, d, e⟩ := c
  unfold f27 chk
  simp only [Option.bind_some]
  by_cases h1 : a < 1
  · simp [h1]
  by_cases h2 : a > 3
  · simp [h1, h2]
  by_cases h3 : b < 0
  · simp [h1, h2, h3]
  by_cases h4 : b ≥ 64
  · simp [h1, h2, h3, h4]
  by_cases h5 : e < 0
  · simp [h1, h2, h3, h4, h5]
  by_cases h6 : e > 1099511627776
  · simp [h1, h2, h3, h4, h5, h6]
  by_cases h7 : a = 3
  · subst h7
    by_cases h8 : d < 1
    · simp [h3, h4, h5, h6, h8]
    · by_cases h9 : d > 8 <;> simp [h3, h4, h5, h6, h8, h9]
  · by_cases h8 : d = 0 <;> simp [h1, h2, h3, h4, h5, h6, h7, h8]
theorem f31_eq (c : CallT) : f31 c = some (chk c) := by
  obtain ⟨a, b, d, e⟩ := c
  unfold f31 chk
  by_cases h1 : a < 1
  · simp [h1]
  by_cases h2 : a > 3
  · simp [h1, h2]
  by_cases h3 : b < 0
  · simp [h1, h2, h3]
  by_cases h4 : b ≥ 64
  · simp [h1, h2, h3, h4]
  by_cases h5 : e < 0
  · simp [h1, h2, h3, h4, h5]
  by_cases h6 : e > 1099511627776
  · simp [h1, h2, h3, h4, h5, h6]
  by_cases h7 : a = 3
  · subst h7
    by_cases h8 : d < 1
    · simp [h3, h4, h5, h6, h8]
    · by_cases h9 : d > 8 <;> simp [h3, h4, h5, h6, h8, h9]
  · by_cases h8 : d = 0 <;> simp [h1, h2, h3, h4, h5, h6, h7, h8]
def same (a b : CallT) : Bool := decide (a.Kind = b.Kind ∧ a.Floor = b.Floor ∧ a.Car = b.Car)
theorem f32_eq (a b : CallT) : f32 a b = some (same a b) := by
  unfold f32 f47 same
  simp
theorem f33_eq (a b : CallT) : f33 a b = some (same a b) := by
  unfold f33 same
  by_cases h1 : a.Kind = b.Kind
  · by_cases h2 : a.Floor = b.Floor
    · by_cases h3 : a.Car = b.Car <;> simp [h1, h2, h3]
    · simp [h1, h2]
  · simp [h1]
def cmpI (x y : Int) : Int := if x < y then -1 else if x > y then 1 else 0
theorem f53_eq (x y : Int) : f53 x y = some (cmpI x y) := by
  unfold f53 f64 cmpI
  simp only [Option.bind_some, bne_self_eq_false, Bool.false_eq_true, if_false]
  by_cases h1 : x < y
  · simp [h1]
  · by_cases h2 : x > y <;> simp [h1, h2]
def cmpC (a b : CallT) : Int :=
  if cmpI a.At b.At = 0 then (if cmpI a.Kind b.Kind = 0 then (if cmpI a.Floor b.Floor = 0 then cmpI a.Car b.Car else cmpI a.Floor b.Floor) else cmpI a.Kind b.Kind) else cmpI a.At b.At
theorem rd4 (a b c d : Int) : rd [a, b, c, d] 0 = some a ∧ rd [a, b, c, d] 1 = some b ∧ rd [a, b, c, d] 2 = some c ∧ rd [a, b, c, d] 3 = some d := ⟨rfl, rfl, rfl, rfl⟩
theorem ws : IntKind.i64.wrap (0 + 1) = 1 ∧ IntKind.i64.wrap (1 + 1) = 2 ∧ IntKind.i64.wrap (2 + 1) = 3 ∧ IntKind.i64.wrap (3 + 1) = 4 := by decide
theorem f52_eq (n : Nat) (a b c d : Int) : f52 (n + 5) [a, b, c, d] = some (if a = 0 then (if b = 0 then (if c = 0 then d else c) else b) else a) := by
  obtain ⟨r0, r1, r2, r3⟩ := rd4 a b c d
  obtain ⟨w0, w1, w2, w3⟩ := ws
  unfold f52 f63
  rw [f63_l1]
  simp only [Option.bind_some, List.length_cons, List.length_nil]
  rw [r0, w0]
  by_cases h1 : a = 0
  · rw [if_pos (by rfl), Option.bind_some, if_pos h1, f63_l1]
    simp only [Option.bind_some, List.length_cons, List.length_nil]
    rw [r1, w1]
    by_cases h2 : b = 0
    · rw [if_pos (by rfl), Option.bind_some, if_pos h2, f63_l1]
      simp only [Option.bind_some, List.length_cons, List.length_nil]
      rw [r2, w2]
      by_cases h3 : c = 0
      · rw [if_pos (by rfl), Option.bind_some, if_pos h3, f63_l1]
        simp only [Option.bind_some, List.length_cons, List.length_nil]
        rw [r3, w3]
        by_cases h4 : d = 0
        · rw [if_pos (by rfl), Option.bind_some, if_pos h4, f63_l1]
          simp [h1, h2, h3, h4]
        · simp [h1, h2, h3, h4]
      · simp [h1, h2, h3]
    · simp [h1, h2]
  · simp [h1]
theorem f22_eq (n : Nat) (a b : CallT) : f22 (n + 5) a b = some (cmpC a b) := by
  unfold f22 cmpC
  simp only [f53_eq, Option.bind_some, f52_eq]
def srv (c : CallT) (x y : Int) : Bool × Int :=
  if chk c = 0 then
    if x < 0 ∨ x ≥ 64 ∨ y < 1 ∨ y > 8 then (false, 2)
    else (decide (c.Floor = x ∧ (c.Kind = 3 → c.Car = y)), 0)
  else (false, chk c)
theorem f24_eq (c : CallT) (x y : Int) : f24 c x y = some (srv c x y) := by
  unfold f24 srv
  rw [f27_eq, Option.bind_some]
  by_cases h0 : chk c = 0
  · rw [if_pos (show chk (CallT.mk c.Kind c.Floor c.Car c.At) = 0 from h0), if_pos h0]
    by_cases h1 : x < 0
    · simp [h1]
    by_cases h2 : x ≥ 64
    · simp [h1, h2]
    by_cases h3 : y < 1
    · simp [h1, h2, h3]
    by_cases h4 : y > 8
    · simp [h1, h2, h3, h4]
    by_cases h5 : c.Floor = x
    · by_cases h6 : c.Kind = 3
      · by_cases h7 : c.Car = y <;> simp [h1, h2, h3, h4, h5, h6, h7]
      · simp [h1, h2, h3, h4, h5, h6]
    · simp [h1, h2, h3, h4, h5]
  · rw [if_neg (show ¬ chk (CallT.mk c.Kind c.Floor c.Car c.At) = 0 from h0), if_neg h0]
theorem f35_eq (c : CallT) (x y : Int) : f35 c x y = some (srv c x y) := by
  unfold f35 srv
  rw [f31_eq, Option.bind_some]
  show ((if chk c = 0 then _ else some (chk c)).bind _) = _
  by_cases h0 : chk c = 0
  · rw [if_pos h0, if_pos h0]
    by_cases h1 : x < 0
    · simp [h1]
    by_cases h2 : x ≥ 64
    · simp [h1, h2]
    by_cases h3 : y < 1
    · simp [h1, h2, h3]
    by_cases h4 : y > 8
    · simp [h1, h2, h3, h4]
    rw [if_neg h1, if_neg h2, if_neg h3, if_neg h4]
    rw [show (CallT.mk c.Kind c.Floor c.Car c.At) = c from rfl, h0]
    by_cases h5 : c.Floor = x
    · by_cases h6 : c.Kind = 3
      · by_cases h7 : c.Car = y <;> simp [h1, h2, h3, h4, h5, h6, h7]
      · simp [h1, h2, h3, h4, h5, h6]
    · simp [h1, h2, h3, h4, h5]
  · rw [if_neg h0, if_neg h0, Option.bind_some, if_neg h0]
def age (c : CallT) (x : Int) : Int × Int :=
  if chk c = 0 then
    if x < 0 ∨ x > 1099511627776 then (0, 2) else if x < c.At then (0, 8) else (IntKind.i64.wrap (x - c.At), 0)
  else (0, chk c)
theorem f25_eq (c : CallT) (x : Int) : f25 c x = some (age c x) := by
  unfold f25 age
  rw [f27_eq, Option.bind_some]
  by_cases h0 : chk c = 0
  · rw [if_pos (show chk (CallT.mk c.Kind c.Floor c.Car c.At) = 0 from h0), if_pos h0]
    by_cases h1 : x < 0
    · simp [h1]
    by_cases h2 : x > 1099511627776
    · simp [h1, h2]
    by_cases h3 : x < c.At <;> simp [h1, h2, h3]
  · rw [if_neg (show ¬ chk (CallT.mk c.Kind c.Floor c.Car c.At) = 0 from h0), if_neg h0]
theorem f36_eq (c : CallT) (x : Int) : f36 c x = some (age c x) := by
  unfold f36 age
  rw [f31_eq, Option.bind_some]
  show ((if chk c = 0 then _ else some (chk c)).bind _) = _
  by_cases h0 : chk c = 0
  · rw [if_pos h0, if_pos h0]
    by_cases h1 : x < 0
    · simp [h1]
    by_cases h2 : x > 1099511627776
    · simp [h1, h2]
    rw [if_neg h1, if_neg h2, show (CallT.mk c.Kind c.Floor c.Car c.At) = c from rfl, h0]
    by_cases h3 : x < c.At <;> simp [h1, h2, h3]
  · rw [if_neg h0, if_neg h0]
    simp [h0]
/-! Numerals -/
def D (n : Int) : List UInt8 := Lib.itoa n
theorem f50_eq {n : Int} (h1 : -9223372036854775808 ≤ n) (h2 : n ≤ 9223372036854775807) : f50 n = some (D n) := by unfold f50; rw [if_pos ⟨h1, h2⟩]; rfl
theorem D_len {n : Int} (h1 : -9223372036854775808 ≤ n) (h2 : n ≤ 9223372036854775807) : (D n).length ≤ 21 := Lib.itoa_length_le n h1 h2
theorem scat_ok {a b : List UInt8} (h : a.length + b.length ≤ 9223372036854775807) : scat a b = some (a ++ b) := if_pos h
theorem digit8 (u : Nat) : b8 [IntKind.u8.wrap (IntKind.i64.wrap (48 + ((u : Int).tmod 10)))] = [UInt8.ofNat (48 + u % 10)] := by
  have h1 : ((u : Int).tmod 10) = ((u % 10 : Nat) : Int) := by
    rw [Int.tmod_eq_emod_of_nonneg (by omega)]; omega
  rw [h1, w64 (by omega) (by omega)]
  have h2 : IntKind.u8.wrap (48 + ((u % 10 : Nat) : Int)) = ((48 + u % 10 : Nat) : Int) := by
    rw [IntKind.wrap_u8]; omega
  rw [h2]
  show [UInt8.ofNat (((48 + u % 10 : Nat) : Int)).toNat] = _
  rw [Int.toNat_natCast]
theorem f54_end (n : Nat) (acc : List UInt8) (h : acc ≠ []) : f54_l1 (n + 1) 0 acc = some acc := by
  rw [f54_l1]
  simp [h]
theorem f54_step (n : Nat) (u : Nat) (acc : List UInt8) (hu : u ≤ 9223372036854775807) (h : 0 < u ∨ acc = []) (hl : acc.length ≤ 1000000) : f54_l1 (n + 1) (u : Int) acc = f54_l1 n ((u / 10 : Nat) : Int) (UInt8.ofNat (48 + u % 10) :: acc) := by
  rw [f54_l1, digit8]
  have h1 : ((u : Int).tdiv 10) = ((u / 10 : Nat) : Int) := by
    rw [Int.tdiv_eq_ediv_of_nonneg (by omega)]; omega
  rw [h1, w64 (by omega) (by omega), scat_ok (by simp; omega)]
  by_cases h2 : 0 < u
  · rw [if_pos (by omega)]; rfl
  · rw [if_neg (by omega)]
    rcases h with h | h
    · omega
    · rw [if_pos h]; rfl
theorem f54_l1_eq : ∀ (n u : Nat) (acc : List UInt8), u < 10 ^ n → u ≤ 9223372036854775807 → (0 < u ∨ acc = []) → acc.length + n ≤ 1000000 → f54_l1 (n + 2) (u : Int) acc = some (Lib.decDigits u ++ acc)
  | 0, u, acc, h, hu, hp, hl => by
    have : u = 0 := by simpa using h
    subst this
    rcases hp with hp | hp
    · omega
    · subst hp
      rw [f54_step _ _ _ (by omega) (.inr rfl) (by simp), show ((0 / 10 : Nat) : Int) = 0 from rfl, f54_end _ _ (by simp), Lib.decDigits]
      rfl
  | n + 1, u, acc, h, hu, hp, hl => by
    rw [f54_step _ _ _ hu hp (by omega)]
    by_cases hs : u < 10
    · rw [show ((u / 10 : Nat) : Int) = 0 by omega, f54_end _ _ (by simp), Lib.decDigits, dif_pos hs, Nat.mod_eq_of_lt hs]
      rfl
    · rw [f54_l1_eq n (u / 10) _ (by rw [Nat.pow_succ] at h; omega) (by omega) (.inl (by omega)) (by simp; omega)]
      conv => rhs; rw [Lib.decDigits, dif_neg hs]
      simp
theorem f54_eq {n : Int} (h1 : 0 ≤ n) (h2 : n ≤ 9223372036854775807) (k : Nat) (hk : 21 ≤ k) (hk2 : k ≤ 1000000) : f54 k n = some (D n) := by
  obtain ⟨u, rfl⟩ : ∃ u : Nat, n = u := ⟨n.toNat, by omega⟩
  obtain ⟨m, rfl⟩ : ∃ m, k = m + 2 := ⟨k - 2, by omega⟩
  have hu : u < 10 ^ m := Nat.lt_of_lt_of_le (show u < 10 ^ 19 by omega) (Nat.pow_le_pow_right (by decide) (by omega))
  unfold f54 D
  rw [f54_l1_eq m u [] hu (by omega) (.inr rfl) (by simp; omega), Lib.itoa_nonneg]
  simp
def txt (c : CallT) : List UInt8 × Int :=
  if chk c = 0 then
    ((if c.Kind = 3 then [99] ++ D c.Car ++ [58] else if c.Kind = 1 then [117] else [100]) ++ D c.Floor ++ [64] ++ D c.At, 0)
  else ([], chk c)
theorem chk0 {c : CallT} (h : chk c = 0) : 1 ≤ c.Kind ∧ c.Kind ≤ 3 ∧ 0 ≤ c.Floor ∧ c.Floor < 64 ∧ 0 ≤ c.At ∧ c.At ≤ 1099511627776 ∧ (c.Kind = 3 → 1 ≤ c.Car ∧ c.Car ≤ 8) ∧ (c.Kind ≠ 3 → c.Car = 0) := by
  unfold chk at h
  split at h
  · cases h
  · split at h
    · cases h
    · split at h
      · split at h
        · cases h
        · refine ⟨by omega, by omega, by omega, by omega, by omega, by omega, fun _ => by omega, fun q => by omega⟩
      · split at h
        · refine ⟨by omega, by omega, by omega, by omega, by omega, by omega, fun q => by omega, fun _ => by omega⟩
        · cases h
theorem ud {k : Int} (h1 : 1 ≤ k) (h2 : k ≤ 3) (h3 : k ≠ 3) : sub [117, 100] (IntKind.i64.wrap (k - 1)) k = some (if k = 1 then [117] else [100]) := by
  have : k = 1 ∨ k = 2 := by omega
  rcases this with rfl | rfl <;> decide
theorem f29_eq (c : CallT) : f29 c = some (txt c) := by
  unfold f29 txt
  rw [f27_eq, Option.bind_some]
  by_cases h0 : chk c = 0
  · obtain ⟨g1, g2, g3, g4, g5, g6, g7, g8⟩ := chk0 h0
    have l1 := D_len (n := c.Floor) (by omega) (by omega)
    have l2 := D_len (n := c.At) (by omega) (by omega)
    rw [if_pos (show chk (CallT.mk c.Kind c.Floor c.Car c.At) = 0 from h0), if_pos h0]
    rw [f50_eq (by omega) (by omega), Option.bind_some, scat_ok (by simp; omega), Option.bind_some, f50_eq (by omega) (by omega), Option.bind_some, scat_ok (by simp; omega), Option.bind_some]
    by_cases h1 : c.Kind = 3
    · have l3 := D_len (n := c.Car) (by have := g7 h1; omega) (by have := g7 h1; omega)
      rw [if_pos h1, if_pos h1, f50_eq (by have := g7 h1; omega) (by have := g7 h1; omega), Option.bind_some, scat_ok (by simp; omega), Option.bind_some, scat_ok (by simp; omega), Option.bind_some, scat_ok (by simp; omega), Option.bind_some]
      simp
    · rw [if_neg h1, if_neg h1, ud g1 g2 h1, Option.bind_some, scat_ok (by split <;> simp <;> omega), Option.bind_some]
      simp
  · rw [if_neg (show ¬ chk (CallT.mk c.Kind c.Floor c.Car c.At) = 0 from h0), if_neg h0]
theorem f37_eq (c : CallT) (k : Nat) (hk : 21 ≤ k) (hk2 : k ≤ 1000000) : f37 k c = some (txt c) := by
  unfold f37 txt
  rw [f31_eq, Option.bind_some]
  by_cases h0 : chk c = 0
  · obtain ⟨g1, g2, g3, g4, g5, g6, g7, g8⟩ := chk0 h0
    have l1 := D_len (n := c.Floor) (by omega) (by omega)
    have l2 := D_len (n := c.At) (by omega) (by omega)
    rw [if_pos (show chk (CallT.mk c.Kind c.Floor c.Car c.At) = 0 from h0), if_pos h0]
    by_cases h1 : c.Kind = 3
    · have l3 := D_len (n := c.Car) (by have := g7 h1; omega) (by have := g7 h1; omega)
      rw [if_pos h1, if_pos h1, f54_eq (by have := g7 h1; omega) (by have := g7 h1; omega) k hk hk2, Option.bind_some, scat_ok (by simp; omega), Option.bind_some, scat_ok (by simp; omega), Option.bind_some, Option.bind_some,
        f54_eq (by omega) (by omega) k hk hk2, Option.bind_some, scat_ok (by simp; omega), Option.bind_some, scat_ok (by simp; omega), Option.bind_some, f54_eq (by omega) (by omega) k hk hk2, Option.bind_some, scat_ok (by simp; omega), Option.bind_some]
    · rw [if_neg h1, if_neg h1, ud g1 g2 h1, Option.bind_some, Option.bind_some,
        f54_eq (by omega) (by omega) k hk hk2, Option.bind_some, scat_ok (by split <;> simp <;> omega), Option.bind_some, scat_ok (by split <;> simp <;> omega), Option.bind_some, f54_eq (by omega) (by omega) k hk hk2, Option.bind_some, scat_ok (by split <;> simp <;> omega), Option.bind_some]
  · rw [if_neg (show ¬ chk (CallT.mk c.Kind c.Floor c.Car c.At) = 0 from h0), if_neg h0]
theorem call_eta (c : CallT) : CallT.mk c.Kind c.Floor c.Car c.At = c := rfl
end Go.Proofs.YtbdndhodggdhkaaDoor

set_option linter.unusedVariables false
namespace Go.Proofs.YtbdndhodggdhkaaDoor
open Go Go.Det Go.RowKit
theorem f34_eq (n : Nat) (a b : CallT) : f34 (n + 5) a b = some (cmpC a b) := by
  obtain ⟨r0, r1, r2, r3⟩ := rd4 a.At a.Kind a.Floor a.Car
  obtain ⟨s0, s1, s2, s3⟩ := rd4 b.At b.Kind b.Floor b.Car
  obtain ⟨w0, w1, w2, w3⟩ := ws
  have key : ∀ x y : Int, (x < y ∧ cmpI x y = -1) ∨ (¬ x < y ∧ x > y ∧ cmpI x y = 1) ∨ (¬ x < y ∧ ¬ x > y ∧ cmpI x y = 0) := by
    intro x y
    unfold cmpI
    by_cases h1 : x < y
    · simp [h1]
    · by_cases h2 : x > y <;> simp [h1, h2]
  unfold f34 cmpC
  rw [f34_l1, if_pos (by decide), r0, s0, w0]
  simp only [Option.bind_some]
  rcases key a.At b.At with ⟨h1, h2⟩ | ⟨h1, h2, h3⟩ | ⟨h1, h2, h3⟩
  · rw [if_pos h1, h2]; rfl
  · rw [if_neg h1, if_pos h2, h3]; rfl
  rw [if_neg h1, if_neg h2, h3, f34_l1, if_pos (by decide), r1, s1, w1]
  simp only [Option.bind_some]
  rcases key a.Kind b.Kind with ⟨h1, h2⟩ | ⟨h1, h2, h3⟩ | ⟨h1, h2, h3⟩
  · rw [if_pos h1, h2]; rfl
  · rw [if_neg h1, if_pos h2, h3]; rfl
  rw [if_neg h1, if_neg h2, h3, f34_l1, if_pos (by decide), r2, s2, w2]
  simp only [Option.bind_some]
  rcases key a.Floor b.Floor with ⟨h1, h2⟩ | ⟨h1, h2, h3⟩ | ⟨h1, h2, h3⟩
  · rw [if_pos h1, h2]; rfl
  · rw [if_neg h1, if_pos h2, h3]; rfl
  rw [if_neg h1, if_neg h2, h3, f34_l1, if_pos (by decide), r3, s3, w3]
  simp only [Option.bind_some]
  rcases key a.Car b.Car with ⟨h1, h2⟩ | ⟨h1, h2, h3⟩ | ⟨h1, h2, h3⟩
  · rw [if_pos h1, h2]; rfl
  · rw [if_neg h1, if_pos h2, h3]; rfl
  rw [if_neg h1, if_neg h2, h3, f34_l1, if_neg (by decide)]
  rfl
theorem pure7 : Pure7 := by
  intro a b x y ha hb hx hy
  refine ⟨100, ?_⟩
  unfold f7
  simp only [call_eta, f27_eq, f31_eq, f32_eq, f33_eq, f22_eq 95, f34_eq 95, f24_eq, f35_eq, f25_eq, f36_eq, f29_eq, f37_eq a 100 (by decide) (by decide), Option.bind_some, if_true, f10]
  simp
end Go.Proofs.YtbdndhodggdhkaaDoor
