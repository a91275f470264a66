import Derived.Test.YtbdndhodggdhkaaDoorSL
import Derived.Lib.ItoaLen
import Derived.Lib.AtoiTie
import Derived.Laws.RangeString
set_option linter.unusedVariables false
set_option linter.unusedSimpArgs false
namespace Go.Proofs.YtbdndhodggdhkaaDoor
open Go Go.Det Go.RowKit
theorem w64 {x : Int} (h1 : -9223372036854775808 ≤ x) (h2 : x ≤ 9223372036854775807) : IntKind.i64.wrap x = x := by rw [IntKind.wrap_i64]; omega
theorem okZ {x : Int} (h : okI .i64 x) : -9223372036854775808 ≤ x ∧ x ≤ 9223372036854775807 := okI64 h
/-! Single calls -/
def chk (c : CallT) : Int :=
  if c.Kind < 1 ∨ c.Kind > 3 then 11
  else if c.Floor < 0 ∨ c.Floor ≥ 64 ∨ c.At < 0 ∨ c.At > 1099511627776 then 2
  else if c.Kind = 3 then (if c.Car < 1 ∨ c.Car > 8 then 2 else 0)
  else if c.Car = 0 then 0 else 2
theorem f27_eq (c : CallT) : f27 c = some (chk c) := by
  obtain ⟨a, b, d, e⟩ := c
  unfold f27 chk
  simp only [Option.bind_some]
  by_cases h1 : a < 1
  · simp [h1]
  by_cases h2 : a > 3
  · simp [h1, h2]
  by_cases h3 : b < 0
  · simp [h1, h2, h3]
  by_cases h4 : b ≥ 64
  · simp [h1, h2, h3, h4]
  by_cases h5 : e < 0
  · simp [h1, h2, h3, h4, h5]
  by_cases h6 : e > 1099511627776
  · simp [h1, h2, h3, h4, h5, h6]
  by_cases h7 : a = 3
  · subst h7
    by_cases h8 : d < 1
    · simp [h3, h4, h5, h6, h8]
    · by_cases h9 : d > 8 <;> simp [h3, h4, h5, h6, h8, h9]
  · by_cases h8 : d = 0 <;> simp [h1, h2, h3, h4, h5, h6, h7, h8]
theorem f31_eq (c : CallT) : f31 c = some (chk c) := by
  obtain ⟨a, b, d, e⟩ := c
  unfold f31 chk
  by_cases h1 : a < 1
  · simp [h1]
  by_cases h2 : a > 3
  · simp [h1, h2]
  by_cases h3 : b < 0
  · simp [h1, h2, h3]
  by_cases h4 : b ≥ 64
  · simp [h1, h2, h3, h4]
  by_cases h5 : e < 0
  · simp [h1, h2, h3, h4, h5]
  by_cases h6 : e > 1099511627776
  · simp [h1, h2, h3, h4, h5, h6]
  by_cases h7 : a = 3
  · subst h7
    by_cases h8 : d < 1
    · simp [h3, h4, h5, h6, h8]
    · by_cases h9 : d > 8 <;> simp [h3, h4, h5, h6, h8, h9]
  · by_cases h8 : d = 0 <;> simp [h1, h2, h3, h4, h5, h6, h7, h8]
def same (a b : CallT) : Bool := decide (a.Kind = b.Kind ∧ a.Floor = b.Floor ∧ a.Car = b.Car)
theorem f32_eq (a b : CallT) : f32 a b = some (same a b) := by
  unfold f32 f47 same
  simp
theorem f33_eq (a b : CallT) : f33 a b = some (same a b) := by
  unfold f33 same
  by_cases h1 : a.Kind = b.Kind
  · by_cases h2 : a.Floor = b.Floor
    · by_cases h3 : a.Car = b.Car <;> simp [h1, h2, h3]
    · simp [h1, h2]
  · simp [h1]
def cmpI (x y : Int) : Int := if x < y then -1 else if x > y then 1 else 0
theorem f53_eq (x y : Int) : f53 x y = some (cmpI x y) := by
  unfold f53 f64 cmpI
  simp only [Option.bind_some, bne_self_eq_false, Bool.false_eq_true, if_false]
  by_cases h1 : x < y
  · simp [h1]
  · by_cases h2 : x > y <;> simp [h1, h2]
def cmpC (a b : CallT) : Int :=
  if cmpI a.At b.At = 0 then (if cmpI a.Kind b.Kind = 0 then (if cmpI a.Floor b.Floor = 0 then cmpI a.Car b.Car else cmpI a.Floor b.Floor) else cmpI a.Kind b.Kind) else cmpI a.At b.At
theorem rd4 (a b c d : Int) : rd [a, b, c, d] 0 = some a ∧ rd [a, b, c, d] 1 = some b ∧ rd [a, b, c, d] 2 = some c ∧ rd [a, b, c, d] 3 = some d := ⟨rfl, rfl, rfl, rfl⟩
theorem ws : IntKind.i64.wrap (0 + 1) = 1 ∧ IntKind.i64.wrap (1 + 1) = 2 ∧ IntKind.i64.wrap (2 + 1) = 3 ∧ IntKind.i64.wrap (3 + 1) = 4 := by decide
theorem f52_eq (n : Nat) (a b c d : Int) : f52 (n + 5) [a, b, c, d] = some (if a = 0 then (if b = 0 then (if c = 0 then d else c) else b) else a) := by
  obtain ⟨r0, r1, r2, r3⟩ := rd4 a b c d
  obtain ⟨w0, w1, w2, w3⟩ := ws
  unfold f52 f63
  rw [f63_l1]
  simp only [Option.bind_some, List.length_cons, List.length_nil]
  rw [r0, w0]
  by_cases h1 : a = 0
  · rw [if_pos (by rfl), Option.bind_some, if_pos h1, f63_l1]
    simp only [Option.bind_some, List.length_cons, List.length_nil]
    rw [r1, w1]
    by_cases h2 : b = 0
    · rw [if_pos (by rfl), Option.bind_some, if_pos h2, f63_l1]
      simp only [Option.bind_some, List.length_cons, List.length_nil]
      rw [r2, w2]
      by_cases h3 : c = 0
      · rw [if_pos (by rfl), Option.bind_some, if_pos h3, f63_l1]
        simp only [Option.bind_some, List.length_cons, List.length_nil]
        rw [r3, w3]
        by_cases h4 : d = 0
        · rw [if_pos (by rfl), Option.bind_some, if_pos h4, f63_l1]
          simp [h1, h2, h3, h4]
        · simp [h1, h2, h3, h4]
      · simp [h1, h2, h3]
    · simp [h1, h2]
  · simp [h1]
theorem f22_eq (n : Nat) (a b : CallT) : f22 (n + 5) a b = some (cmpC a b) := by
  unfold f22 cmpC
  simp only [f53_eq, Option.bind_some, f52_eq]
def srv (c : CallT) (x y : Int) : Bool × Int :=
  if chk c = 0 then
    if x < 0 ∨ x ≥ 64 ∨ y < 1 ∨ y > 8 then (false, 2)
    else (decide (c.Floor = x ∧ (c.Kind = 3 → c.Car = y)), 0)
  else (false, chk c)
theorem f24_eq (c : CallT) (x y : Int) : f24 c x y = some (srv c x y) := by
  unfold f24 srv
  rw [f27_eq, Option.bind_some]
  by_cases h0 : chk c = 0
  · rw [if_pos (show chk (CallT.mk c.Kind c.Floor c.Car c.At) = 0 from h0), if_pos h0]
    by_cases h1 : x < 0
    · simp [h1]
    by_cases h2 : x ≥ 64
    · simp [h1, h2]
    by_cases h3 : y < 1
    · simp [h1, h2, h3]
    by_cases h4 : y > 8
    · simp [h1, h2, h3, h4]
    by_cases h5 : c.Floor = x
    · by_cases h6 : c.Kind = 3
      · by_cases h7 : c.Car = y <;> simp [h1, h2, h3, h4, h5, h6, h7]
      · simp [h1, h2, h3, h4, h5, h6]
    · simp [h1, h2, h3, h4, h5]
  · rw [if_neg (show ¬ chk (CallT.mk c.Kind c.Floor c.Car c.At) = 0 from h0), if_neg h0]
theorem f35_eq (c : CallT) (x y : Int) : f35 c x y = some (srv c x y) := by
  unfold f35 srv
  rw [f31_eq, Option.bind_some]
  show ((if chk c = 0 then _ else some (chk c)).bind _) = _
  by_cases h0 : chk c = 0
  · rw [if_pos h0, if_pos h0]
    by_cases h1 : x < 0
    · simp [h1]
    by_cases h2 : x ≥ 64
    · simp [h1, h2]
    by_cases h3 : y < 1
    · simp [h1, h2, h3]
    by_cases h4 : y > 8
    · simp [h1, h2, h3, h4]
    rw [if_neg h1, if_neg h2, if_neg h3, if_neg h4]
    rw [show (CallT.mk c.Kind c.Floor c.Car c.At) = c from rfl, h0]
    by_cases h5 : c.Floor = x
    · by_cases h6 : c.Kind = 3
      · by_cases h7 : c.Car = y <;> simp [h1, h2, h3, h4, h5, h6, h7]
      · simp [h1, h2, h3, h4, h5, h6]
    · simp [h1, h2, h3, h4, h5]
  · rw [if_neg h0, if_neg h0, Option.bind_some, if_neg h0]
def age (c : CallT) (x : Int) : Int × Int :=
  if chk c = 0 then
    if x < 0 ∨ x > 1099511627776 then (0, 2) else if x < c.At then (0, 8) else (IntKind.i64.wrap (x - c.At), 0)
  else (0, chk c)
theorem f25_eq (c : CallT) (x : Int) : f25 c x = some (age c x) := by
  unfold f25 age
  rw [f27_eq, Option.bind_some]
  by_cases h0 : chk c = 0
  · rw [if_pos (show chk (CallT.mk c.Kind c.Floor c.Car c.At) = 0 from h0), if_pos h0]
    by_cases h1 : x < 0
    · simp [h1]
    by_cases h2 : x > 1099511627776
    · simp [h1, h2]
    by_cases h3 : x < c.At <;> simp [h1, h2, h3]
  · rw [if_neg (show ¬ chk (CallT.mk c.Kind c.Floor c.Car c.At) = 0 from h0), if_neg h0]
theorem f36_eq (c : CallT) (x : Int) : f36 c x = some (age c x) := by
  unfold f36 age
  rw [f31_eq, Option.bind_some]
  show ((if chk c = 0 then _ else some (chk c)).bind _) = _
  by_cases h0 : chk c = 0
  · rw [if_pos h0, if_pos h0]
    by_cases h1 : x < 0
    · simp [h1]
    by_cases h2 : x > 1099511627776
    · simp [h1, h2]
    rw [if_neg h1, if_neg h2, show (CallT.mk c.Kind c.Floor c.Car c.At) = c from rfl, h0]
    by_cases h3 : x < c.At <;> simp [h1, h2, h3]
  · rw [if_neg h0, if_neg h0]
    simp [h0]
/-! Numerals -/
def D (n : Int) : List UInt8 := Lib.itoa n
theorem f50_eq {n : Int} (h1 : -9223372036854775808 ≤ n) (h2 : n ≤ 9223372036854775807) : f50 n = some (D n) := by unfold f50; rw [if_pos ⟨h1, h2⟩]; rfl
theorem D_len {n : Int} (h1 : -9223372036854775808 ≤ n) (h2 : n ≤ 9223372036854775807) : (D n).length ≤ 21 := Lib.itoa_length_le n h1 h2
theorem scat_ok {a b : List UInt8} (h : a.length + b.length ≤ 9223372036854775807) : scat a b = some (a ++ b) := if_pos h
theorem digit8 (u : Nat) : b8 [IntKind.u8.wrap (IntKind.i64.wrap (48 + ((u : Int).tmod 10)))] = [UInt8.ofNat (48 + u % 10)] := by
  have h1 : ((u : Int).tmod 10) = ((u % 10 : Nat) : Int) := by
    rw [Int.tmod_eq_emod_of_nonneg (by omega)]; omega
  rw [h1, w64 (by omega) (by omega)]
  have h2 : IntKind.u8.wrap (48 + ((u % 10 : Nat) : Int)) = ((48 + u % 10 : Nat) : Int) := by
    rw [IntKind.wrap_u8]; omega
  rw [h2]
  show [UInt8.ofNat (((48 + u % 10 : Nat) : Int)).toNat] = _
  rw [Int.toNat_natCast]
theorem f54_end (n : Nat) (acc : List UInt8) (h : acc ≠ []) : f54_l1 (n + 1) 0 acc = some acc := by
  rw [f54_l1]
  simp [h]
theorem f54_step (n : Nat) (u : Nat) (acc : List UInt8) (hu : u ≤ 9223372036854775807) (h : 0 < u ∨ acc = []) (hl : acc.length ≤ 1000000) : f54_l1 (n + 1) (u : Int) acc = f54_l1 n ((u / 10 : Nat) : Int) (UInt8.ofNat (48 + u % 10) :: acc) := by
  rw [f54_l1, digit8]
  have h1 : ((u : Int).tdiv 10) = ((u / 10 : Nat) : Int) := by
    rw [Int.tdiv_eq_ediv_of_nonneg (by omega)]; omega
  rw [h1, w64 (by omega) (by omega), scat_ok (by simp; omega)]
  by_cases h2 : 0 < u
  · rw [if_pos (by omega)]; rfl
  · rw [if_neg (by omega)]
    rcases h with h | h
    · omega
    · rw [if_pos h]; rfl
theorem f54_l1_eq : ∀ (n u : Nat) (acc : List UInt8), u < 10 ^ n → u ≤ 9223372036854775807 → (0 < u ∨ acc = []) → acc.length + n ≤ 1000000 → f54_l1 (n + 2) (u : Int) acc = some (Lib.decDigits u ++ acc)
  | 0, u, acc, h, hu, hp, hl => by
    have : u = 0 := by simpa using h
    subst this
    rcases hp with hp | hp
    · omega
    · subst hp
      rw [f54_step _ _ _ (by omega) (.inr rfl) (by simp), show ((0 / 10 : Nat) : Int) = 0 from rfl, f54_end _ _ (by simp), Lib.decDigits]
      rfl
  | n + 1, u, acc, h, hu, hp, hl => by
    rw [f54_step _ _ _ hu hp (by omega)]
    by_cases hs : u < 10
    · rw [show ((u / 10 : Nat) : Int) = 0 by omega, f54_end _ _ (by simp), Lib.decDigits, dif_pos hs, Nat.mod_eq_of_lt hs]
      rfl
    · rw [f54_l1_eq n (u / 10) _ (by rw [Nat.pow_succ] at h; omega) (by omega) (.inl (by omega)) (by simp; omega)]
      conv => rhs; rw [Lib.decDigits, dif_neg hs]
      simp
theorem f54_eq {n : Int} (h1 : 0 ≤ n) (h2 : n ≤ 9223372036854775807) (k : Nat) (hk : 21 ≤ k) (hk2 : k ≤ 1000000) : f54 k n = some (D n) := by
  obtain ⟨u, rfl⟩ : ∃ u : Nat, n = u := ⟨n.toNat, by omega⟩
  obtain ⟨m, rfl⟩ : ∃ m, k = m + 2 := ⟨k - 2, by omega⟩
  have hu : u < 10 ^ m := Nat.lt_of_lt_of_le (show u < 10 ^ 19 by omega) (Nat.pow_le_pow_right (by decide) (by omega))
  unfold f54 D
  rw [f54_l1_eq m u [] hu (by omega) (.inr rfl) (by simp; omega), Lib.itoa_nonneg]
  simp
def txt (c : CallT) : List UInt8 × Int :=
  if chk c = 0 then
    ((if c.Kind = 3 then [99] ++ D c.Car ++ [58] else if c.Kind = 1 then [117] else [100]) ++ D c.Floor ++ [64] ++ D c.At, 0)
  else ([], chk c)
theorem chk0 {c : CallT} (h : chk c = 0) : 1 ≤ c.Kind ∧ c.Kind ≤ 3 ∧ 0 ≤ c.Floor ∧ c.Floor < 64 ∧ 0 ≤ c.At ∧ c.At ≤ 1099511627776 ∧ (c.Kind = 3 → 1 ≤ c.Car ∧ c.Car ≤ 8) ∧ (c.Kind ≠ 3 → c.Car = 0) := by
  unfold chk at h
  split at h
  · cases h
  · split at h
    · cases h
    · split at h
      · split at h
        · cases h
        · refine ⟨by omega, by omega, by omega, by omega, by omega, by omega, fun _ => by omega, fun q => by omega⟩
      · split at h
        · refine ⟨by omega, by omega, by omega, by omega, by omega, by omega, fun q => by omega, fun _ => by omega⟩
        · cases h
theorem ud {k : Int} (h1 : 1 ≤ k) (h2 : k ≤ 3) (h3 : k ≠ 3) : sub [117, 100] (IntKind.i64.wrap (k - 1)) k = some (if k = 1 then [117] else [100]) := by
  have : k = 1 ∨ k = 2 := by omega
  rcases this with rfl | rfl <;> decide
theorem f29_eq (c : CallT) : f29 c = some (txt c) := by
  unfold f29 txt
  rw [f27_eq, Option.bind_some]
  by_cases h0 : chk c = 0
  · obtain ⟨g1, g2, g3, g4, g5, g6, g7, g8⟩ := chk0 h0
    have l1 := D_len (n := c.Floor) (by omega) (by omega)
    have l2 := D_len (n := c.At) (by omega) (by omega)
    rw [if_pos (show chk (CallT.mk c.Kind c.Floor c.Car c.At) = 0 from h0), if_pos h0]
    rw [f50_eq (by omega) (by omega), Option.bind_some, scat_ok (by simp; omega), Option.bind_some, f50_eq (by omega) (by omega), Option.bind_some, scat_ok (by simp; omega), Option.bind_some]
    by_cases h1 : c.Kind = 3
    · have l3 := D_len (n := c.Car) (by have := g7 h1; omega) (by have := g7 h1; omega)
      rw [if_pos h1, if_pos h1, f50_eq (by have := g7 h1; omega) (by have := g7 h1; omega), Option.bind_some, scat_ok (by simp; omega), Option.bind_some, scat_ok (by simp; omega), Option.bind_some, scat_ok (by simp; omega), Option.bind_some]
      simp
    · rw [if_neg h1, if_neg h1, ud g1 g2 h1, Option.bind_some, scat_ok (by split <;> simp <;> omega), Option.bind_some]
      simp
  · rw [if_neg (show ¬ chk (CallT.mk c.Kind c.Floor c.Car c.At) = 0 from h0), if_neg h0]
theorem f37_eq (c : CallT) (k : Nat) (hk : 21 ≤ k) (hk2 : k ≤ 1000000) : f37 k c = some (txt c) := by
  unfold f37 txt
  rw [f31_eq, Option.bind_some]
  by_cases h0 : chk c = 0
  · obtain ⟨g1, g2, g3, g4, g5, g6, g7, g8⟩ := chk0 h0
    have l1 := D_len (n := c.Floor) (by omega) (by omega)
    have l2 := D_len (n := c.At) (by omega) (by omega)
    rw [if_pos (show chk (CallT.mk c.Kind c.Floor c.Car c.At) = 0 from h0), if_pos h0]
    by_cases h1 : c.Kind = 3
    · have l3 := D_len (n := c.Car) (by have := g7 h1; omega) (by have := g7 h1; omega)
      rw [if_pos h1, if_pos h1, f54_eq (by have := g7 h1; omega) (by have := g7 h1; omega) k hk hk2, Option.bind_some, scat_ok (by simp; omega), Option.bind_some, scat_ok (by simp; omega), Option.bind_some, Option.bind_some,
        f54_eq (by omega) (by omega) k hk hk2, Option.bind_some, scat_ok (by simp; omega), Option.bind_some, scat_ok (by simp; omega), Option.bind_some, f54_eq (by omega) (by omega) k hk hk2, Option.bind_some, scat_ok (by simp; omega), Option.bind_some]
    · rw [if_neg h1, if_neg h1, ud g1 g2 h1, Option.bind_some, Option.bind_some,
        f54_eq (by omega) (by omega) k hk hk2, Option.bind_some, scat_ok (by split <;> simp <;> omega), Option.bind_some, scat_ok (by split <;> simp <;> omega), Option.bind_some, f54_eq (by omega) (by omega) k hk hk2, Option.bind_some, scat_ok (by split <;> simp <;> omega), Option.bind_some]
  · rw [if_neg (show ¬ chk (CallT.mk c.Kind c.Floor c.Car c.At) = 0 from h0), if_neg h0]
theorem call_eta (c : CallT) : CallT.mk c.Kind c.Floor c.Car c.At = c := rfl
end Go.Proofs.YtbdndhodggdhkaaDoor

set_option linter.unusedVariables false
set_option linter.unusedSimpArgs false
namespace Go.Proofs.YtbdndhodggdhkaaDoor
open Go Go.Det Go.RowKit
/-! Numerals -/
def dig (b : UInt8) : Prop := 48 ≤ b.toNat ∧ b.toNat ≤ 57
def digs (l : List UInt8) : Prop := ∀ b ∈ l, dig b
theorem digs_append {a b : List UInt8} : digs (a ++ b) ↔ digs a ∧ digs b := by
  unfold digs
  constructor
  · intro h; exact ⟨fun x hx => h x (by simp [hx]), fun x hx => h x (by simp [hx])⟩
  · rintro ⟨h1, h2⟩ x hx
    rcases List.mem_append.1 hx with q | q
    · exact h1 x q
    · exact h2 x q
theorem dv {b : UInt8} (h : dig b) : Lib.digitVal b = some (b.toNat - 48) := if_pos h
theorem decFrom_snoc {b : UInt8} : ∀ {l : List UInt8} {acc v : Nat}, Lib.decFrom acc l = some v → dig b → Lib.decFrom acc (l ++ [b]) = some (v * 10 + (b.toNat - 48))
  | [], acc, v, h, hb => by
    simp only [Lib.decFrom, Option.some.injEq] at h; subst h
    simp [Lib.decFrom, dv hb]
  | c :: l, acc, v, h, hb => by
    simp only [Lib.decFrom, List.cons_append] at h ⊢
    split at h
    · exact decFrom_snoc h hb
    · cases h
theorem decFrom_digs : ∀ {l : List UInt8} (acc : Nat), digs l → ∃ v, Lib.decFrom acc l = some v ∧ v < (acc + 1) * 10 ^ l.length
  | [], acc, _ => ⟨acc, rfl, by simp⟩
  | b :: l, acc, h => by
    have hb := h b (by simp)
    obtain ⟨v, h1, h2⟩ := decFrom_digs (l := l) (acc * 10 + (b.toNat - 48)) fun x hx => h x (by simp [hx])
    refine ⟨v, by simp only [Lib.decFrom, dv hb]; exact h1, Nat.lt_of_lt_of_le h2 ?_⟩
    rw [List.length_cons, Nat.pow_succ, Nat.mul_comm (10 ^ l.length) 10, ← Nat.mul_assoc]
    refine Nat.mul_le_mul_right _ ?_
    have := hb.2
    omega
theorem dd_small {u : Nat} (h : u < 10) : Lib.decDigits u = [UInt8.ofNat (48 + u)] := by rw [Lib.decDigits, dif_pos h]
theorem dd_big {u : Nat} (h : ¬ u < 10) : Lib.decDigits u = Lib.decDigits (u / 10) ++ [UInt8.ofNat (48 + u % 10)] := by rw [Lib.decDigits, dif_neg h]
theorem digU {d : Nat} (h : d < 10) : dig (UInt8.ofNat (48 + d)) ∧ (UInt8.ofNat (48 + d)).toNat = 48 + d := by
  have : (UInt8.ofNat (48 + d)).toNat = 48 + d := by rw [UInt8.toNat_ofNat_of_lt' (by show _ < 256; omega)]
  exact ⟨⟨by omega, by omega⟩, this⟩
theorem dd_spec (u : Nat) : digs (Lib.decDigits u) ∧ Lib.decDigits u ≠ [] ∧ Lib.decFrom 0 (Lib.decDigits u) = some u ∧ (10 ≤ u → ∃ b r, Lib.decDigits u = b :: r ∧ b.toNat ≠ 48) ∧ (1 ≤ u → ∃ b r, Lib.decDigits u = b :: r ∧ b.toNat ≠ 48) := by
  induction u using Nat.strongRecOn with
  | _ u ih =>
    by_cases h : u < 10
    · rw [dd_small h]
      obtain ⟨h1, h2⟩ := digU h
      refine ⟨fun b hb => by rw [List.mem_singleton] at hb; subst hb; exact h1, by simp, ?_, fun q => by omega, fun q => ⟨_, _, rfl, by rw [h2]; omega⟩⟩
      simp only [Lib.decFrom, dv h1, h2]
      congr 1; omega
    · obtain ⟨k1, k2, k3, k4, k5⟩ := ih (u / 10) (by omega)
      obtain ⟨h1, h2⟩ := digU (show u % 10 < 10 by omega)
      rw [dd_big h]
      have hd : ∃ b r, Lib.decDigits (u / 10) ++ [UInt8.ofNat (48 + u % 10)] = b :: r ∧ b.toNat ≠ 48 := by
        obtain ⟨b, r, e, n⟩ := k5 (by omega)
        exact ⟨b, r ++ [UInt8.ofNat (48 + u % 10)], by rw [e]; rfl, n⟩
      refine ⟨digs_append.2 ⟨k1, fun b hb => by rw [List.mem_singleton] at hb; subst hb; exact h1⟩, by simp, ?_, fun _ => hd, fun _ => hd⟩
      rw [decFrom_snoc k3 h1, h2]
      congr 1; omega
theorem snoc_of {l : List UInt8} (h : l ≠ []) : ∃ a b, l = a ++ [b] := ⟨l.dropLast, l.getLast h, (List.dropLast_concat_getLast h).symm⟩
theorem dd_canon : ∀ (n : Nat) {l : List UInt8} {v : Nat}, l.length = n → digs l → l ≠ [] → (1 < l.length → ∃ b r, l = b :: r ∧ b.toNat ≠ 48) → Lib.decFrom 0 l = some v → Lib.decDigits v = l ∧ ((∃ b r, l = b :: r ∧ b.toNat ≠ 48) → 1 ≤ v)
  | 0, l, v, hn, _, h, _, _ => by
    have : l = [] := List.length_eq_zero_iff.1 hn
    exact absurd this h
  | n + 1, l, v, hn, hd, hne, hc, hv => by
    obtain ⟨a, b, rfl⟩ := snoc_of hne
    rw [digs_append] at hd
    have hb : dig b := hd.2 b (by simp)
    simp only [List.length_append, List.length_cons, List.length_nil] at hn hc
    by_cases ha : a = []
    · subst ha
      simp only [List.nil_append, Lib.decFrom, dv hb, Option.some.injEq] at hv
      have hb1 := hb.1; have hb2 := hb.2
      have hv' : v = b.toNat - 48 := by omega
      refine ⟨?_, fun ⟨c, r, e, hn⟩ => ?_⟩
      · rw [dd_small (by omega), hv']
        simp only [List.nil_append]
        congr 1
        rw [show 48 + (b.toNat - 48) = b.toNat by omega]
        simp
      · simp only [List.nil_append, List.cons.injEq] at e
        obtain ⟨rfl, _⟩ := e
        omega
    · obtain ⟨va, hva, _⟩ := decFrom_digs (l := a) 0 hd.1
      have hpos := List.length_pos_iff.2 ha
      obtain ⟨c, r, e, hcne⟩ := hc (by omega)
      have ha2 : ∃ b r, a = b :: r ∧ b.toNat ≠ 48 := by
        cases a with
        | nil => exact absurd rfl ha
        | cons x xs => simp only [List.cons_append, List.cons.injEq] at e; exact ⟨x, xs, rfl, by rw [e.1]; exact hcne⟩
      obtain ⟨g1, g2⟩ := dd_canon n (by omega) hd.1 ha (fun _ => ha2) hva
      have g2 := g2 ha2
      rw [decFrom_snoc hva hb] at hv
      simp only [Option.some.injEq] at hv
      have hb1 := hb.1; have hb2 := hb.2
      refine ⟨?_, fun _ => by omega⟩
      rw [dd_big (by omega), show v / 10 = va by omega, g1]
      congr 1
      congr 1
      rw [show 48 + v % 10 = b.toNat by omega]
      simp
/-- A numeral without needless zeros, of at most 13 digits. -/
def Num (l : List UInt8) (n : Int) : Prop := l = D n ∧ 0 ≤ n ∧ l.length ≤ 13
theorem D_nat (u : Nat) : D (u : Int) = Lib.decDigits u := Lib.itoa_nonneg u
theorem Num.nat {l : List UInt8} {n : Int} (h : Num l n) : ∃ u : Nat, n = u ∧ l = Lib.decDigits u ∧ u < 10 ^ 13 := by
  obtain ⟨h1, h2, h3⟩ := h
  obtain ⟨u, rfl⟩ : ∃ u : Nat, n = u := ⟨n.toNat, by omega⟩
  rw [D_nat] at h1
  refine ⟨u, rfl, h1, ?_⟩
  have := Lib.lt_pow_nDigits u
  rw [← Lib.decDigits_length, ← h1] at this
  exact Nat.lt_of_lt_of_le this (Nat.pow_le_pow_right (by decide) h3)
theorem Num.digs {l : List UInt8} {n : Int} (h : Num l n) : digs l ∧ l ≠ [] := by
  obtain ⟨u, -, rfl, -⟩ := h.nat
  exact ⟨(dd_spec u).1, (dd_spec u).2.1⟩
/-- What Atoi, the length and Itoa say of digits. -/
theorem atoi_digs {l : List UInt8} (h : Go.Proofs.YtbdndhodggdhkaaDoor.digs l) (hne : l ≠ []) (hl : l.length ≤ 13) : ∃ v : Nat, Lib.decFrom 0 l = some v ∧ v < 10 ^ 13 ∧ f49 l = some ((v : Int), true) := by
  obtain ⟨v, h1, h2⟩ := decFrom_digs (l := l) 0 h
  refine ⟨v, h1, ?_, ?_⟩
  · rw [Nat.zero_add, Nat.one_mul] at h2
    exact Nat.lt_of_lt_of_le h2 (Nat.pow_le_pow_right (by decide) hl)
  · unfold f49
    rw [if_pos (by omega), Lib.atoiAll_short l (by omega)]
    cases l with
    | nil => exact absurd rfl hne
    | cons b r =>
      have hb := h b (by simp)
      have hb1 := hb.1; have hb2 := hb.2
      have n1 : (b == 45) = false := by
        rw [beq_eq_false_iff_ne]; intro q; subst q; revert hb1; decide
      have n2 : (b == 43) = false := by
        rw [beq_eq_false_iff_ne]; intro q; subst q; revert hb1; decide
      simp only [Lib.atoi, n1, n2, Bool.false_eq_true, if_false, Lib.decNat, List.isEmpty_cons, h1, Option.map_some, Lib.NumEnd.ofOption]
end Go.Proofs.YtbdndhodggdhkaaDoor

set_option linter.unusedVariables false
set_option linter.unusedSimpArgs false
namespace Go.Proofs.YtbdndhodggdhkaaDoor
open Go Go.Det Go.RowKit
/-! The runes of a text -/
theorem decN_pos (s : List UInt8) (p : Nat) : 1 ≤ decN s p := by
  unfold decN Utf8.decode
  simp only
  repeat' split
  all_goals simp
theorem dec_asc {s : List UInt8} {p : Nat} {b : UInt8} (h : s[p]? = some b) (hb : b.toNat < 128) : decL s p = (b.toNat : Int) ∧ decN s p = 1 := by
  obtain ⟨hl, e⟩ := List.getElem?_eq_some_iff.1 h
  have h1 : p < (bs s).size := by show p < s.toArray.size; simpa using hl
  have h2 : (bs s)[p]'h1 = b := by rw [← e]; show s.toArray[p]'(by simpa using hl) = _; simp
  have h3 := decode_ascii (bs s) p h1 (by rw [h2]; exact hb)
  unfold decL decN
  rw [h3, h2]
  exact ⟨rfl, rfl⟩
theorem encR_asc {n : Int} (h1 : 0 ≤ n) (h2 : n < 128) : encR n = [UInt8.ofNat n.toNat] := by
  have hv : Utf8.valid n = true := by unfold Utf8.valid; simp; omega
  unfold encR Utf8.encode
  simp only [hv, if_true]
  rw [if_pos (by omega)]
theorem encR_len (n : Int) : (encR n).length ≤ 4 := by
  unfold encR Utf8.encode
  simp only
  repeat' split
  all_goals simp
theorem encR_byte {b : UInt8} (h : b.toNat < 128) : encR (b.toNat : Int) = [b] := by
  rw [encR_asc (by omega) (by omega), Int.toNat_natCast]
  simp
theorem apd_ok {α : Type} {m : Nat} {a b : List α} (h : (a.length + b.length) * m ≤ 140737488355328) : apd m a b = some (a ++ b) := if_pos h
/-! Marks and parts -/
def Good (q : List UInt8) : Prop := digs q ∧ q ≠ [] ∧ q.length ≤ 200
theorem digs_one {n : Int} (h1 : 48 ≤ n) (h2 : n ≤ 57) : digs (encR n) ∧ (encR n).length = 1 := by
  rw [encR_asc (by omega) (by omega)]
  refine ⟨fun b hb => ?_, rfl⟩
  rw [List.mem_singleton] at hb
  subst hb
  have := digU (d := n.toNat - 48) (by omega)
  rw [show 48 + (n.toNat - 48) = n.toNat by omega] at this
  exact this.1
set_option maxRecDepth 20000 in
theorem f48_tot {x0 : List UInt8} (hx : x0.length ≤ 100) : ∀ (n : Nat) (t p : Nat) (l : List (List UInt8)) (m cur : List UInt8), t ≤ p → t ≤ x0.length → x0.length < n + t → l.length ≤ t → m.length ≤ 4 * t → cur.length ≤ t → (∀ q ∈ l, Good q) → digs cur →
    ∃ l' m' c', f48_l1 x0 n l m cur p = some (l', m', c') ∧ (∀ q ∈ l', Good q) ∧ l'.length ≤ 100 ∧ digs c' ∧ c'.length ≤ 100
  | 0, t, p, l, m, cur, h1, h2, h3, _, _, _, _, _ => by omega
  | n + 1, t, p, l, m, cur, h1, h2, h3, h4, h5, h6, h7, h8 => by
    rw [f48_l1]
    by_cases hp : p < x0.length
    · rw [if_pos hp]
      have hN := decN_pos x0 p
      have fin (d : List UInt8) (l2 : List (List UInt8)) (hl2 : l2.length ≤ t + 1) (hg : ∀ q ∈ l2, Good q) : ∃ l' m' c', ((scat m (encR (decL x0 p))).bind fun s33 => f48_l1 x0 n l2 s33 ([] : List UInt8) (p + decN x0 p)) = some (l', m', c') ∧ (∀ q ∈ l', Good q) ∧ l'.length ≤ 100 ∧ digs c' ∧ c'.length ≤ 100 := by
        have he := encR_len (decL x0 p)
        rw [scat_ok (by omega)]
        simp only [Option.bind_some]
        exact f48_tot hx n (t + 1) (p + decN x0 p) l2 _ _ (by omega) (by omega) (by omega) hl2 (by rw [List.length_append]; omega) (by simp) hg (fun b hb => by cases hb)
      have mid : ∃ l' m' c', ((if cur = ([] : List UInt8) then (some (Sum.inr (l, cur)) : Option ((List (List UInt8) × List UInt8 × List UInt8 × Nat) ⊕ (List (List UInt8) × List UInt8))) else (apd 16 l ([cur] : List (List UInt8))).bind fun l29 => some (Sum.inr (l29, ([] : List UInt8)))).bind fun s => match s with
        | .inl st => f48_l1 x0 n st.1 st.2.1 st.2.2.1 st.2.2.2
        | .inr (l0_7, x4_7) =>
          (scat m (encR (decL x0 p))).bind fun s33 =>
          f48_l1 x0 n l0_7 s33 x4_7 (p + decN x0 p)) = some (l', m', c') ∧ (∀ q ∈ l', Good q) ∧ l'.length ≤ 100 ∧ digs c' ∧ c'.length ≤ 100 := by
        by_cases hc : cur = []
        · rw [if_pos hc]; subst hc
          simp only [Option.bind_some]
          exact fin m l (by omega) h7
        · rw [if_neg hc, apd_ok (by simp; omega)]
          simp only [Option.bind_some]
          refine fin m _ (by simp; omega) fun q hq => ?_
          rcases List.mem_append.1 hq with hq | hq
          · exact h7 q hq
          · rw [List.mem_singleton] at hq; subst hq; exact ⟨h8, hc, by omega⟩
      by_cases hd : decL x0 p ≥ 48
      · rw [if_pos hd]
        by_cases hd2 : decL x0 p ≤ 57
        · obtain ⟨e1, e2⟩ := digs_one hd hd2
          rw [if_pos hd2, scat_ok (by omega)]
          simp only [Option.bind_some]
          exact f48_tot hx n (t + 1) (p + decN x0 p) l m _ (by omega) (by omega) (by omega) (by omega) (by omega) (by rw [List.length_append]; omega) h7 (digs_append.2 ⟨h8, e1⟩)
        · rw [if_neg hd2]; exact mid
      · rw [if_neg hd]; exact mid
    · rw [if_neg hp]
      exact ⟨l, m, cur, rfl, h7, by omega, h8, by omega⟩
theorem f48_all {x0 : List UInt8} (hx : x0.length ≤ 100) {k : Nat} (hk : 101 ≤ k) : ∃ m ps, f48 k x0 = some (m, ps) ∧ (∀ q ∈ ps, Good q) ∧ ps.length ≤ 101 := by
  obtain ⟨l, m, c, h1, h2, h3, h4, h5⟩ := f48_tot hx k 0 0 [] [] [] (by omega) (by omega) (by omega) (by simp) (by simp) (by simp) (fun q hq => by cases hq) (fun b hb => by cases hb)
  unfold f48
  rw [h1, Option.bind_some]
  by_cases hc : c = []
  · simp only [if_pos hc, Option.bind_some]
    exact ⟨m, l, rfl, h2, by omega⟩
  · simp only [if_neg hc]
    rw [apd_ok (by simp; omega)]
    refine ⟨m, l ++ [c], rfl, fun q hq => ?_, by simp; omega⟩
    rcases List.mem_append.1 hq with hq | hq
    · exact h2 q hq
    · rw [List.mem_singleton] at hq; subst hq; exact ⟨h4, hc, by omega⟩
/-- Digits are put to the part. -/
theorem f48_digs {x0 post : List UInt8} : ∀ (d pre : List UInt8) (n : Nat) (l : List (List UInt8)) (m cur : List UInt8), x0 = pre ++ d ++ post → digs d → cur.length + d.length ≤ 1000 → f48_l1 x0 (n + d.length) l m cur pre.length = f48_l1 x0 n l m (cur ++ d) (pre ++ d).length
  | [], pre, n, l, m, cur, _, _, _ => by simp
  | b :: d, pre, n, l, m, cur, hx, hd, hc => by
    have hb := hd b (by simp)
    have hb1 := hb.1; have hb2 := hb.2
    have hg : x0[pre.length]? = some b := by rw [hx]; simp
    obtain ⟨e1, e2⟩ := dec_asc hg (by omega)
    simp only [List.length_cons] at hc
    rw [show n + (b :: d).length = (n + d.length) + 1 from rfl, f48_l1, if_pos (by rw [hx]; simp), e1, if_pos (by omega), if_pos (by omega), encR_byte (by omega), scat_ok (by simp; omega), e2]
    simp only [Option.bind_some]
    have := f48_digs (x0 := x0) (post := post) d (pre ++ [b]) n l m (cur ++ [b]) (by rw [hx]; simp) (fun x hx => hd x (by simp [hx])) (by simp; omega)
    simp only [List.length_append, List.length_cons, List.length_nil, List.append_assoc, List.cons_append, List.nil_append] at this ⊢
    exact this
/-- A mark ends a part. -/
theorem f48_mark {x0 pre post : List UInt8} {b : UInt8} (n : Nat) (l : List (List UInt8)) (m cur : List UInt8) (hx : x0 = pre ++ b :: post) (hb : ¬ dig b) (h7 : b.toNat < 128) (hl : l.length ≤ 1000) (hm : m.length ≤ 1000) :
    f48_l1 x0 (n + 1) l m cur pre.length = f48_l1 x0 n (if cur = [] then l else l ++ [cur]) (m ++ [b]) [] (pre.length + 1) := by
  have hg : x0[pre.length]? = some b := by rw [hx]; simp
  obtain ⟨e1, e2⟩ := dec_asc hg h7
  have hs : (scat m (encR (b.toNat : Int))) = some (m ++ [b]) := by rw [encR_byte h7, scat_ok (by simp; omega)]
  rw [f48_l1, if_pos (by rw [hx]; simp), e1, e2, hs]
  have hnd : ¬ (48 ≤ b.toNat ∧ b.toNat ≤ 57) := hb
  by_cases hc : cur = []
  · subst hc
    by_cases h1 : (b.toNat : Int) ≥ 48
    · rw [if_pos h1, if_neg (by omega), if_pos rfl]; rfl
    · rw [if_neg h1, if_pos rfl]; rfl
  · by_cases h1 : (b.toNat : Int) ≥ 48
    · rw [if_pos h1, if_neg (by omega), if_neg hc, if_neg hc, apd_ok (by simp; omega)]; rfl
    · rw [if_neg h1, if_neg hc, if_neg hc, apd_ok (by simp; omega)]; rfl
theorem f48_end {x0 : List UInt8} (n : Nat) (l : List (List UInt8)) (m cur : List UInt8) (p : Nat) (h : x0.length ≤ p) : f48_l1 x0 (n + 1) l m cur p = some (l, m, cur) := by
  rw [f48_l1, if_neg (by omega)]
/-! Values of parts -/
def val (q : List UInt8) : Int := (((Lib.decFrom 0 q).getD 0 : Nat) : Int)
def NS (q : List UInt8) : Prop := digs q ∧ q ≠ [] ∧ q.length ≤ 13 ∧ D (val q) = q
def zc : CallT := CallT.mk 0 0 0 0
def fin (c : CallT) : CallT × Int := if chk c = 0 then (c, 0) else (zc, chk c)
theorem val_bd {q : List UInt8} (h : NS q) : 0 ≤ val q ∧ val q < 10 ^ 13 := by
  obtain ⟨v, h1, h2, -⟩ := atoi_digs h.1 h.2.1 h.2.2.1
  unfold val
  rw [h1]
  exact ⟨Int.natCast_nonneg v, by show (v : Int) < 10 ^ 13; omega⟩
theorem f17_one {q : List UInt8} (h : Good q) : (NS q ∧ f49 q = some (val q, true) ∧ ¬ (q.length : Int) > 13 ∧ f50 (val q) = some (D (val q)) ∧ D (val q) = q) ∨ (¬ NS q ∧ ∃ v b, f49 q = some (v, b) ∧ (b = true → ¬ (q.length : Int) > 13 → ∃ w, f50 v = some w ∧ w ≠ q)) := by
  by_cases hl : q.length ≤ 13
  · obtain ⟨v, h1, h2, h3⟩ := atoi_digs h.1 h.2.1 hl
    have hv : val q = v := by unfold val; rw [h1]; rfl
    have h50 : f50 (v : Int) = some (D (v : Int)) := f50_eq (by omega) (by omega)
    by_cases hn : D (v : Int) = q
    · exact .inl ⟨⟨h.1, h.2.1, hl, by rw [hv]; exact hn⟩, by rw [hv]; exact h3, by omega, by rw [hv]; exact h50, by rw [hv]; exact hn⟩
    · exact .inr ⟨fun hq => hn (by rw [← hv]; exact hq.2.2.2), v, true, h3, fun _ _ => ⟨_, h50, hn⟩⟩
  · refine .inr ⟨fun hq => hl hq.2.2.1, ?_⟩
    unfold f49
    have h200 := h.2.2
    rw [if_pos (by omega)]
    exact ⟨_, _, rfl, fun _ q => absurd q (by simp; omega)⟩
theorem f17_l1_eq {ps : List (List UInt8)} (hps : ps.length ≤ 101) : ∀ (rest pre : List (List UInt8)) (n : Nat) (vals : List Int), ps = pre ++ rest → rest.length < n → (∀ q ∈ rest, Good q) → vals.length ≤ pre.length →
    ((∀ q ∈ rest, NS q) ∧ f17_l1 ps n vals (pre.length : Int) = some (.inl (vals ++ rest.map val))) ∨ ((¬ ∀ q ∈ rest, NS q) ∧ f17_l1 ps n vals (pre.length : Int) = some (.inr (zc, 3)))
  | [], pre, n, vals, h1, h2, h3, h4 => by
    obtain ⟨n, rfl⟩ : ∃ m, n = m + 1 := ⟨n - 1, by simp at h2; omega⟩
    refine .inl ⟨fun q hq => (by cases hq), ?_⟩
    rw [f17_l1, decide_eq_false (by rw [h1]; simp)]
    simp
  | q :: rest, pre, n, vals, h1, h2, h3, h4 => by
    simp only [List.length_cons] at h2
    obtain ⟨n, rfl⟩ : ∃ m, n = m + 1 := ⟨n - 1, by omega⟩
    have hp : pre.length + rest.length + 1 = ps.length := by rw [h1]; simp; omega
    have hr : rd ps (pre.length : Int) = some q := by rw [rd_nat, h1]; simp
    rw [f17_l1, decide_eq_true (by omega)]
    simp only [Option.bind_some, if_true, hr]
    rcases f17_one (h3 q (by simp)) with ⟨g1, g2, g3, g4, g5⟩ | ⟨g1, v, b, g2, g3⟩
    · rw [g2]
      simp only [Option.bind_some, if_true, if_neg g3, g4, if_pos g5]
      rw [apd_ok (by simp; omega)]
      simp only [Option.bind_some]
      have hw : IntKind.i64.wrap ((pre.length : Int) + 1) = ((pre ++ [q]).length : Int) := by rw [w64 (by omega) (by omega)]; simp
      rw [hw]
      rcases f17_l1_eq hps rest (pre ++ [q]) n (vals ++ [val q]) (by rw [h1]; simp) (by omega) (fun x hx => h3 x (by simp [hx])) (by simp; omega) with ⟨k1, k2⟩ | ⟨k1, k2⟩
      · left
        refine ⟨fun x hx => ?_, by rw [k2]; simp⟩
        rcases List.mem_cons.1 hx with rfl | hx
        · exact g1
        · exact k1 x hx
      · right
        exact ⟨fun hq => k1 fun x hx => hq x (by simp [hx]), k2⟩
    · right
      refine ⟨fun hq => g1 (hq q (by simp)), ?_⟩
      rw [g2]
      simp only [Option.bind_some]
      cases b with
      | false => simp [zc]
      | true =>
        by_cases hl : (q.length : Int) > 13
        · simp [hl, zc]
        · obtain ⟨w, w1, w2⟩ := g3 rfl hl
          simp only [if_true, if_neg hl, w1, Option.bind_some, if_neg w2, zc]
end Go.Proofs.YtbdndhodggdhkaaDoor

set_option linter.unusedVariables false
set_option linter.unusedSimpArgs false
namespace Go.Proofs.YtbdndhodggdhkaaDoor
open Go Go.Det Go.RowKit
/-- The texts of calls. -/
def TX (s : List UInt8) (c : CallT) : Prop :=
  (∃ a b e, NS a ∧ NS b ∧ NS e ∧ s = 99 :: (a ++ 58 :: (b ++ 64 :: e)) ∧ c = CallT.mk 3 (val b) (val a) (val e)) ∨
  (∃ t b e, NS b ∧ NS e ∧ (t = 117 ∨ t = 100) ∧ s = t :: (b ++ 64 :: e) ∧ c = CallT.mk (if t = 117 then 1 else 2) (val b) 0 (val e))
theorem sc {a b : List UInt8} (h : a.length + b.length ≤ 9223372036854775807) : scat a b = some (a ++ b) := if_pos h
theorem rd_0 {α : Type} {a : α} {l : List α} : rd (a :: l) 0 = some a := rfl
theorem rd_1 {α : Type} {a b : α} {l : List α} : rd (a :: b :: l) 1 = some b := rfl
theorem rd_2 {α : Type} {a b c : α} {l : List α} : rd (a :: b :: c :: l) 2 = some c := rfl
/-- What f17 does with marks, parts and values. -/
def build (m : List UInt8) (ps : List (List UInt8)) : Int × Int × Int × Int × List UInt8 :=
  if m = [99, 58, 64] then
    match ps with
    | [a, b, e] => (3, val b, val a, val e, 99 :: (a ++ 58 :: (b ++ 64 :: e)))
    | _ => (0, 0, 0, 0, [])
  else if m = [117, 64] then
    match ps with
    | [b, e] => (1, val b, 0, val e, 117 :: (b ++ 64 :: e))
    | _ => (0, 0, 0, 0, [])
  else if m = [100, 64] then
    match ps with
    | [b, e] => (2, val b, 0, val e, 100 :: (b ++ 64 :: e))
    | _ => (0, 0, 0, 0, [])
  else (0, 0, 0, 0, [])
theorem len3 {α : Type} {l : List α} : ((l.length : Int) = 3 → ∃ a b c, l = [a, b, c]) := by
  intro h
  match l, h with
  | [a, b, c], _ => exact ⟨a, b, c, rfl⟩
  | [], h => simp at h
  | [_], h => simp at h
  | [_, _], h => simp at h
  | _ :: _ :: _ :: _ :: l, h => simp only [List.length_cons] at h; omega
theorem len2 {α : Type} {l : List α} : ((l.length : Int) = 2 → ∃ a b, l = [a, b]) := by
  intro h
  match l, h with
  | [a, b], _ => exact ⟨a, b, rfl⟩
  | [], h => simp at h
  | [_], h => simp at h
  | _ :: _ :: _ :: l, h => simp only [List.length_cons] at h; omega
def tail17 (x0 : List UInt8) (v : Int × Int × Int × Int × List UInt8) : CallT × Int :=
  if v.2.2.2.2 = [] then (zc, 3) else if v.2.2.2.2 = x0 then fin (CallT.mk v.1 v.2.1 v.2.2.1 v.2.2.2.1) else (zc, 3)
theorem fin_eq (c : CallT) : ((f27 c).bind fun t124 => if t124 = 0 then some (c, (0 : Int)) else some ((CallT.mk 0 0 0 0), t124)) = some (fin c) := by
  rw [f27_eq, Option.bind_some]
  unfold fin
  by_cases h : chk c = 0
  · rw [if_pos h, if_pos h]
  · rw [if_neg h, if_neg h]; rfl
theorem fin_eq' (c : CallT) : ((f31 c).bind fun t124 => if t124 = 0 then some (c, (0 : Int)) else some ((CallT.mk 0 0 0 0), t124)) = some (fin c) := by
  rw [f31_eq, Option.bind_some]
  unfold fin
  by_cases h : chk c = 0
  · rw [if_pos h, if_pos h]
  · rw [if_neg h, if_neg h]; rfl
theorem tail_eq (x0 : List UInt8) (a b c d : Int) (x : List UInt8) : (if x = ([] : List UInt8) then
          some ((CallT.mk 0 0 0 0), (3 : Int))
        else
          if x = x0 then
            (f27 (CallT.mk a b c d)).bind fun t124 =>
            if t124 = 0 then
              some ((CallT.mk a b c d), 0)
            else
              some ((CallT.mk 0 0 0 0), t124)
          else
            some ((CallT.mk 0 0 0 0), 3)) = some (tail17 x0 (a, b, c, d, x)) := by
  unfold tail17
  by_cases h1 : x = []
  · rw [if_pos h1]; simp only [if_pos h1]; rfl
  · rw [if_neg h1]; simp only [if_neg h1]
    by_cases h2 : x = x0
    · rw [if_pos h2]; simp only [if_pos h2]; exact fin_eq _
    · rw [if_neg h2]; simp only [if_neg h2]; rfl
theorem f17_at {k : Nat} {x0 m : List UInt8} {ps : List (List UInt8)} (h48 : f48 k x0 = some (m, ps)) (hg : ∀ q ∈ ps, Good q) (hl : ps.length ≤ 101) (hk : 102 ≤ k) :
    ((∀ q ∈ ps, NS q) ∧ f17 k x0 = some (tail17 x0 (build m ps))) ∨ ((¬ ∀ q ∈ ps, NS q) ∧ f17 k x0 = some (zc, 3)) := by
  rcases f17_l1_eq hl ps [] k [] (by simp) (by omega) hg (by simp) with ⟨g1, g2⟩ | ⟨g1, g2⟩
  · left
    refine ⟨g1, ?_⟩
    unfold f17
    rw [h48]
    simp only [Option.bind_some]
    rw [show f17_l1 ps k [] 0 = _ from g2]
    simp only [Option.bind_some, List.nil_append]
    have L : ∀ q ∈ ps, q.length ≤ 13 := fun q hq => (g1 q hq).2.2.1
    unfold build
    by_cases m1 : m = [99, 58, 64]
    · subst m1
      rw [if_pos rfl, if_pos rfl]
      by_cases hn : ((ps.map val).length : Int) = 3
      · obtain ⟨a, b, e, rfl⟩ := len3 (l := ps) (by simpa using hn)
        have l1 := L a (by simp); have l2 := L b (by simp); have l3 := L e (by simp)
        rw [if_pos hn]
        simp only [List.map_cons, List.map_nil, rd_0, rd_1, rd_2, Option.bind_some]
        rw [sc (by simp; omega), Option.bind_some, sc (by simp; omega), Option.bind_some, sc (by simp; omega), Option.bind_some, sc (by simp; omega), Option.bind_some, sc (by simp; omega), Option.bind_some, Option.bind_some]
        simp only [List.cons_append, List.nil_append, List.append_assoc]
        exact tail_eq x0 _ _ _ _ _
      · rw [if_neg hn, if_neg (by decide), if_neg (by decide), Option.bind_some]
        have : ∀ (X : Int × Int × Int × Int × List UInt8), (match ps with | [a, b, e] => (3, val b, val a, val e, 99 :: (a ++ 58 :: (b ++ 64 :: e))) | _ => ((0, 0, 0, 0, []) : Int × Int × Int × Int × List UInt8)) = (0, 0, 0, 0, []) := by
          intro _
          split
          · simp at hn
          · rfl
        rw [this (0, 0, 0, 0, [])]
        exact tail_eq x0 _ _ _ _ _
    rw [if_neg m1, if_neg m1]
    by_cases m2 : m = [117, 64]
    · subst m2
      rw [if_pos rfl, if_pos rfl]
      by_cases hn : ((ps.map val).length : Int) = 2
      · obtain ⟨b, e, rfl⟩ := len2 (l := ps) (by simpa using hn)
        have l2 := L b (by simp); have l3 := L e (by simp)
        rw [if_pos hn]
        simp only [List.map_cons, List.map_nil, rd_0, rd_1, rd_2, Option.bind_some]
        rw [if_neg (by decide), Option.bind_some, show sub [117, 64] 0 1 = some [117] from rfl, Option.bind_some, sc (by simp; omega), Option.bind_some, sc (by simp; omega), Option.bind_some, sc (by simp; omega), Option.bind_some, Option.bind_some]
        simp only [List.cons_append, List.nil_append, List.append_assoc]
        exact tail_eq x0 _ _ _ _ _
      · rw [if_neg hn, Option.bind_some]
        have : ∀ (X : Int × Int × Int × Int × List UInt8), (match ps with | [b, e] => (1, val b, 0, val e, 117 :: (b ++ 64 :: e)) | _ => ((0, 0, 0, 0, []) : Int × Int × Int × Int × List UInt8)) = (0, 0, 0, 0, []) := by
          intro _
          split
          · simp at hn
          · rfl
        rw [this (0, 0, 0, 0, [])]
        exact tail_eq x0 _ _ _ _ _
    rw [if_neg m2, if_neg m2]
    by_cases m3 : m = [100, 64]
    · subst m3
      rw [if_pos rfl, if_pos rfl]
      by_cases hn : ((ps.map val).length : Int) = 2
      · obtain ⟨b, e, rfl⟩ := len2 (l := ps) (by simpa using hn)
        have l2 := L b (by simp); have l3 := L e (by simp)
        rw [if_pos hn]
        simp only [List.map_cons, List.map_nil, rd_0, rd_1, rd_2, Option.bind_some]
        rw [if_pos (by decide), Option.bind_some, show sub [100, 64] 0 1 = some [100] from rfl, Option.bind_some, sc (by simp; omega), Option.bind_some, sc (by simp; omega), Option.bind_some, sc (by simp; omega), Option.bind_some, Option.bind_some]
        simp only [List.cons_append, List.nil_append, List.append_assoc]
        exact tail_eq x0 _ _ _ _ _
      · rw [if_neg hn, Option.bind_some]
        have : ∀ (X : Int × Int × Int × Int × List UInt8), (match ps with | [b, e] => (2, val b, 0, val e, 100 :: (b ++ 64 :: e)) | _ => ((0, 0, 0, 0, []) : Int × Int × Int × Int × List UInt8)) = (0, 0, 0, 0, []) := by
          intro _
          split
          · simp at hn
          · rfl
        rw [this (0, 0, 0, 0, [])]
        exact tail_eq x0 _ _ _ _ _
    rw [if_neg m3, if_neg m3, Option.bind_some]
    exact tail_eq x0 _ _ _ _ _
  · right
    refine ⟨g1, ?_⟩
    unfold f17
    rw [h48]
    simp only [Option.bind_some]
    rw [show f17_l1 ps k [] 0 = _ from g2]
    rfl
theorem f17_cases {k : Nat} {x0 : List UInt8} (hx : x0.length ≤ 100) (hk : 102 ≤ k) : f17 k x0 = some (zc, 3) ∨ ∃ c, TX x0 c ∧ f17 k x0 = some (fin c) := by
  obtain ⟨m, ps, h1, h2, h3⟩ := f48_all hx (k := k) (by omega)
  rcases f17_at h1 h2 h3 hk with ⟨g1, g2⟩ | ⟨-, g2⟩
  · rw [g2]
    unfold build tail17
    have none' : some (if ((0, 0, 0, 0, []) : Int × Int × Int × Int × List UInt8).2.2.2.2 = [] then (zc, (3 : Int)) else if ((0, 0, 0, 0, []) : Int × Int × Int × Int × List UInt8).2.2.2.2 = x0 then fin (CallT.mk 0 0 0 0) else (zc, 3)) = some (zc, 3) := rfl
    by_cases m1 : m = [99, 58, 64]
    · rw [if_pos m1]
      split
      · rename_i a b e
        simp only
        rw [if_neg (by simp)]
        by_cases he : 99 :: (a ++ 58 :: (b ++ 64 :: e)) = x0
        · rw [if_pos he]
          exact .inr ⟨_, .inl ⟨a, b, e, g1 a (by simp), g1 b (by simp), g1 e (by simp), he.symm, rfl⟩, rfl⟩
        · rw [if_neg he]; exact .inl rfl
      · exact .inl rfl
    rw [if_neg m1]
    by_cases m2 : m = [117, 64]
    · rw [if_pos m2]
      split
      · rename_i b e
        simp only
        rw [if_neg (by simp)]
        by_cases he : 117 :: (b ++ 64 :: e) = x0
        · rw [if_pos he]
          exact .inr ⟨_, .inr ⟨117, b, e, g1 b (by simp), g1 e (by simp), .inl rfl, he.symm, rfl⟩, rfl⟩
        · rw [if_neg he]; exact .inl rfl
      · exact .inl rfl
    rw [if_neg m2]
    by_cases m3 : m = [100, 64]
    · rw [if_pos m3]
      split
      · rename_i b e
        simp only
        rw [if_neg (by simp)]
        by_cases he : 100 :: (b ++ 64 :: e) = x0
        · rw [if_pos he]
          exact .inr ⟨_, .inr ⟨100, b, e, g1 b (by simp), g1 e (by simp), .inr rfl, he.symm, rfl⟩, rfl⟩
        · rw [if_neg he]; exact .inl rfl
      · exact .inl rfl
    rw [if_neg m3]
    exact .inl rfl
  · exact .inl g2
theorem NS.good {q : List UInt8} (h : NS q) : Good q := ⟨h.1, h.2.1, by have := h.2.2.1; omega⟩
theorem nd {b : UInt8} (h : b.toNat < 48 ∨ 57 < b.toNat) : ¬ dig b := fun q => by have := q.1; have := q.2; omega
theorem f48_digs' {x0 post pre d : List UInt8} {n N p : Nat} (p' : Nat) {l : List (List UInt8)} {m cur : List UInt8} (cur' : List UInt8) (hx : x0 = pre ++ d ++ post) (hd : digs d) (hc : cur.length + d.length ≤ 1000) (hN : N = n + d.length) (hp : p = pre.length) (hp' : p' = p + d.length) (hcur : cur' = cur ++ d) : f48_l1 x0 N l m cur p = f48_l1 x0 n l m cur' p' := by
  subst hN hp hp' hcur
  rw [f48_digs d pre n l m cur hx hd hc, List.length_append]
theorem f48_mark' {x0 pre post : List UInt8} {b : UInt8} {n N p : Nat} (p' : Nat) {l : List (List UInt8)} (l' : List (List UInt8)) {m cur : List UInt8} (m' : List UInt8) (hx : x0 = pre ++ b :: post) (hb : ¬ dig b) (h7 : b.toNat < 128) (hl : l.length ≤ 1000) (hm : m.length ≤ 1000) (hN : N = n + 1) (hp : p = pre.length) (hp' : p' = p + 1) (hl' : l' = if cur = [] then l else l ++ [cur]) (hm' : m' = m ++ [b]) :
    f48_l1 x0 N l m cur p = f48_l1 x0 n l' m' [] p' := by
  subst hN hp hp' hl' hm'
  exact f48_mark n l m cur hx hb h7 hl hm
theorem f48_two {k : Nat} {t : UInt8} {b e : List UInt8} (ht : t = 117 ∨ t = 100) (hb : NS b) (he : NS e) (hk : 102 ≤ k) : f48 k (t :: (b ++ 64 :: e)) = some ([t, 64], [b, e]) := by
  have l1 := hb.2.2.1; have l2 := he.2.2.1
  have htd : ¬ dig t ∧ t.toNat < 128 := by rcases ht with rfl | rfl <;> exact ⟨nd (by decide), by decide⟩
  unfold f48
  rw [f48_mark' (x0 := t :: (b ++ 64 :: e)) (pre := []) (post := b ++ 64 :: e) (b := t) (n := k - 1) 1 [] [t] rfl htd.1 htd.2 (by simp) (by simp) (by omega) (by rfl) (by rfl) (by rfl) (by rfl),
    f48_digs' (pre := [t]) (d := b) (post := 64 :: e) (n := k - 1 - b.length) (1 + b.length) b (by simp) hb.1 (by simp; omega) (by omega) (by rfl) (by rfl) (by simp),
    f48_mark' (pre := t :: b) (post := e) (b := 64) (n := k - 2 - b.length) (2 + b.length) [b] [t, 64] (by simp) (nd (by decide)) (by decide) (by simp) (by simp) (by omega) (by simp; omega) (by omega) (by rw [if_neg hb.2.1]; rfl) (by rfl),
    f48_digs' (pre := t :: b ++ [64]) (d := e) (post := []) (n := k - 2 - b.length - e.length - 1 + 1) (2 + b.length + e.length) e (by simp) he.1 (by simp; omega) (by omega) (by simp; omega) (by rfl) (by simp),
    f48_end _ _ _ _ _ (by simp; omega)]
  simp only [Option.bind_some, if_neg he.2.1]
  rw [apd_ok (by simp)]
  rfl
theorem f48_three {k : Nat} {a b e : List UInt8} (ha : NS a) (hb : NS b) (he : NS e) (hk : 102 ≤ k) : f48 k (99 :: (a ++ 58 :: (b ++ 64 :: e))) = some ([99, 58, 64], [a, b, e]) := by
  have l0 := ha.2.2.1; have l1 := hb.2.2.1; have l2 := he.2.2.1
  unfold f48
  rw [f48_mark' (x0 := 99 :: (a ++ 58 :: (b ++ 64 :: e))) (pre := []) (post := a ++ 58 :: (b ++ 64 :: e)) (b := 99) (n := k - 1) 1 [] [99] rfl (nd (by decide)) (by decide) (by simp) (by simp) (by omega) (by rfl) (by rfl) (by rfl) (by rfl),
    f48_digs' (pre := [99]) (d := a) (post := 58 :: (b ++ 64 :: e)) (n := k - 1 - a.length) (1 + a.length) a (by simp) ha.1 (by simp; omega) (by omega) (by rfl) (by rfl) (by simp),
    f48_mark' (pre := 99 :: a) (post := b ++ 64 :: e) (b := 58) (n := k - 2 - a.length) (2 + a.length) [a] [99, 58] (by simp) (nd (by decide)) (by decide) (by simp) (by simp) (by omega) (by simp; omega) (by omega) (by rw [if_neg ha.2.1]; rfl) (by rfl),
    f48_digs' (pre := 99 :: a ++ [58]) (d := b) (post := 64 :: e) (n := k - 2 - a.length - b.length) (2 + a.length + b.length) b (by simp) hb.1 (by simp; omega) (by omega) (by simp; omega) (by rfl) (by simp),
    f48_mark' (pre := 99 :: a ++ 58 :: b) (post := e) (b := 64) (n := k - 3 - a.length - b.length) (3 + a.length + b.length) [a, b] [99, 58, 64] (by simp) (nd (by decide)) (by decide) (by simp) (by simp) (by omega) (by simp; omega) (by omega) (by rw [if_neg hb.2.1]; rfl) (by rfl),
    f48_digs' (pre := 99 :: a ++ 58 :: b ++ [64]) (d := e) (post := []) (n := k - 3 - a.length - b.length - e.length - 1 + 1) (3 + a.length + b.length + e.length) e (by simp) he.1 (by simp; omega) (by omega) (by simp; omega) (by rfl) (by simp),
    f48_end _ _ _ _ _ (by simp; omega)]
  simp only [Option.bind_some, if_neg he.2.1]
  rw [apd_ok (by simp)]
  rfl
theorem f17_good {k : Nat} {x0 : List UInt8} {c : CallT} (h : TX x0 c) (hk : 102 ≤ k) : f17 k x0 = some (fin c) := by
  rcases h with ⟨a, b, e, ha, hb, he, rfl, rfl⟩ | ⟨t, b, e, hb, he, ht, rfl, rfl⟩
  · have hall : ∀ q ∈ [a, b, e], NS q := fun q hq => by
      simp only [List.mem_cons, List.not_mem_nil, or_false] at hq
      rcases hq with rfl | rfl | rfl <;> assumption
    rcases f17_at (f48_three ha hb he hk) (fun q hq => (hall q hq).good) (by simp) hk with ⟨-, g⟩ | ⟨g, -⟩
    · rw [g]
      unfold build tail17
      rw [if_pos rfl]
      simp only
      rw [if_neg (by simp)]
      simp only [if_true]
    · exact absurd hall g
  · have hall : ∀ q ∈ [b, e], NS q := fun q hq => by
      simp only [List.mem_cons, List.not_mem_nil, or_false] at hq
      rcases hq with rfl | rfl <;> assumption
    rcases f17_at (f48_two ht hb he hk) (fun q hq => (hall q hq).good) (by simp) hk with ⟨-, g⟩ | ⟨g, -⟩
    · rw [g]
      rcases ht with rfl | rfl
      · rw [show build [117, 64] [b, e] = (1, val b, 0, val e, 117 :: (b ++ 64 :: e)) from rfl]
        unfold tail17
        simp only
        rw [if_neg (by simp)]
        simp only [if_true]
      · rw [show build [100, 64] [b, e] = (2, val b, 0, val e, 100 :: (b ++ 64 :: e)) from rfl]
        unfold tail17
        simp only
        rw [if_neg (by simp)]
        simp only [if_true]
        rw [if_neg (show ¬ (100 : UInt8) = 117 by decide)]
    · exact absurd hall g
end Go.Proofs.YtbdndhodggdhkaaDoor

set_option linter.unusedVariables false
set_option linter.unusedSimpArgs false
namespace Go.Proofs.YtbdndhodggdhkaaDoor
open Go Go.Det Go.RowKit
theorem nD_le : ∀ (k u : Nat), u < 10 ^ (k + 1) → Lib.nDigits u ≤ k + 1
  | 0, u, h => by rw [Lib.nDigits_small (by omega)]; omega
  | k + 1, u, h => by
    by_cases hs : u < 10
    · rw [Lib.nDigits_small hs]; omega
    · rw [Lib.nDigits_big hs]
      have := nD_le k (u / 10) (by rw [Nat.pow_succ] at h; omega)
      omega
theorem NS_D {n : Int} (h1 : 0 ≤ n) (h2 : n < 10 ^ 13) : NS (D n) ∧ val (D n) = n := by
  obtain ⟨u, rfl⟩ : ∃ u : Nat, n = u := ⟨n.toNat, by omega⟩
  have hv : val (D (u : Int)) = u := by unfold val; rw [D_nat, (dd_spec u).2.2.1]; rfl
  refine ⟨⟨by rw [D_nat]; exact (dd_spec u).1, by rw [D_nat]; exact (dd_spec u).2.1, ?_, by rw [hv]⟩, hv⟩
  rw [D_nat, Lib.decDigits_length]
  exact nD_le 12 u (by omega)
theorem TX_txt {c : CallT} (h : chk c = 0) : TX (txt c).1 c ∧ (txt c).2 = 0 := by
  obtain ⟨g1, g2, g3, g4, g5, g6, g7, g8⟩ := chk0 h
  obtain ⟨k, f, r, a⟩ := c
  simp only at *
  unfold txt
  rw [if_pos h]
  refine ⟨?_, rfl⟩
  obtain ⟨n1, v1⟩ := NS_D (n := f) (by omega) (by omega)
  obtain ⟨n2, v2⟩ := NS_D (n := a) (by omega) (by omega)
  simp only
  by_cases hk : k = 3
  · subst hk
    obtain ⟨n3, v3⟩ := NS_D (n := r) (by have := g7 rfl; omega) (by have := g7 rfl; omega)
    exact .inl ⟨D r, D f, D a, n3, n1, n2, by simp, by rw [v1, v2, v3]⟩
  · have hr := g8 hk
    subst hr
    rw [if_neg hk]
    by_cases h1 : k = 1
    · subst h1
      exact .inr ⟨117, D f, D a, n1, n2, .inl rfl, by simp, by rw [v1, v2]; rfl⟩
    · have : k = 2 := by omega
      subst this
      exact .inr ⟨100, D f, D a, n1, n2, .inr rfl, by simp, by rw [v1, v2]; rfl⟩
theorem mod_ok {x m : Int} (hm : 1 ≤ m) (hm2 : m ≤ 1073741824) : ∃ r, f30 x m = some r ∧ 0 ≤ r ∧ r < m := by
  unfold f30
  rw [if_neg (by omega), if_pos (by omega)]
  have h1 := Int.tmod_lt_of_pos x (show 0 < m by omega)
  have h2 := Int.lt_tmod_of_pos x (show 0 < m by omega)
  by_cases h : x.tmod m < 0
  · rw [if_pos h]
    exact ⟨_, rfl, by rw [w64 (by omega) (by omega)]; omega, by rw [w64 (by omega) (by omega)]; omega⟩
  · rw [if_neg h]
    exact ⟨_, rfl, by omega, h1⟩
theorem made_ok (x : Int) : ∃ c, f28 x = some c ∧ chk c = 0 ∧ c.At ≤ 19 := by
  obtain ⟨t, ht, h1, h2⟩ := mod_ok (x := x) (m := 1073741824) (by omega) (by omega)
  unfold f28
  rw [ht, Option.bind_some]
  have e1 : t.tmod 3 = t % 3 := Int.tmod_eq_emod_of_nonneg h1
  have e2 : t.tdiv 3 = t / 3 := Int.tdiv_eq_ediv_of_nonneg h1
  have e3 : t.tdiv 18 = t / 18 := Int.tdiv_eq_ediv_of_nonneg h1
  have e4 : t.tdiv 72 = t / 72 := Int.tdiv_eq_ediv_of_nonneg h1
  rw [e1, e2, e3, e4, w64 (x := t / 3) (by omega) (by omega), w64 (x := t / 18) (by omega) (by omega), w64 (x := t / 72) (by omega) (by omega)]
  have e5 : (t / 3).tmod 6 = t / 3 % 6 := Int.tmod_eq_emod_of_nonneg (by omega)
  have e6 : (t / 18).tmod 4 = t / 18 % 4 := Int.tmod_eq_emod_of_nonneg (by omega)
  have e7 : (t / 72).tmod 20 = t / 72 % 20 := Int.tmod_eq_emod_of_nonneg (by omega)
  rw [e5, e6, e7, w64 (x := 1 + t % 3) (by omega) (by omega), w64 (x := 1 + t / 18 % 4) (by omega) (by omega)]
  by_cases h : 1 + t % 3 = 3
  · rw [if_pos h]
    refine ⟨_, rfl, ?_, by show t / 72 % 20 ≤ 19; omega⟩
    unfold chk
    simp only
    rw [if_neg (by omega), if_neg (by omega), if_pos h, if_neg (by omega)]
  · rw [if_neg h]
    refine ⟨_, rfl, ?_, by show t / 72 % 20 ≤ 19; omega⟩
    unfold chk
    simp only
    rw [if_neg (by omega), if_neg (by omega), if_neg h, if_pos trivial]
theorem fin0 {c : CallT} (h : chk c = 0) : fin c = (c, 0) := if_pos h
theorem TX_inj {s : List UInt8} {a b : CallT} (ha : chk a = 0) (hb : chk b = 0) (h1 : TX s a) (h2 : TX s b) : a = b := by
  have := (f17_good h1 (k := 102) (by omega)).symm.trans (f17_good h2 (by omega))
  rw [fin0 ha, fin0 hb] at this
  exact (Prod.mk.inj (Option.some.inj this)).1
theorem pure6 : Pure6 := by
  intro x y z u hx hy hz hu
  obtain ⟨a, ha, ca, aa⟩ := made_ok x
  obtain ⟨b, hb, cb, ab⟩ := made_ok y
  obtain ⟨p, hp, p1, p2⟩ := mod_ok (x := z) (m := 8) (by omega) (by omega)
  obtain ⟨q, hq, q1, q2⟩ := mod_ok (x := u) (m := 1000) (by omega) (by omega)
  obtain ⟨ta, ta2⟩ := TX_txt ca
  obtain ⟨tb, tb2⟩ := TX_txt cb
  have g17 := f17_good ta (k := 200) (by omega)
  rw [fin0 ca] at g17
  obtain ⟨g1, g2, g3, g4, g5, g6, g7, g8⟩ := chk0 ca
  have eage (n : Int) (h1 : 0 ≤ n) (h2 : n ≤ 2000) : age a (a.At + n) = (n, 0) := by
    unfold age
    rw [if_pos ca, if_neg (by omega), if_neg (by omega), w64 (by omega) (by omega)]
    congr 1; omega
  have esrv : srv a a.Floor (1 + p) = (decide (a.Kind = 3 → a.Car = 1 + p), 0) := by
    unfold srv
    rw [if_pos ca, if_neg (by omega)]
    simp
  have hpair : ∀ c : CallT, txt c = ((txt c).1, (txt c).2) := fun _ => rfl
  refine ⟨200, ?_⟩
  unfold f6
  simp only [ha, hb, hp, hq, f5, call_eta, f29_eq, Option.bind_some]
  rw [hpair a, hpair b, ta2, tb2]
  simp only [g17, Option.bind_some, f24_eq, f25_eq]
  rw [w64 (x := 1 + p) (by omega) (by omega), esrv, w64 (x := a.At + q) (by omega) (by omega), w64 (x := a.At + q + 1) (by omega) (by omega), eage q q1 (by omega), show a.At + q + 1 = a.At + (q + 1) by omega, eage (q + 1) (by omega) (by omega)]
  simp only [Option.bind_some, if_true]
  rw [w64 (x := q + 1) (by omega) (by omega), w64 (x := a.At + q - a.At) (by omega) (by omega), if_pos rfl, if_pos (by omega)]
  have hdec : (decide ((txt a).1 = (txt b).1) == decide (a = b)) = true := by
    by_cases hab : a = b
    · subst hab; simp
    · have : (txt a).1 ≠ (txt b).1 := fun e => hab (TX_inj ca cb ta (e ▸ tb))
      simp [hab, this]
  rw [hdec]
  simp only [if_true]
  by_cases h3 : a.Kind = 3
  · rw [if_pos h3]
    simp [h3]
    rfl
  · rw [if_neg h3]
    simp [h3]
end Go.Proofs.YtbdndhodggdhkaaDoor

set_option linter.unusedVariables false
set_option linter.unusedSimpArgs false
namespace Go.Proofs.YtbdndhodggdhkaaDoor
open Go Go.Det Go.RowKit
/-! The parser by hand -/
def Stop (d r : List UInt8) : Prop := d.length = 14 ∨ r = [] ∨ ∃ b r', r = b :: r' ∧ ¬ dig b
theorem split_digs : ∀ (n : Nat) (x : List UInt8), ∃ d r, x = d ++ r ∧ digs d ∧ d.length ≤ n ∧ (d.length = n ∨ r = [] ∨ ∃ b r', r = b :: r' ∧ ¬ dig b)
  | 0, x => ⟨[], x, rfl, fun b hb => (by cases hb), Nat.le_refl _, .inl rfl⟩
  | n + 1, [] => ⟨[], [], rfl, fun b hb => (by cases hb), Nat.zero_le _, .inr (.inl rfl)⟩
  | n + 1, b :: x => by
    by_cases hb : dig b
    · obtain ⟨d, r, h1, h2, h3, h4⟩ := split_digs n x
      refine ⟨b :: d, r, by rw [h1]; rfl, fun c hc => ?_, by simp; omega, ?_⟩
      · rcases List.mem_cons.1 hc with rfl | hc
        · exact hb
        · exact h2 c hc
      · rcases h4 with h4 | h4
        · exact .inl (by simp; omega)
        · exact .inr h4
    · exact ⟨[], b :: x, rfl, fun b hb => (by cases hb), by simp, .inr (.inr ⟨b, x, rfl, hb⟩)⟩
theorem acc_eq {b : UInt8} {v : Nat} (hb : dig b) (hv : v < 10 ^ 14) : IntKind.i64.wrap ((IntKind.i64.wrap (10 * (v : Int))) + (IntKind.i64.wrap (IntKind.u8.wrap (((b.toNat : Nat) : Int) - 48)))) = ((v * 10 + (b.toNat - 48) : Nat) : Int) := by
  have h1 := hb.1; have h2 := hb.2
  have e : IntKind.u8.wrap (((b.toNat : Nat) : Int) - 48) = ((b.toNat - 48 : Nat) : Int) := by rw [IntKind.wrap_u8]; omega
  rw [e, w64 (x := 10 * (v : Int)) (by omega) (by omega), w64 (x := ((b.toNat - 48 : Nat) : Int)) (by omega) (by omega), w64 (by omega) (by omega)]
  omega
theorem f51_run {x0 r : List UInt8} : ∀ (d pre : List UInt8) (n v : Nat), x0 = pre ++ d ++ r → digs d → d.length < n → pre.length + d.length ≤ 14 → v < 10 ^ pre.length → (pre.length + d.length = 14 ∨ r = [] ∨ ∃ b r', r = b :: r' ∧ ¬ dig b) →
    ∃ w, Lib.decFrom v d = some w ∧ f51_l1 x0 n (pre.length : Int) (v : Int) = some (((pre.length + d.length : Nat) : Int), (w : Int))
  | [], pre, n, v, hx, hd, hn, hl, hv, hs => by
    obtain ⟨n, rfl⟩ : ∃ m, n = m + 1 := ⟨n - 1, by simp at hn; omega⟩
    refine ⟨v, rfl, ?_⟩
    rw [f51_l1]
    simp only [List.append_nil, List.length_nil, Nat.add_zero] at hx hs ⊢
    by_cases hr : r = []
    · subst hr
      rw [if_neg (by rw [hx]; simp)]
    · obtain ⟨b, r', rfl⟩ : ∃ b r', r = b :: r' := by
        cases r with
        | nil => exact absurd rfl hr
        | cons b r' => exact ⟨b, r', rfl⟩
      have hg : rd x0 (pre.length : Int) = some b := by rw [rd_nat, hx]; simp
      rw [if_pos (by rw [hx]; simp; omega), hg]
      simp only [Option.bind_some]
      rcases hs with hs | hs | ⟨b', r2, e, hnd⟩
      · by_cases h1 : (b.toNat : Int) ≥ 48
        · rw [if_pos h1]
          by_cases h2 : (b.toNat : Int) ≤ 57
          · rw [if_pos h2, if_neg (by omega)]
          · rw [if_neg h2]
        · rw [if_neg h1]
      · cases hs
      · obtain ⟨rfl, -⟩ := List.cons.inj e
        have hnd' : ¬ (48 ≤ b.toNat ∧ b.toNat ≤ 57) := hnd
        by_cases h1 : (b.toNat : Int) ≥ 48
        · rw [if_pos h1, if_neg (by omega)]
        · rw [if_neg h1]
  | b :: d, pre, n, v, hx, hd, hn, hl, hv, hs => by
    simp only [List.length_cons] at hn hl hs
    obtain ⟨n, rfl⟩ : ∃ m, n = m + 1 := ⟨n - 1, by omega⟩
    have hb := hd b (by simp)
    have hb1 := hb.1; have hb2 := hb.2
    have hg : rd x0 (pre.length : Int) = some b := by rw [rd_nat, hx]; simp
    have hv14 : v < 10 ^ 14 := Nat.lt_of_lt_of_le hv (Nat.pow_le_pow_right (by decide) (by omega))
    obtain ⟨w, w1, w2⟩ := f51_run (x0 := x0) (r := r) d (pre ++ [b]) n (v * 10 + (b.toNat - 48)) (by rw [hx]; simp) (fun c hc => hd c (by simp [hc])) (by omega) (by simp; omega)
      (by rw [List.length_append, List.length_singleton, Nat.pow_succ]; omega) (hs.imp (fun h => by simp; omega) id)
    refine ⟨w, by simp only [Lib.decFrom, dv hb]; exact w1, ?_⟩
    rw [f51_l1, if_pos (by rw [hx]; simp; omega), hg]
    simp only [Option.bind_some]
    rw [if_pos (by omega), if_pos (by omega), if_pos (by omega), acc_eq hb hv14, w64 (by omega) (by omega)]
    rw [show (pre.length : Int) + 1 = ((pre ++ [b]).length : Int) by simp, w2]
    simp only [List.length_append, List.length_cons, List.length_nil]
    rw [show pre.length + (0 + 1) + d.length = pre.length + (d.length + 1) by omega]
/-- Digit strings without needless zeros. -/
def bad (d : List UInt8) : Prop := d = [] ∨ 13 < d.length ∨ (1 < d.length ∧ ∃ b r, d = b :: r ∧ b.toNat = 48)
theorem NS_of {d : List UInt8} (h : digs d) (hb : ¬ bad d) : NS d := by
  have h1 : d ≠ [] := fun q => hb (.inl q)
  have h2 : d.length ≤ 13 := by
    by_cases q : d.length ≤ 13
    · exact q
    · exact absurd (.inr (.inl (by omega))) hb
  refine ⟨h, h1, h2, ?_⟩
  obtain ⟨v, k1, k2, -⟩ := atoi_digs h h1 h2
  unfold val
  rw [k1]
  show D (v : Int) = d
  rw [D_nat]
  refine (dd_canon d.length rfl h h1 (fun q => ?_) k1).1
  cases d with
  | nil => exact absurd rfl h1
  | cons b r => exact ⟨b, r, rfl, fun e => hb (.inr (.inr ⟨q, b, r, rfl, e⟩))⟩
theorem NS.not_bad {d : List UInt8} (h : NS d) : ¬ bad d := by
  rintro (q | q | ⟨q, b, r, e, h0⟩)
  · exact h.2.1 q
  · have := h.2.2.1; omega
  · obtain ⟨h1, h2, h3, h4⟩ := h
    have hv : 0 ≤ val d := Int.natCast_nonneg _
    obtain ⟨u, hu⟩ : ∃ u : Nat, val d = u := ⟨_, rfl⟩
    rw [hu, D_nat] at h4
    rcases Nat.lt_or_ge u 10 with g | g
    · rw [dd_small g] at h4
      rw [← h4] at q
      simp at q
    · obtain ⟨b', r', e', n'⟩ := (dd_spec u).2.2.2.1 g
      rw [h4, e] at e'
      obtain ⟨rfl, -⟩ := List.cons.inj e'
      exact n' h0
def out51 (d r : List UInt8) (m : Int) : Int × List UInt8 × Bool :=
  if m = 0 then (val d, [], (((d.length : Nat) : Int) == ((d ++ r).length : Int)))
  else match r with
    | [] => (0, [], false)
    | b :: r' => if (b.toNat : Int) = m then (val d, r', true) else (0, [], false)
open Classical in
theorem f51_at {k : Nat} {d r : List UInt8} {m : Int} (hk : 100 ≤ k) (hd : digs d) (hl : d.length ≤ 14) (hs : d.length = 14 ∨ r = [] ∨ ∃ b r', r = b :: r' ∧ ¬ dig b) (hr : (d ++ r).length ≤ 1000) :
    f51 k (d ++ r) m = some (if bad d then (0, [], false) else out51 d r m) := by
  obtain ⟨w, w1, w2⟩ := f51_run (x0 := d ++ r) (r := r) d [] k 0 (by simp) hd (by omega) (by simpa using hl) (by simp) (by simpa using hs)
  simp only [List.length_nil, Nat.zero_add] at w2
  have hv : val d = w := by unfold val; rw [w1]; rfl
  unfold f51
  rw [show f51_l1 (d ++ r) k 0 0 = _ from w2]
  simp only [Option.bind_some]
  by_cases h1 : d = []
  · subst h1
    rw [if_pos (show bad [] from .inl rfl)]
    rfl
  have hp := List.length_pos_iff.2 h1
  rw [if_neg (by omega)]
  by_cases h2 : (d.length : Int) > 13
  · rw [if_pos h2, if_pos (show bad d from .inr (.inl (by omega)))]
    rfl
  rw [if_neg h2]
  have go (hb : ¬ bad d) : ((some (Sum.inr ()) : Option ((Int × List UInt8 × Bool) ⊕ Unit)).bind fun s => match s with
      | .inl st => some st
      | .inr _ =>
        if m = 0 then
          (some ((d.length : Int) == ((d ++ r).length : Int))).bind fun t60 =>
          some ((w : Int), ([] : List UInt8), t60)
        else
          if (d.length : Int) ≥ ((d ++ r).length : Int) then
            some (0, ([] : List UInt8), false)
          else
            (rd (d ++ r) (d.length : Int)).bind fun b68 =>
            if ((b68.toNat : Nat) : Int) = m then
              (sub (d ++ r) (IntKind.i64.wrap ((d.length : Int) + 1)) ((d ++ r).length : Int)).bind fun s76 =>
              some ((w : Int), s76, true)
            else
              some (0, ([] : List UInt8), false)) = some (if bad d then (0, [], false) else out51 d r m) := by
    rw [if_neg hb]
    unfold out51
    simp only [Option.bind_some]
    by_cases hm : m = 0
    · rw [if_pos hm, if_pos hm, hv]
    · rw [if_neg hm, if_neg hm]
      cases r with
      | nil => rw [if_pos (by simp)]
      | cons b r' =>
        rw [if_neg (by simp; omega), rd_nat, show (d ++ b :: r')[d.length]? = some b by simp]
        simp only [Option.bind_some]
        by_cases hb : (b.toNat : Int) = m
        · rw [if_pos hb, if_pos hb, w64 (by omega) (by omega)]
          have : sub (d ++ b :: r') ((d.length : Int) + 1) ((d ++ b :: r').length : Int) = some r' := by
            unfold sub
            rw [if_pos ⟨by omega, by simp; omega, Int.le_refl _⟩]
            congr 1
            rw [show ((d.length : Int) + 1).toNat = d.length + 1 by omega, Int.toNat_natCast]
            rw [show (d ++ b :: r').drop (d.length + 1) = r' by rw [List.drop_append]; simp]
            rw [List.take_of_length_le (by simp; omega)]
          rw [this, Option.bind_some, hv]
        · rw [if_neg hb, if_neg hb]
  by_cases h3 : (d.length : Int) > 1
  · rw [if_pos h3]
    obtain ⟨b, d', rfl⟩ : ∃ b d', d = b :: d' := by
      cases d with
      | nil => exact absurd rfl h1
      | cons b d' => exact ⟨b, d', rfl⟩
    rw [show rd (b :: d' ++ r) 0 = some b from rfl, Option.bind_some]
    by_cases h4 : (b.toNat : Int) = 48
    · rw [if_pos h4, if_pos (show bad (b :: d') from .inr (.inr ⟨by omega, b, d', rfl, by omega⟩))]
      rfl
    · rw [if_neg h4]
      refine go ?_
      rintro (q | q | ⟨q, b', r', e, h0⟩)
      · cases q
      · omega
      · obtain ⟨rfl, -⟩ := List.cons.inj e
        omega
  · rw [if_neg h3]
    refine go ?_
    rintro (q | q | ⟨q, b', r', e, h0⟩)
    · exact h1 q
    · omega
    · omega
end Go.Proofs.YtbdndhodggdhkaaDoor

set_option linter.unusedVariables false
set_option linter.unusedSimpArgs false
namespace Go.Proofs.YtbdndhodggdhkaaDoor
open Go Go.Det Go.RowKit
theorem f51_mark {k : Nat} {d r' : List UInt8} {b : UInt8} (hk : 100 ≤ k) (hd : NS d) (hb : ¬ dig b) (h0 : (b.toNat : Int) ≠ 0) (hr : (d ++ b :: r').length ≤ 1000) : f51 k (d ++ b :: r') (b.toNat : Int) = some (val d, r', true) := by
  have := hd.2.2.1
  rw [f51_at hk hd.1 (by omega) (.inr (.inr ⟨b, r', rfl, hb⟩)) hr, if_neg hd.not_bad]
  unfold out51
  rw [if_neg h0]
  simp only [if_true]
theorem f51_last {k : Nat} {d : List UInt8} (hk : 100 ≤ k) (hd : NS d) : f51 k d 0 = some (val d, [], true) := by
  have := hd.2.2.1
  have h := f51_at (k := k) (d := d) (r := []) (m := 0) hk hd.1 (by omega) (.inr (.inl rfl)) (by simp; omega)
  rw [if_neg hd.not_bad, List.append_nil] at h
  rw [h]
  unfold out51
  rw [if_pos rfl]
  simp
theorem f51_any {k : Nat} {x : List UInt8} (m : Int) (hk : 100 ≤ k) (hx : x.length ≤ 1000) : ∃ v r ok, f51 k x m = some (v, r, ok) ∧ r.length ≤ x.length ∧ (ok = true → (m = 0 → NS x ∧ v = val x) ∧ (m ≠ 0 → ∃ d b, NS d ∧ (b.toNat : Int) = m ∧ x = d ++ b :: r ∧ v = val d)) := by
  obtain ⟨d, r, rfl, h2, h3, h4⟩ := split_digs 14 x
  rw [f51_at hk h2 h3 h4 hx]
  by_cases hb : bad d
  · rw [if_pos hb]
    exact ⟨0, [], false, rfl, by simp, fun q => by cases q⟩
  · rw [if_neg hb]
    have hn := NS_of h2 hb
    unfold out51
    by_cases hm : m = 0
    · rw [if_pos hm]
      refine ⟨_, _, _, rfl, by simp, fun q => ⟨fun _ => ?_, fun q => absurd hm q⟩⟩
      have : r = [] := by
        have := beq_iff_eq.1 q
        rw [List.length_append] at this
        exact List.length_eq_zero_iff.1 (by omega)
      subst this
      rw [List.append_nil]
      exact ⟨hn, rfl⟩
    · rw [if_neg hm]
      cases r with
      | nil => exact ⟨_, _, _, rfl, by simp, fun q => by cases q⟩
      | cons b r' =>
        simp only
        by_cases hbm : (b.toNat : Int) = m
        · rw [if_pos hbm]
          exact ⟨_, _, _, rfl, by simp; omega, fun _ => ⟨fun q => absurd q hm, fun _ => ⟨d, b, hn, hbm, rfl, rfl⟩⟩⟩
        · rw [if_neg hbm]
          exact ⟨_, _, _, rfl, by simp, fun q => by cases q⟩
/-- The floor, the mark and the instant. -/
def rest18 (k : Nat) (kd car : Int) (x : List UInt8) : Option (CallT × Int) :=
  (f51 k x 64).bind fun (t36_0, t36_1, t36_2) =>
        if t36_2 then
          (f51 k t36_1 0).bind fun (t46_0, t46_1, t46_2) =>
          if t46_2 then
            (f31 (CallT.mk kd t36_0 car t46_0)).bind fun t55 =>
            if t55 = 0 then
              some ((CallT.mk kd t36_0 car t46_0), 0)
            else
              some ((CallT.mk 0 0 0 0), t55)
          else
            some ((CallT.mk 0 0 0 0), 3)
        else
          some ((CallT.mk 0 0 0 0), 3)
theorem nat64 {b : UInt8} (h : (b.toNat : Int) = 64) : b = 64 := UInt8.toNat_inj.1 (by show b.toNat = 64; omega)
theorem nat58 {b : UInt8} (h : (b.toNat : Int) = 58) : b = 58 := UInt8.toNat_inj.1 (by show b.toNat = 58; omega)
theorem rest_good {k : Nat} {kd car : Int} {b e : List UInt8} (hk : 100 ≤ k) (hb : NS b) (he : NS e) : rest18 k kd car (b ++ 64 :: e) = some (fin (CallT.mk kd (val b) car (val e))) := by
  have l1 := hb.2.2.1; have l2 := he.2.2.1
  unfold rest18
  rw [show (64 : Int) = ((64 : UInt8).toNat : Int) from rfl, f51_mark hk hb (nd (by decide)) (by decide) (by simp; omega)]
  simp only [Option.bind_some, if_true]
  rw [f51_last hk he]
  simp only [Option.bind_some, if_true]
  exact fin_eq' _
theorem rest_any {k : Nat} (kd car : Int) {x : List UInt8} (hk : 100 ≤ k) (hx : x.length ≤ 100) : rest18 k kd car x = some (zc, 3) ∨ ∃ b e, NS b ∧ NS e ∧ x = b ++ 64 :: e ∧ rest18 k kd car x = some (fin (CallT.mk kd (val b) car (val e))) := by
  obtain ⟨v, r, ok, h1, h2, h3⟩ := f51_any 64 hk (show x.length ≤ 1000 by omega)
  cases ok with
  | false => left; unfold rest18; rw [h1]; rfl
  | true =>
    obtain ⟨b, m, hb, hm, rfl, rfl⟩ := (h3 rfl).2 (by decide)
    obtain rfl := nat64 hm
    obtain ⟨v', r', ok', k1, k2, k3⟩ := f51_any 0 hk (show r.length ≤ 1000 by omega)
    cases ok' with
    | false => left; unfold rest18; rw [h1]; simp only [Option.bind_some, if_true]; rw [k1]; rfl
    | true =>
      obtain ⟨he, rfl⟩ := (k3 rfl).1 rfl
      exact .inr ⟨b, r, hb, he, rfl, rest_good hk hb he⟩
theorem f18_at {k : Nat} {t : UInt8} {x : List UInt8} : f18 k (t :: x) = if (t.toNat : Int) = 117 then rest18 k 1 0 x else if (t.toNat : Int) = 100 then rest18 k 2 0 x else if (t.toNat : Int) = 99 then (f51 k x 58).bind fun o => if o.2.2 then rest18 k 3 o.1 o.2.1 else some (zc, 3) else some (zc, 3) := by
  have hs : sub (t :: x) 1 ((t :: x).length : Int) = some x := by
    unfold sub
    rw [if_pos ⟨by omega, by simp; omega, Int.le_refl _⟩]
    congr 1
    show List.take _ x = x
    exact List.take_of_length_le (by simp)
  unfold f18
  rw [if_neg (by simp), hs, Option.bind_some, rd_0, Option.bind_some]
  by_cases h1 : (t.toNat : Int) = 117
  · rw [if_pos h1, if_pos h1]; rfl
  rw [if_neg h1, if_neg h1]
  by_cases h2 : (t.toNat : Int) = 100
  · rw [if_pos h2, if_pos h2]; rfl
  rw [if_neg h2, if_neg h2]
  by_cases h3 : (t.toNat : Int) = 99
  · rw [if_pos h3, if_pos h3]
    cases f51 k x 58 with
    | none => rfl
    | some o => rfl
  · rw [if_neg h3, if_neg h3]; rfl
theorem f18_good {k : Nat} {s : List UInt8} {c : CallT} (hk : 100 ≤ k) (h : TX s c) : f18 k s = some (fin c) := by
  rcases h with ⟨a, b, e, ha, hb, he, rfl, rfl⟩ | ⟨t, b, e, hb, he, ht, rfl, rfl⟩
  · have l0 := ha.2.2.1; have l1 := hb.2.2.1; have l2 := he.2.2.1
    rw [f18_at, if_neg (by decide), if_neg (by decide), if_pos (by decide), show (58 : Int) = ((58 : UInt8).toNat : Int) from rfl, f51_mark hk ha (nd (by decide)) (by decide) (by simp; omega)]
    simp only [Option.bind_some, if_true]
    exact rest_good hk hb he
  · rw [f18_at]
    rcases ht with rfl | rfl
    · rw [if_pos (by decide)]; exact rest_good hk hb he
    · rw [if_neg (by decide), if_pos (by decide)]; exact rest_good hk hb he
theorem f18_cases {k : Nat} {s : List UInt8} (hk : 100 ≤ k) (hs : s.length ≤ 100) : f18 k s = some (zc, 3) ∨ ∃ c, TX s c ∧ f18 k s = some (fin c) := by
  cases s with
  | nil => left; unfold f18; rw [if_pos rfl]; rfl
  | cons t x =>
    simp only [List.length_cons] at hs
    rw [f18_at]
    by_cases h1 : (t.toNat : Int) = 117
    · rw [if_pos h1]
      rcases rest_any 1 0 hk (show x.length ≤ 100 by omega) with h | ⟨b, e, hb, he, rfl, h⟩
      · exact .inl h
      · obtain rfl : t = 117 := UInt8.toNat_inj.1 (by show t.toNat = 117; omega)
        exact .inr ⟨_, .inr ⟨117, b, e, hb, he, .inl rfl, rfl, rfl⟩, h⟩
    rw [if_neg h1]
    by_cases h2 : (t.toNat : Int) = 100
    · rw [if_pos h2]
      rcases rest_any 2 0 hk (show x.length ≤ 100 by omega) with h | ⟨b, e, hb, he, rfl, h⟩
      · exact .inl h
      · obtain rfl : t = 100 := UInt8.toNat_inj.1 (by show t.toNat = 100; omega)
        exact .inr ⟨_, .inr ⟨100, b, e, hb, he, .inr rfl, rfl, rfl⟩, h⟩
    rw [if_neg h2]
    by_cases h3 : (t.toNat : Int) = 99
    · rw [if_pos h3]
      obtain ⟨v, r, ok, k1, k2, k3⟩ := f51_any 58 hk (show x.length ≤ 1000 by omega)
      rw [k1]
      simp only [Option.bind_some]
      cases ok with
      | false => exact .inl rfl
      | true =>
        obtain ⟨a, m, ha, hm, rfl, rfl⟩ := (k3 rfl).2 (by decide)
        obtain rfl := nat58 hm
        obtain rfl : t = 99 := UInt8.toNat_inj.1 (by show t.toNat = 99; omega)
        simp only [if_true]
        rcases rest_any 3 (val a) hk (show r.length ≤ 100 by omega) with h | ⟨b, e, hb, he, rfl, h⟩
        · exact .inl h
        · exact .inr ⟨_, .inl ⟨a, b, e, ha, hb, he, rfl, rfl⟩, h⟩
    · rw [if_neg h3]; exact .inl rfl
theorem pure4 : Pure4 := by
  intro s hs
  refine ⟨200, ?_⟩
  unfold f4
  by_cases hl : (s.length : Int) > 100
  · rw [if_pos hl]; rfl
  rw [if_neg hl]
  have e : ∃ r, f17 200 s = some r ∧ f18 200 s = some r := by
    rcases f17_cases (k := 200) (show s.length ≤ 100 by omega) (by omega) with h | ⟨c, hc, h⟩
    · rcases f18_cases (k := 200) (by omega) (show s.length ≤ 100 by omega) with g | ⟨c, hc, g⟩
      · exact ⟨_, h, g⟩
      · exact ⟨_, f17_good hc (by omega), g⟩
    · exact ⟨_, h, f18_good (by omega) hc⟩
  obtain ⟨⟨c, e⟩, h1, h2⟩ := e
  rw [h1, h2]
  simp only [Option.bind_some, if_true]
  rfl
end Go.Proofs.YtbdndhodggdhkaaDoor
