import Derived.Test.YtcephcgnfmcdhaaDoorSP
set_option linter.unusedVariables false
set_option linter.unusedSimpArgs false
namespace Go.Proofs.YtcephcgnfmcdhaaDoor
open Go Go.Det Go.RowKit
/-! How many bits are set -/
def ds (B : Nat) : Nat → Nat → Nat
  | 0, _ => 0
  | n + 1, x => x % B + ds B n (x / B)
def pairS (B : Nat) : Nat → Nat → Nat
  | 0, _ => 0
  | n + 1, x => (x % B + x / B % B) + B * B * pairS B n (x / (B * B))
def mk (B : Nat) : Nat → Nat
  | 0 => 0
  | n + 1 => (B - 1) + B * B * mk B n
theorem and_mk (w : Nat) : ∀ (n x : Nat), x &&& mk (2 ^ w) (n + 1) = x % 2 ^ w + 2 ^ w * 2 ^ w * (x / (2 ^ w * 2 ^ w) &&& mk (2 ^ w) n) := by
  intro n x
  have hp : 0 < 2 ^ w := Nat.pow_pos (by decide)
  have hB : 2 ^ w * 2 ^ w = 2 ^ (w + w) := (Nat.pow_add 2 w w).symm
  have hm : mk (2 ^ w) (n + 1) = (2 ^ w - 1) + 2 ^ (w + w) * mk (2 ^ w) n := by rw [← hB]; rfl
  have hlt : 2 ^ w - 1 < 2 ^ (w + w) := by
    have := Nat.pow_le_pow_right (n := 2) (by decide) (show w ≤ w + w by omega)
    omega
  have h1 : mk (2 ^ w) (n + 1) % 2 ^ (w + w) = 2 ^ w - 1 := by rw [hm, Nat.add_mul_mod_self_left, Nat.mod_eq_of_lt hlt]
  have h2 : mk (2 ^ w) (n + 1) / 2 ^ (w + w) = mk (2 ^ w) n := by
    rw [hm, Nat.add_mul_div_left _ _ (Nat.pow_pos (by decide)), Nat.div_eq_of_lt hlt, Nat.zero_add]
  have h3 := Nat.mod_add_div (x &&& mk (2 ^ w) (n + 1)) (2 ^ (w + w))
  rw [Nat.and_mod_two_pow, Nat.and_div_two_pow, h1, h2, Nat.and_two_pow_sub_one_eq_mod] at h3
  rw [hB, ← h3]
  congr 1
  rw [← hB, Nat.mod_mul_right_mod]
theorem pair_and (w : Nat) : ∀ (n x : Nat), (x / 2 ^ w &&& mk (2 ^ w) n) + (x &&& mk (2 ^ w) n) = pairS (2 ^ w) n x
  | 0, x => by simp [mk, pairS]
  | n + 1, x => by
    rw [and_mk, and_mk, pairS, ← pair_and w n (x / (2 ^ w * 2 ^ w))]
    have : x / 2 ^ w / (2 ^ w * 2 ^ w) = x / (2 ^ w * 2 ^ w) / 2 ^ w := by rw [Nat.div_div_eq_div_mul, Nat.div_div_eq_div_mul]; congr 1; rw [Nat.mul_comm]
    rw [this]
    generalize x / (2 ^ w * 2 ^ w) / 2 ^ w &&& mk (2 ^ w) n = p
    generalize x / (2 ^ w * 2 ^ w) &&& mk (2 ^ w) n = q
    rw [Nat.mul_add]
    omega
theorem ds_pair {B : Nat} (hB : 2 ≤ B) : ∀ (n x : Nat), ds (B * B) n (pairS B n x) = ds B (2 * n) x
  | 0, x => rfl
  | n + 1, x => by
    have hq : 0 < B * B := Nat.mul_pos (by omega) (by omega)
    have h1 : x % B < B := Nat.mod_lt _ (by omega)
    have h2 : x / B % B < B := Nat.mod_lt _ (by omega)
    have hlt : x % B + x / B % B < B * B := by
      have : 2 * B ≤ B * B := Nat.mul_le_mul_right B hB
      omega
    show (pairS B (n + 1) x) % (B * B) + ds (B * B) n (pairS B (n + 1) x / (B * B)) = ds B (2 * n + 1 + 1) x
    rw [pairS, Nat.add_mul_mod_self_left, Nat.mod_eq_of_lt hlt, Nat.add_mul_div_left _ _ hq, Nat.div_eq_of_lt hlt, Nat.zero_add, ds_pair hB n]
    show _ = x % B + (x / B % B + ds B (2 * n) (x / B / B))
    rw [Nat.div_div_eq_div_mul]; omega
theorem pair_lt {B : Nat} (hB : 2 ≤ B) : ∀ (n x : Nat), pairS B n x < (B * B) ^ n
  | 0, x => by simp [pairS]
  | n + 1, x => by
    have h1 : x % B < B := Nat.mod_lt _ (by omega)
    have h2 : x / B % B < B := Nat.mod_lt _ (by omega)
    have hlt : x % B + x / B % B < B * B := by
      have : 2 * B ≤ B * B := Nat.mul_le_mul_right B hB
      omega
    have ih := pair_lt hB n (x / (B * B))
    rw [pairS, Nat.pow_succ, Nat.mul_comm ((B * B) ^ n)]
    have : B * B * pairS B n (x / (B * B)) + B * B ≤ B * B * (B * B) ^ n := by
      rw [← Nat.mul_succ]; exact Nat.mul_le_mul_left _ ih
    omega
/-- Every digit is at most so much. -/
def dle (B m : Nat) : Nat → Nat → Prop
  | 0, x => x = 0
  | n + 1, x => x % B ≤ m ∧ dle B m n (x / B)
theorem dle_pair {B m : Nat} (hB : 2 ≤ B) (hm : 2 * m < B * B) : ∀ (n x : Nat), dle B m (2 * n) x → dle (B * B) (2 * m) n (pairS B n x)
  | 0, x, h => rfl
  | n + 1, x, h => by
    have hq : 0 < B * B := Nat.mul_pos (by omega) (by omega)
    obtain ⟨h1, h2, h3⟩ : x % B ≤ m ∧ x / B % B ≤ m ∧ dle B m (2 * n) (x / B / B) := h
    rw [Nat.div_div_eq_div_mul] at h3
    have hlt : x % B + x / B % B < B * B := by omega
    refine ⟨?_, ?_⟩
    · rw [pairS, Nat.add_mul_mod_self_left, Nat.mod_eq_of_lt hlt]; omega
    · rw [pairS, Nat.add_mul_div_left _ _ hq, Nat.div_eq_of_lt hlt, Nat.zero_add]
      exact dle_pair hB hm n _ h3
theorem dle_two : ∀ (n x : Nat), x < 2 ^ n → dle 2 1 n x
  | 0, x, h => by simp [dle] at *; omega
  | n + 1, x, h => ⟨by omega, dle_two n (x / 2) (by rw [Nat.pow_succ] at h; omega)⟩
theorem sum_step (x : Nat) (h1 : x % 16 ≤ 4) (h2 : x / 16 % 16 ≤ 4) (h4 : x / 256 % 16 ≤ 4) : (x / 16 + x) / 256 = x / 256 / 16 + x / 256 ∧ (x / 16 + x) % 16 = x % 16 + x / 16 % 16 := by
  have e0 : x / 16 = 16 * (x / 256) + x / 16 % 16 := by omega
  have e1 : x = 256 * (x / 256) + 16 * (x / 16 % 16) + x % 16 := by omega
  have e3 : x / 256 = 16 * (x / 256 / 16) + x / 256 % 16 := by omega
  generalize x / 16 % 16 = b at *
  generalize x % 16 = a at *
  generalize x / 256 % 16 = c at *
  generalize x / 256 / 16 = z at *
  generalize x / 256 = y at *
  generalize x / 16 = u at *
  subst e0 e3 e1
  constructor <;> omega
theorem sum_and : ∀ (n x : Nat), dle 16 4 (2 * n) x → (x / 16 + x) &&& mk 16 n = pairS 16 n x
  | 0, x, h => by simp [mk, pairS]
  | n + 1, x, h => by
    obtain ⟨h1, h2, h3⟩ : x % 16 ≤ 4 ∧ x / 16 % 16 ≤ 4 ∧ dle 16 4 (2 * n) (x / 16 / 16) := h
    rw [Nat.div_div_eq_div_mul] at h3
    have h4 : x / 256 % 16 ≤ 4 := by
      cases n with
      | zero => have : x / (16 * 16) = 0 := h3; omega
      | succ n => exact h3.1
    have hm := and_mk 4 n (x / 16 + x)
    rw [show (2 : Nat) ^ 4 = 16 from rfl] at hm
    obtain ⟨e1, e2⟩ := sum_step x h1 h2 h4
    rw [hm, pairS, ← sum_and n (x / (16 * 16)) h3, show (16 * 16 : Nat) = 256 from rfl, e1, e2]
theorem shr (M n : Nat) (h : n < 64) : gshr .u64 (M : Int) (n : Int) = ((M / 2 ^ n : Nat) : Int) := by
  have hb : min ((n : Int).toNat) IntKind.u64.bits = n := by simp [IntKind.bits]; omega
  unfold gshr
  rw [hb, show ((2 : Int) ^ n) = ((2 ^ n : Nat) : Int) from by simp, Int.fdiv_eq_ediv_of_nonneg _ (Int.natCast_nonneg _)]; rfl
def popc (M : Nat) : Nat := ds 2 64 M
theorem dv {z low B q : Nat} (h : z = low + B * q) (hl : low < B) : z / B = q := by
  subst h
  rw [Nat.add_mul_div_left _ _ (by omega), Nat.div_eq_of_lt hl, Nat.zero_add]
theorem fin8 (e0 e1 e2 e3 e4 e5 e6 e7 q1 q2 q3 q4 q5 q6 : Nat) (h0 : e0 ≤ 8) (h1 : e1 ≤ 8) (h2 : e2 ≤ 8) (h3 : e3 ≤ 8) (h4 : e4 ≤ 8) (h5 : e5 ≤ 8) (h6 : e6 ≤ 8) (h7 : e7 ≤ 8) (a z1 z2 : Nat)
    (p0 : a = e0 + 256 * q1) (p1 : q1 = e1 + 256 * q2) (p2 : q2 = e2 + 256 * q3) (p3 : q3 = e3 + 256 * q4) (p4 : q4 = e4 + 256 * q5) (p5 : q5 = e5 + 256 * q6) (p6 : q6 = e6 + 256 * e7) (hz1 : z1 = a + a / 256) (hz2 : z2 = z1 + z1 / 65536) :
    (z2 + z2 / 4294967296) % 128 = e0 + e1 + e2 + e3 + e4 + e5 + e6 + e7 ∧ z1 < 18446744073709551616 ∧ z2 < 18446744073709551616 ∧ z2 + z2 / 4294967296 < 9223372036854775808 := by
  have k1 : a / 256 = q1 := dv p0 (by omega)
  have k2 : z1 / 65536 = q2 + q3 := dv (low := e0 + e1 + 256 * (e1 + e2)) (by rw [hz1, k1, p0, p1, p2]; omega) (by omega)
  have k3 : z2 / 4294967296 = q4 + q5 + q6 + e7 := dv (low := e0 + e1 + 256 * (e1 + e2) + 65536 * (e2 + e3) + 16777216 * (e3 + e4) + (e2 + e3) + 256 * (e3 + e4) + 65536 * (e4 + e5) + 16777216 * (e5 + e6)) (by rw [hz2, k2, hz1, k1]; clear k1 k2 hz1 hz2; omega) (by omega)
  have b6 : q6 ≤ 2056 := by omega
  have b5 : q5 ≤ 526344 := by omega
  have b4 : q4 ≤ 134744072 := by omega
  have b3 : q3 ≤ 34494482440 := by omega
  have b2 : q2 ≤ 8830587504648 := by omega
  have b1 : q1 ≤ 2260630401189896 := by omega
  have b0 : a ≤ 578721382704613384 := by omega
  refine ⟨?_, ?_, ?_, ?_⟩
  · rw [k3, hz2, k2, hz1, k1]
    clear k1 k2 k3 hz1 hz2 b0 b1 b2 b3 b4 b5 b6
    have : a + q1 + (q2 + q3) + (q4 + q5 + q6 + e7) = e0 + e1 + e2 + e3 + e4 + e5 + e6 + e7 + 256 * (q1 + q2 + q3 + q4 + q5 + q6 + e7) := by omega
    rw [this]
    clear p0 p1 p2 p3 p4 p5 p6 this
    omega
  · rw [hz1, k1]; omega
  · rw [hz2, k2, hz1, k1]; omega
  · rw [k3, hz2, k2, hz1, k1]; omega
theorem digits8 {x : Nat} (h : dle 256 8 8 x) : ∃ e0 e1 e2 e3 e4 e5 e6 e7 q1 q2 q3 q4 q5 q6, e0 ≤ 8 ∧ e1 ≤ 8 ∧ e2 ≤ 8 ∧ e3 ≤ 8 ∧ e4 ≤ 8 ∧ e5 ≤ 8 ∧ e6 ≤ 8 ∧ e7 ≤ 8 ∧ x = e0 + 256 * q1 ∧ q1 = e1 + 256 * q2 ∧ q2 = e2 + 256 * q3 ∧ q3 = e3 + 256 * q4 ∧ q4 = e4 + 256 * q5 ∧ q5 = e5 + 256 * q6 ∧ q6 = e6 + 256 * e7 ∧ ds 256 8 x = e0 + e1 + e2 + e3 + e4 + e5 + e6 + e7 := by
  obtain ⟨h0, h1, h2, h3, h4, h5, h6, h7, h8⟩ := h
  have dm : ∀ y : Nat, y = y % 256 + 256 * (y / 256) := fun y => by omega
  refine ⟨_, _, _, _, _, _, _, _, _, _, _, _, _, _, h0, h1, h2, h3, h4, h5, h6, h7, dm _, dm _, dm _, dm _, dm _, dm _, ?_, ?_⟩
  · have h8 : x / 256 / 256 / 256 / 256 / 256 / 256 / 256 / 256 = 0 := h8
    generalize x / 256 / 256 / 256 / 256 / 256 / 256 = y at *
    clear dm
    omega
  · simp only [ds]; omega
theorem f46_eq {M : Nat} (hM : M < 18446744073709551616) : f46 (M : Int) = some ((popc M : Nat) : Int) := by
  have m0 : (6148914691236517205 : Nat) = mk (2 ^ 1) 32 := by decide
  have m1 : (3689348814741910323 : Nat) = mk (2 ^ 2) 16 := by decide
  have m2 : (1085102592571150095 : Nat) = mk 16 8 := by decide
  have c0 : ∀ x : Nat, x &&& 6148914691236517205 ≤ 6148914691236517205 := fun x => Nat.and_le_right
  have c1 : ∀ x : Nat, x &&& 3689348814741910323 ≤ 3689348814741910323 := fun x => Nat.and_le_right
  have hd : ∀ x j : Nat, x < 18446744073709551616 → x / 2 ^ j < 18446744073709551616 := fun x j h => Nat.lt_of_le_of_lt (Nat.div_le_self _ _) h
  have s1 : IntKind.u64.wrap (bits .and .u64 (gshr .u64 (M : Int) 1) 6148914691236517205 + bits .and .u64 (M : Int) 6148914691236517205) = ((pairS 2 32 M : Nat) : Int) := by
    have h := shr M 1 (by decide)
    have a1 := u64_and_nat (M / 2 ^ 1) 6148914691236517205 (hd _ _ hM) (by decide)
    have a2 := u64_and_nat M 6148914691236517205 hM (by decide)
    have h' : gshr .u64 (M : Int) 1 = ((M / 2 ^ 1 : Nat) : Int) := h
    rw [h', show (6148914691236517205 : Int) = ((6148914691236517205 : Nat) : Int) from rfl, a1, a2, ← Int.natCast_add]
    have p := pair_and 1 32 M
    rw [← m0] at p
    rw [wu64 (by have := c0 (M / 2 ^ 1); have := c0 M; omega), p]
  have l1 : pairS 2 32 M < 18446744073709551616 := pair_lt (by decide) 32 M
  have s2 : IntKind.u64.wrap (bits .and .u64 (gshr .u64 ((pairS 2 32 M : Nat) : Int) 2) 3689348814741910323 + bits .and .u64 ((pairS 2 32 M : Nat) : Int) 3689348814741910323) = ((pairS 4 16 (pairS 2 32 M) : Nat) : Int) := by
    generalize pairS 2 32 M = X at l1
    have h' : gshr .u64 (X : Int) 2 = ((X / 2 ^ 2 : Nat) : Int) := shr X 2 (by decide)
    have a1 := u64_and_nat (X / 2 ^ 2) 3689348814741910323 (hd _ _ l1) (by decide)
    have a2 := u64_and_nat X 3689348814741910323 l1 (by decide)
    rw [h', show (3689348814741910323 : Int) = ((3689348814741910323 : Nat) : Int) from rfl, a1, a2, ← Int.natCast_add]
    have p := pair_and 2 16 X
    rw [← m1] at p
    rw [wu64 (by have := c1 (X / 2 ^ 2); have := c1 X; omega), p]
  have l2 : pairS 4 16 (pairS 2 32 M) < 18446744073709551616 := pair_lt (by decide) 16 _
  have d1 : dle 4 2 32 (pairS 2 32 M) := dle_pair (B := 2) (m := 1) (by decide) (by decide) 32 M (dle_two 64 M hM)
  have d2 : dle 16 4 16 (pairS 4 16 (pairS 2 32 M)) := dle_pair (B := 4) (m := 2) (by decide) (by decide) 16 _ d1
  have d3 : dle 256 8 8 (pairS 16 8 (pairS 4 16 (pairS 2 32 M))) := dle_pair (B := 16) (m := 4) (by decide) (by decide) 8 _ d2
  have q1 := ds_pair (B := 2) (by decide) 32 M
  have q2 := ds_pair (B := 4) (by decide) 16 (pairS 2 32 M)
  have q3 := ds_pair (B := 16) (by decide) 8 (pairS 4 16 (pairS 2 32 M))
  have s3 : bits .and .u64 (IntKind.u64.wrap (gshr .u64 ((pairS 4 16 (pairS 2 32 M) : Nat) : Int) 4 + ((pairS 4 16 (pairS 2 32 M) : Nat) : Int))) 1085102592571150095 = ((pairS 16 8 (pairS 4 16 (pairS 2 32 M)) : Nat) : Int) := by
    generalize pairS 4 16 (pairS 2 32 M) = X at l2 d2
    have h' : gshr .u64 (X : Int) 4 = ((X / 2 ^ 4 : Nat) : Int) := shr X 4 (by decide)
    have hX : X / 16 + X < 18446744073709551616 := by
      obtain ⟨_, _, _, _, _, _, _, _, _, _, _, _, _, _, _, h16, hz⟩ := d2
      have hz : X / 16 / 16 / 16 / 16 / 16 / 16 / 16 / 16 / 16 / 16 / 16 / 16 / 16 / 16 / 16 / 16 = 0 := hz
      have h16 : X / 16 / 16 / 16 / 16 / 16 / 16 / 16 / 16 / 16 / 16 / 16 / 16 / 16 / 16 / 16 % 16 ≤ 4 := h16
      omega
    rw [h', ← Int.natCast_add, wu64 hX, show (1085102592571150095 : Int) = ((1085102592571150095 : Nat) : Int) from rfl, u64_and_nat _ _ hX (by decide)]
    rw [show X / 2 ^ 4 = X / 16 from rfl, m2, sum_and 8 X d2]
  obtain ⟨e0, e1, e2, e3, e4, e5, e6, e7, q1', q2', q3', q4', q5', q6', g0, g1, g2, g3, g4, g5, g6, g7, hx, w1, w2, w3, w4, w5, w6, hs⟩ := digits8 d3
  have hpop : popc M = e0 + e1 + e2 + e3 + e4 + e5 + e6 + e7 := by
    unfold popc
    rw [← hs, q3]
    show ds 2 64 M = ds 16 16 _
    rw [q2]
    show ds 2 64 M = ds 4 32 _
    rw [q1]
  obtain ⟨r1, r2, r3, r4⟩ := fin8 e0 e1 e2 e3 e4 e5 e6 e7 q1' q2' q3' q4' q5' q6' g0 g1 g2 g3 g4 g5 g6 g7 _ _ _ hx w1 w2 w3 w4 w5 w6 rfl rfl
  unfold f46
  rw [s1, s2, s3]
  clear s1 s2 s3 hx hs w1 w2 w3 w4 w5 w6 g0 g1 g2 g3 g4 g5 g6 g7 m0 m1 m2 hd d1 d2 d3 q1 q2 q3 l1 l2 c0 c1
  generalize pairS 16 8 (pairS 4 16 (pairS 2 32 M)) = X at r1 r2 r3 r4
  have t1 : IntKind.u64.wrap ((X : Int) + gshr .u64 (X : Int) 8) = ((X + X / 256 : Nat) : Int) := by
    have h' : gshr .u64 (X : Int) 8 = ((X / 2 ^ 8 : Nat) : Int) := shr X 8 (by decide)
    rw [h', ← Int.natCast_add, wu64 r2]
  rw [t1]
  generalize X + X / 256 = Y at r1 r2 r3 r4
  have t2 : IntKind.u64.wrap ((Y : Int) + gshr .u64 (Y : Int) 16) = ((Y + Y / 65536 : Nat) : Int) := by
    have h' : gshr .u64 (Y : Int) 16 = ((Y / 2 ^ 16 : Nat) : Int) := shr Y 16 (by decide)
    rw [h', ← Int.natCast_add, wu64 r3]
  rw [t2]
  generalize Y + Y / 65536 = Z at r1 r2 r3 r4
  have t3 : IntKind.u64.wrap ((Z : Int) + gshr .u64 (Z : Int) 32) = ((Z + Z / 4294967296 : Nat) : Int) := by
    have h' : gshr .u64 (Z : Int) 32 = ((Z / 2 ^ 32 : Nat) : Int) := shr Z 32 (by decide)
    rw [h', ← Int.natCast_add, wu64 (by omega)]
  rw [t3]
  generalize Z + Z / 4294967296 = U at r1 r4
  rw [w64 (by omega) (by omega), hpop, ← r1]
  have b1 := bits_mask .i64 63 (by decide) (fun n h0 h1 => w64 (by omega) (by omega)) 7 (by decide) (U : Int) (by omega) (by omega)
  exact congrArg some b1
/-- The bits below one. -/
def cntTo (M : Nat) : Nat → Nat
  | 0 => 0
  | i + 1 => cntTo M i + if M.testBit i then 1 else 0
theorem cnt_half : ∀ (n M : Nat), cntTo M (n + 1) = M % 2 + cntTo (M / 2) n
  | 0, M => by
    simp only [cntTo, Nat.testBit_zero]
    rcases Nat.mod_two_eq_zero_or_one M with h | h <;> simp [h]
  | n + 1, M => by
    have ih := cnt_half n M
    rw [cntTo, ih, cntTo, Nat.testBit_succ]; omega
theorem cnt_ds : ∀ (n M : Nat), cntTo M n = ds 2 n M
  | 0, M => rfl
  | n + 1, M => by rw [cnt_half, cnt_ds n]; rfl
theorem f27_eq {M : Nat} (hM : M < 18446744073709551616) : f27 (M : Int) = some ((cntTo M 64 : Nat) : Int) := by
  unfold f27
  rw [f46_eq hM, cnt_ds]; rfl
theorem cnt_le (M : Nat) : ∀ n, cntTo M n ≤ n
  | 0 => Nat.le_refl _
  | n + 1 => by have := cnt_le M n; rw [cntTo]; split <;> omega

theorem f25_eq {x : Int} : ∃ n : Nat, n < 64 ∧ f25 x 64 = some (n : Int) := by
  have h1 := Int.tmod_lt_of_pos x (show (0 : Int) < 64 by decide)
  have h2 : -64 < x.tmod 64 := by
    have := Int.lt_tmod_of_pos x (show (0 : Int) < 64 by decide)
    exact this
  unfold f25
  rw [if_neg (by decide), if_pos (by decide)]
  by_cases h : x.tmod 64 < 0
  · rw [if_pos h, w64 (by omega) (by omega)]
    exact ⟨(x.tmod 64 + 64).toNat, by omega, by simp; omega⟩
  · rw [if_neg h]
    exact ⟨(x.tmod 64).toNat, by omega, by simp; omega⟩
theorem hasI_nat {M i : Nat} (hi : i < 64) : hasI M (i : Int) = M.testBit i := by
  unfold hasI
  rw [decide_eq_true (by omega)]; simp
theorem gmin_nat (a b : Nat) : gmin (a : Int) (b : Int) = ((min a b : Nat) : Int) := by rw [gmin_eq]; omega
theorem gmax_nat (a b : Nat) : gmax (a : Int) (b : Int) = ((max a b : Nat) : Int) := by rw [gmax_eq]; omega
theorem f6_loop {M a b X Y : Nat} {v : Bool} (hM : M < 18446744073709551616) (ha : a < 64) (hb : b < 64) (hX : X = putN M (min a b) (max a b) v) (hY : Y = putN X (min a b) (max a b) false) : ∀ (d n i : Nat), i + d = 64 → d < n → f6_l1 (M : Int) v (a : Int) (b : Int) (X : Int) (Y : Int) n ((cntTo X i : Nat) : Int) (i : Int) = some (.inr ((cntTo X 64 : Nat) : Int))
  | d, 0, i, hi, hd => by omega
  | 0, n + 1, i, hi, hd => by
    have : i = 64 := by omega
    subst this
    rw [f6_l1, if_neg (by omega)]
  | d + 1, n + 1, i, hi, hd => by
    have lX : X < 18446744073709551616 := by rw [hX]; exact putN_lt hM (by omega)
    have lY : Y < 18446744073709551616 := by rw [hY]; exact putN_lt lX (by omega)
    have bX : X.testBit i = if min a b ≤ i ∧ i ≤ max a b then v else M.testBit i := by rw [hX]; exact putN_bit (by omega) (by omega) (by omega)
    have bY : Y.testBit i = if min a b ≤ i ∧ i ≤ max a b then false else X.testBit i := by rw [hY]; exact putN_bit (by omega) (by omega) (by omega)
    have ih := f6_loop hM ha hb hX hY d n (i + 1) (by omega) (by omega)
    have hc := cnt_le X i
    have e : IntKind.i64.wrap ((i : Int) + 1) = ((i + 1 : Nat) : Int) := by rw [w64 (by omega) (by omega)]; omega
    have ec : (if X.testBit i = true then some (IntKind.i64.wrap (((cntTo X i : Nat) : Int) + 1)) else some ((cntTo X i : Nat) : Int)) = some ((cntTo X (i + 1) : Nat) : Int) := by
      rw [cntTo]
      split
      · rw [w64 (by omega) (by omega)]; simp
      · simp
    rw [f6_l1, if_pos (by omega), gmin_nat, gmax_nat, f26_eq lX, f26_eq lY, f26_eq hM, hasI_nat (by omega), hasI_nat (by omega), hasI_nat (by omega), e]
    have tail : ∀ Z : Option (Unit ⊕ Bool), Z = some (.inl ()) → (Z.bind fun s => match s with
        | .inl _ => (some (X.testBit i)).bind fun t95 => (if t95 = true then some (IntKind.i64.wrap (((cntTo X i : Nat) : Int) + 1)) else some ((cntTo X i : Nat) : Int)).bind fun x16 => f6_l1 (M : Int) v (a : Int) (b : Int) (X : Int) (Y : Int) n x16 ((i + 1 : Nat) : Int)
        | .inr st => some (Sum.inl st)) = some (.inr ((cntTo X 64 : Nat) : Int)) := by
      intro Z hZ
      rw [hZ]
      simp only [Option.bind_some]
      rw [ec]
      exact ih
    by_cases hin : min a b ≤ i ∧ i ≤ max a b
    · rw [if_pos hin] at bX bY
      have e1 : (if (i : Int) ≥ ((min a b : Nat) : Int) then (some (decide ((i : Int) ≤ ((max a b : Nat) : Int)))).bind fun t61 => some t61 else some false) = some true := by
        rw [if_pos (by omega), decide_eq_true (by omega)]; rfl
      rw [e1]
      simp only [Option.bind_some, if_true]
      refine tail _ ?_
      rw [bX, bY]
      cases v <;> rfl
    · rw [if_neg hin] at bX bY
      have e1 : (if (i : Int) ≥ ((min a b : Nat) : Int) then (some (decide ((i : Int) ≤ ((max a b : Nat) : Int)))).bind fun t61 => some t61 else some false) = some false := by
        by_cases q : (i : Int) ≥ ((min a b : Nat) : Int)
        · rw [if_pos q, decide_eq_false (by omega)]; rfl
        · rw [if_neg q]
      rw [e1]
      simp only [Option.bind_some, Bool.false_eq_true, if_false]
      refine tail _ ?_
      rw [bY, bX]
      cases M.testBit i <;> rfl
theorem f6_eq {M : Nat} (hM : M < 18446744073709551616) (a b : Int) (v : Bool) : f6 1000 (M : Int) a b v = some true := by
  obtain ⟨A, hA, eA⟩ := f25_eq (x := a)
  obtain ⟨B, hB, eB⟩ := f25_eq (x := b)
  unfold f6
  rw [known5, eA, eB]
  simp only [Option.bind_some]
  rw [gmin_nat, gmax_nat, f16_eq hM (by omega) (by omega)]
  simp only [Option.bind_some]
  have lX := putN_lt (a := min A B) (v := v) hM (show max A B < 64 by omega)
  rw [f16_eq lX (by omega) (by omega)]
  simp only [Option.bind_some, if_true]
  have := f6_loop (v := v) hM hA hB rfl rfl 64 1000 0 (by omega) (by omega)
  have h0 : ((cntTo (putN M (min A B) (max A B) v) 0 : Nat) : Int) = 0 := rfl
  rw [h0] at this
  rw [show ((0 : Nat) : Int) = 0 from rfl] at this
  rw [this]
  simp only [Option.bind_some]
  rw [f27_eq lX]
  simp
theorem pure6 : Pure6 := fun x0 x1 x2 x3 h0 _ _ _ => by
  obtain ⟨M, rfl, hM⟩ := okU h0
  exact ⟨1000, f6_eq hM x1 x2 x3⟩
end Go.Proofs.YtcephcgnfmcdhaaDoor
