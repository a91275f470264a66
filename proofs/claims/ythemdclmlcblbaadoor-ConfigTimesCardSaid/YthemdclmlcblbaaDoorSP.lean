import Derived.Test.YthemdclmlcblbaaDoorFC
import Derived.Test.YthemdclmlcblbaaDoorD51
import Derived.Lib.BitFns
import Derived.Laws.BitsAllLaws
import Derived.Test.YthemdclmlcblbaaDoorD52
import Derived.Test.YthemdclmlcblbaaDoorRows
import Derived.Shelf.Vars
import Derived.Lay
import Derived.Stop.Joined
set_option linter.unusedVariables false
namespace Go.Proofs.YthemdclmlcblbaaDoor
open Go Go.Det Go.RowKit
theorem ul3 : Tryd.prog.underlying 3 = some (.int .i64) := by kernel_rfl
def ok3 (x : Int) : Prop := okI .i64 x
theorem rd3 {H : Hp} {cs : List Value} (h : Rd Tryd.prog H 3 cs) : ∃ x : Int, Cod.rep intC 0 H cs x ∧ ok3 x := by
  obtain ⟨x, rfl, hx⟩ := h.int_inv ul3
  exact ⟨x, rfl, hx⟩
theorem ul22 : Tryd.prog.underlying 22 = some (.slice 3) := by kernel_rfl
theorem bo22 : Tryd.prog.bytesOf 3 = 8 := by kernel_rfl
def ok22 (x : List Int) : Prop := (∀ y ∈ x, ok3 y) ∧ x.length * 8 ≤ reachBytes ∧ x.length ≤ maxLen
theorem rd22 {H : Hp} {cs : List Value} (h : Rd Tryd.prog H 22 cs) : ∃ x : List Int, Cod.rep (slC intC) 0 H cs x ∧ ok22 x := by
  obtain ⟨l, a, cap, rfl, h1, h2, h3, h4⟩ := h.sl_inv (c := intC) ul22 fun cs h => rd3 h
  rw [bo22] at h3
  exact ⟨l, ⟨a, cap, rfl, h1⟩, h2, h3, h4⟩
theorem ul23 : Tryd.prog.underlying 23 = some (.slice 22) := by kernel_rfl
theorem bo23 : Tryd.prog.bytesOf 22 = 24 := by kernel_rfl
def ok23 (x : List (List Int)) : Prop := (∀ y ∈ x, ok22 y) ∧ x.length * 24 ≤ reachBytes ∧ x.length ≤ maxLen
theorem rd23 {H : Hp} {cs : List Value} (h : Rd Tryd.prog H 23 cs) : ∃ x : List (List Int), Cod.rep (slC (slC intC)) 0 H cs x ∧ ok23 x := by
  obtain ⟨l, a, cap, rfl, h1, h2, h3, h4⟩ := h.sl_inv (c := (slC intC)) ul23 fun cs h => rd22 h
  rw [bo23] at h3
  exact ⟨l, ⟨a, cap, rfl, h1⟩, h2, h3, h4⟩
theorem ul24 : Tryd.prog.underlying 24 = some (.int .u64) := by kernel_rfl
def ok24 (x : Int) : Prop := okI .u64 x
theorem rd24 {H : Hp} {cs : List Value} (h : Rd Tryd.prog H 24 cs) : ∃ x : Int, Cod.rep (kindC .u64) 0 H cs x ∧ ok24 x := by
  obtain ⟨x, rfl, hx⟩ := h.int_inv ul24
  exact ⟨x, rfl, hx⟩
theorem ul26 : ∃ fs, Tryd.prog.underlying 26 = some (.struct fs) ∧ fs.toList.map (·.type) = [24, 3, 3] := ⟨_, Tryd.underlying26, rfl⟩
def ok26 (x : RuleT) : Prop := ok24 x.Mask ∧ ok3 x.Home ∧ ok3 x.Calls
theorem rd26 {H : Hp} {cs : List Value} (h : Rd Tryd.prog H 26 cs) : ∃ x : RuleT, Cod.rep RuleTC 0 H cs x ∧ ok26 x := by
  obtain ⟨fs, hu, hm⟩ := ul26
  have h := h.struct_inv hu
  obtain ⟨fs⟩ := fs
  simp only at hm h
  obtain ⟨f0, fs, rfl⟩ : ∃ f r, fs = f :: r := by cases fs with | nil => cases hm | cons f r => exact ⟨f, r, rfl⟩
  obtain ⟨c0, d0, e0, h0, h⟩ := h.cons_inv
  simp only [List.map_cons, List.cons.injEq] at hm
  obtain ⟨m0, hm⟩ := hm
  rw [m0] at h0
  obtain ⟨f1, fs, rfl⟩ : ∃ f r, fs = f :: r := by cases fs with | nil => cases hm | cons f r => exact ⟨f, r, rfl⟩
  obtain ⟨c1, d1, e1, h1, h⟩ := h.cons_inv
  simp only [List.map_cons, List.cons.injEq] at hm
  obtain ⟨m1, hm⟩ := hm
  rw [m1] at h1
  obtain ⟨f2, fs, rfl⟩ : ∃ f r, fs = f :: r := by cases fs with | nil => cases hm | cons f r => exact ⟨f, r, rfl⟩
  obtain ⟨c2, d2, e2, h2, h⟩ := h.cons_inv
  simp only [List.map_cons, List.cons.injEq] at hm
  obtain ⟨m2, hm⟩ := hm
  rw [m2] at h2
  obtain rfl : fs = [] := by cases fs with | nil => rfl | cons f r => cases hm
  have h := h.nil_inv
  obtain ⟨y0, rfl, k0⟩ := rd24 h0
  obtain ⟨y1, rfl, k1⟩ := rd3 h1
  obtain ⟨y2, rfl, k2⟩ := rd3 h2
  subst h
  subst e2
  subst e1
  subst e0
  exact ⟨RuleT.mk y0 y1 y2, rfl, ⟨k0, k1, k2⟩⟩
theorem ul27 : Tryd.prog.underlying 27 = some (.array 3 26) := by kernel_rfl
def ok27 (x : T27) : Prop := ok26 (RuleT.mk x.c0_Mask x.c0_Home x.c0_Calls) ∧ ok26 (RuleT.mk x.c1_Mask x.c1_Home x.c1_Calls) ∧ ok26 (RuleT.mk x.c2_Mask x.c2_Home x.c2_Calls)
theorem rd27 {H : Hp} {cs : List Value} (h : Rd Tryd.prog H 27 cs) : ∃ x : T27, Cod.rep T27C 0 H cs x ∧ ok27 x := by
  have h := h.array_inv ul27
  obtain ⟨c0, d0, e0, h0, h⟩ := h.succ_inv
  obtain ⟨c1, d1, e1, h1, h⟩ := h.succ_inv
  obtain ⟨c2, d2, e2, h2, h⟩ := h.succ_inv
  have h := h.zero_inv
  obtain ⟨⟨y0_Mask, y0_Home, y0_Calls⟩, rfl, k0⟩ := rd26 h0
  obtain ⟨⟨y1_Mask, y1_Home, y1_Calls⟩, rfl, k1⟩ := rd26 h1
  obtain ⟨⟨y2_Mask, y2_Home, y2_Calls⟩, rfl, k2⟩ := rd26 h2
  subst h
  subst e2
  subst e1
  subst e0
  exact ⟨T27.mk y0_Mask y0_Home y0_Calls y1_Mask y1_Home y1_Calls y2_Mask y2_Home y2_Calls, rfl, ⟨k0, k1, k2⟩⟩
theorem ul29 : ∃ fs, Tryd.prog.underlying 29 = some (.struct fs) ∧ fs.toList.map (·.type) = [3, 22, 3, 3, 3, 3, 3, 3, 3, 3, 3, 3, 3, 23, 27, 22, 3] := ⟨_, Tryd.underlying29, rfl⟩
def ok29 (x : Config) : Prop := ok3 x.Floors ∧ ok22 x.Gaps ∧ ok3 x.Cars ∧ ok3 x.Speed ∧ ok3 x.Brake ∧ ok3 x.Tol ∧ ok3 x.Width ∧ ok3 x.Dwell ∧ ok3 x.Retries ∧ ok3 x.Empty ∧ ok3 x.Full ∧ ok3 x.Trips ∧ ok3 x.Slots ∧ ok23 x.Rota ∧ ok27 (T27.mk x.Rules_0_Mask x.Rules_0_Home x.Rules_0_Calls x.Rules_1_Mask x.Rules_1_Home x.Rules_1_Calls x.Rules_2_Mask x.Rules_2_Home x.Rules_2_Calls) ∧ ok22 x.Keys ∧ ok3 x.Life
theorem rd29 {H : Hp} {cs : List Value} (h : Rd Tryd.prog H 29 cs) : ∃ x : Config, Cod.rep ConfigC 0 H cs x ∧ ok29 x := by
  obtain ⟨fs, hu, hm⟩ := ul29
  have h := h.struct_inv hu
  obtain ⟨fs⟩ := fs
  simp only at hm h
  obtain ⟨f0, fs, rfl⟩ : ∃ f r, fs = f :: r := by cases fs with | nil => cases hm | cons f r => exact ⟨f, r, rfl⟩
  obtain ⟨c0, d0, e0, h0, h⟩ := h.cons_inv
  simp only [List.map_cons, List.cons.injEq] at hm
  obtain ⟨m0, hm⟩ := hm
  rw [m0] at h0
  obtain ⟨f1, fs, rfl⟩ : ∃ f r, fs = f :: r := by cases fs with | nil => cases hm | cons f r => exact ⟨f, r, rfl⟩
  obtain ⟨c1, d1, e1, h1, h⟩ := h.cons_inv
  simp only [List.map_cons, List.cons.injEq] at hm
  obtain ⟨m1, hm⟩ := hm
  rw [m1] at h1
  obtain ⟨f2, fs, rfl⟩ : ∃ f r, fs = f :: r := by cases fs with | nil => cases hm | cons f r => exact ⟨f, r, rfl⟩
  obtain ⟨c2, d2, e2, h2, h⟩ := h.cons_inv
  simp only [List.map_cons, List.cons.injEq] at hm
  obtain ⟨m2, hm⟩ := hm
  rw [m2] at h2
  obtain ⟨f3, fs, rfl⟩ : ∃ f r, fs = f :: r := by cases fs with | nil => cases hm | cons f r => exact ⟨f, r, rfl⟩
  obtain ⟨c3, d3, e3, h3, h⟩ := h.cons_inv
  simp only [List.map_cons, List.cons.injEq] at hm
  obtain ⟨m3, hm⟩ := hm
  rw [m3] at h3
  obtain ⟨f4, fs, rfl⟩ : ∃ f r, fs = f :: r := by cases fs with | nil => cases hm | cons f r => exact ⟨f, r, rfl⟩
  obtain ⟨c4, d4, e4, h4, h⟩ := h.cons_inv
  simp only [List.map_cons, List.cons.injEq] at hm
  obtain ⟨m4, hm⟩ := hm
  rw [m4] at h4
  obtain ⟨f5, fs, rfl⟩ : ∃ f r, fs = f :: r := by cases fs with | nil => cases hm | cons f r => exact ⟨f, r, rfl⟩
  obtain ⟨c5, d5, e5, h5, h⟩ := h.cons_inv
  simp only [List.map_cons, List.cons.injEq] at hm
  obtain ⟨m5, hm⟩ := hm
  rw [m5] at h5
  obtain ⟨f6, fs, rfl⟩ : ∃ f r, fs = f :: r := by cases fs with | nil => cases hm | cons f r => exact ⟨f, r, rfl⟩
  obtain ⟨c6, d6, e6, h6, h⟩ := h.cons_inv
  simp only [List.map_cons, List.cons.injEq] at hm
  obtain ⟨m6, hm⟩ := hm
  rw [m6] at h6
  obtain ⟨f7, fs, rfl⟩ : ∃ f r, fs = f :: r := by cases fs with | nil => cases hm | cons f r => exact ⟨f, r, rfl⟩
  obtain ⟨c7, d7, e7, h7, h⟩ := h.cons_inv
  simp only [List.map_cons, List.cons.injEq] at hm
  obtain ⟨m7, hm⟩ := hm
  rw [m7] at h7
  obtain ⟨f8, fs, rfl⟩ : ∃ f r, fs = f :: r := by cases fs with | nil => cases hm | cons f r => exact ⟨f, r, rfl⟩
  obtain ⟨c8, d8, e8, h8, h⟩ := h.cons_inv
  simp only [List.map_cons, List.cons.injEq] at hm
  obtain ⟨m8, hm⟩ := hm
  rw [m8] at h8
  obtain ⟨f9, fs, rfl⟩ : ∃ f r, fs = f :: r := by cases fs with | nil => cases hm | cons f r => exact ⟨f, r, rfl⟩
  obtain ⟨c9, d9, e9, h9, h⟩ := h.cons_inv
  simp only [List.map_cons, List.cons.injEq] at hm
  obtain ⟨m9, hm⟩ := hm
  rw [m9] at h9
  obtain ⟨f10, fs, rfl⟩ : ∃ f r, fs = f :: r := by cases fs with | nil => cases hm | cons f r => exact ⟨f, r, rfl⟩
  obtain ⟨c10, d10, e10, h10, h⟩ := h.cons_inv
  simp only [List.map_cons, List.cons.injEq] at hm
  obtain ⟨m10, hm⟩ := hm
  rw [m10] at h10
  obtain ⟨f11, fs, rfl⟩ : ∃ f r, fs = f :: r := by cases fs with | nil => cases hm | cons f r => exact ⟨f, r, rfl⟩
  obtain ⟨c11, d11, e11, h11, h⟩ := h.cons_inv
  simp only [List.map_cons, List.cons.injEq] at hm
  obtain ⟨m11, hm⟩ := hm
  rw [m11] at h11
  obtain ⟨f12, fs, rfl⟩ : ∃ f r, fs = f :: r := by cases fs with | nil => cases hm | cons f r => exact ⟨f, r, rfl⟩
  obtain ⟨c12, d12, e12, h12, h⟩ := h.cons_inv
  simp only [List.map_cons, List.cons.injEq] at hm
  obtain ⟨m12, hm⟩ := hm
  rw [m12] at h12
  obtain ⟨f13, fs, rfl⟩ : ∃ f r, fs = f :: r := by cases fs with | nil => cases hm | cons f r => exact ⟨f, r, rfl⟩
  obtain ⟨c13, d13, e13, h13, h⟩ := h.cons_inv
  simp only [List.map_cons, List.cons.injEq] at hm
  obtain ⟨m13, hm⟩ := hm
  rw [m13] at h13
  obtain ⟨f14, fs, rfl⟩ : ∃ f r, fs = f :: r := by cases fs with | nil => cases hm | cons f r => exact ⟨f, r, rfl⟩
  obtain ⟨c14, d14, e14, h14, h⟩ := h.cons_inv
  simp only [List.map_cons, List.cons.injEq] at hm
  obtain ⟨m14, hm⟩ := hm
  rw [m14] at h14
  obtain ⟨f15, fs, rfl⟩ : ∃ f r, fs = f :: r := by cases fs with | nil => cases hm | cons f r => exact ⟨f, r, rfl⟩
  obtain ⟨c15, d15, e15, h15, h⟩ := h.cons_inv
  simp only [List.map_cons, List.cons.injEq] at hm
  obtain ⟨m15, hm⟩ := hm
  rw [m15] at h15
  obtain ⟨f16, fs, rfl⟩ : ∃ f r, fs = f :: r := by cases fs with | nil => cases hm | cons f r => exact ⟨f, r, rfl⟩
  obtain ⟨c16, d16, e16, h16, h⟩ := h.cons_inv
  simp only [List.map_cons, List.cons.injEq] at hm
  obtain ⟨m16, hm⟩ := hm
  rw [m16] at h16
  obtain rfl : fs = [] := by cases fs with | nil => rfl | cons f r => cases hm
  have h := h.nil_inv
  obtain ⟨y0, rfl, k0⟩ := rd3 h0
  obtain ⟨y1, ⟨a_y1, c_y1, rfl, g_y1⟩, k1⟩ := rd22 h1
  obtain ⟨y2, rfl, k2⟩ := rd3 h2
  obtain ⟨y3, rfl, k3⟩ := rd3 h3
  obtain ⟨y4, rfl, k4⟩ := rd3 h4
  obtain ⟨y5, rfl, k5⟩ := rd3 h5
  obtain ⟨y6, rfl, k6⟩ := rd3 h6
  obtain ⟨y7, rfl, k7⟩ := rd3 h7
  obtain ⟨y8, rfl, k8⟩ := rd3 h8
  obtain ⟨y9, rfl, k9⟩ := rd3 h9
  obtain ⟨y10, rfl, k10⟩ := rd3 h10
  obtain ⟨y11, rfl, k11⟩ := rd3 h11
  obtain ⟨y12, rfl, k12⟩ := rd3 h12
  obtain ⟨y13, ⟨a_y13, c_y13, rfl, g_y13⟩, k13⟩ := rd23 h13
  obtain ⟨⟨y14_c0_Mask, y14_c0_Home, y14_c0_Calls, y14_c1_Mask, y14_c1_Home, y14_c1_Calls, y14_c2_Mask, y14_c2_Home, y14_c2_Calls⟩, rfl, k14⟩ := rd27 h14
  obtain ⟨y15, ⟨a_y15, c_y15, rfl, g_y15⟩, k15⟩ := rd22 h15
  obtain ⟨y16, rfl, k16⟩ := rd3 h16
  subst h
  subst e16
  subst e15
  subst e14
  subst e13
  subst e12
  subst e11
  subst e10
  subst e9
  subst e8
  subst e7
  subst e6
  subst e5
  subst e4
  subst e3
  subst e2
  subst e1
  subst e0
  exact ⟨Config.mk y0 y1 y2 y3 y4 y5 y6 y7 y8 y9 y10 y11 y12 y13 y14_c0_Mask y14_c0_Home y14_c0_Calls y14_c1_Mask y14_c1_Home y14_c1_Calls y14_c2_Mask y14_c2_Home y14_c2_Calls y15 y16, ⟨_, _, _, _, _, _, rfl, g_y1, g_y13, g_y15⟩, ⟨k0, k1, k2, k3, k4, k5, k6, k7, k8, k9, k10, k11, k12, k13, k14, k15, k16⟩⟩
def Pure3 : Prop := ∀ (x0 : Config) (x1 : Int) (x2 : Int), ok29 x0 → ok3 x1 → ok3 x2 → ∃ k : Nat, f3 k x0 x1 x2 = some true
theorem law3 (hp : Pure3) (H : Hp) (args : List Value) (_ : Tryd.prog.globals.size ≤ H.next) (h : RdArgs Tryd.prog H Tryd.f3.params.toList args) : SCall Tryd.prog 3 args H (fun e _ => e = .ret (.bool true)) := by
  replace h : RdArgs Tryd.prog H [29, 3, 3] args := h
  obtain ⟨v0, args0, ea0, h0, h⟩ := h.aggr (by kernel_rfl)
  obtain ⟨x0, ⟨a0_0, c0_0, a0_1, c0_1, a0_2, c0_2, e0, g0_0, g0_1, g0_2⟩, k0⟩ := rd29 h0
  subst e0
  obtain ⟨v1, args1, ea1, h1, h⟩ := h.scal (by kernel_rfl)
  obtain ⟨x1, e1, k1⟩ := rd3 h1
  obtain rfl := (List.cons.inj e1).1
  obtain ⟨v2, args2, ea2, h2, h⟩ := h.scal (by kernel_rfl)
  obtain ⟨x2, e2, k2⟩ := rd3 h2
  obtain rfl := (List.cons.inj e2).1
  obtain rfl := h.nil_inv
  subst ea2
  subst ea1
  subst ea0
  obtain ⟨k, hk⟩ := hp x0 x1 x2 k0 k1 k2
  exact (f3_ok g0_0 g0_1 g0_2 hk).mono fun e H' ⟨v, h1, _, h2⟩ => by rw [h1, h2]
end Go.Proofs.YthemdclmlcblbaaDoor

set_option linter.unusedVariables false
set_option linter.unusedSimpArgs false
namespace Go.Proofs.YthemdclmlcblbaaDoor
open Go Go.Det Go.RowKit
/-! Sets of floors -/
theorem w64 {x : Int} (h1 : -9223372036854775808 ≤ x) (h2 : x ≤ 9223372036854775807) : IntKind.i64.wrap x = x := by rw [IntKind.wrap_i64]; omega
theorem wu64 {n : Nat} (h : n < 18446744073709551616) : IntKind.u64.wrap (n : Int) = (n : Int) := by rw [IntKind.wrap_u64]; omega
theorem pow64 {n : Nat} (h : n < 64) : 2 ^ n < 18446744073709551616 := by
  have := Nat.pow_lt_pow_right (a := 2) (by decide) h
  exact this
theorem pow64' {n : Nat} (h : n ≤ 64) : 2 ^ n ≤ 18446744073709551616 := by
  have := Nat.pow_le_pow_right (n := 2) (by decide) h
  exact this
theorem shl1 {n : Nat} (h : n < 64) : gshl .u64 1 (n : Int) = ((2 ^ n : Nat) : Int) := by
  unfold gshl
  have : min ((n : Int).toNat) IntKind.u64.bits = n := by simp [IntKind.bits]; omega
  rw [this, Int.one_mul, show ((2 : Int) ^ n) = ((2 ^ n : Nat) : Int) from by simp, wu64 (pow64 h)]
theorem okU {x : Int} (h : okI .u64 x) : ∃ M : Nat, x = (M : Int) ∧ M < 18446744073709551616 := by
  simp [okI, Lit.wf, IntKind.min, IntKind.max, IntKind.signed, IntKind.bits] at h
  exact ⟨x.toNat, by omega, by omega⟩
theorem testBit_big {M i : Nat} (h : M < 18446744073709551616) (hi : 64 ≤ i) : M.testBit i = false :=
  Nat.testBit_lt_two_pow (Nat.lt_of_lt_of_le h (by have := Nat.pow_le_pow_right (n := 2) (by decide) hi; exact this))
theorem ext64 {A B : Nat} (ha : A < 18446744073709551616) (hb : B < 18446744073709551616) (h : ∀ i, i < 64 → A.testBit i = B.testBit i) : A = B := by
  apply Nat.eq_of_testBit_eq
  intro i
  by_cases hi : i < 64
  · exact h i hi
  · rw [testBit_big ha (by omega), testBit_big hb (by omega)]
theorem testBit_not {x i : Nat} (hx : x < 18446744073709551616) (hi : i < 64) : (18446744073709551615 - x).testBit i = !x.testBit i := by
  have := Nat.testBit_two_pow_sub_succ (n := 64) (x := x) hx i
  rw [show 2 ^ 64 - (x + 1) = 18446744073709551615 - x from by omega] at this
  rw [this]; simp [hi]

theorem f68_eq (x : Int) : f68 x = some (decide (0 ≤ x ∧ x < 64)) := by
  unfold f68
  by_cases h : 0 ≤ x
  · rw [if_pos h]; simp [h]
  · rw [if_neg h]; simp [h]
theorem f67_eq {n : Nat} (h : n ≤ 64) : f67 (n : Int) = some ((2 ^ n - 1 : Nat) : Int) := by
  unfold f67
  by_cases h1 : n = 64
  · subst h1; rfl
  · rw [if_neg (by omega), wu64 (by omega), shl1 (by omega)]
    have := pow64 (n := n) (by omega)
    have hp : 0 < 2 ^ n := Nat.pow_pos (by decide)
    rw [show ((2 ^ n : Nat) : Int) - 1 = ((2 ^ n - 1 : Nat) : Int) from by omega, wu64 (by omega)]
theorem hasAnd {M n : Nat} (hM : M < 18446744073709551616) (hn : n < 64) : (bits .and .u64 (M : Int) ((2 ^ n : Nat) : Int) != 0) = M.testBit n := by
  have : 0 < 2 ^ n := Nat.pow_pos (by decide)
  rw [u64_and_nat M _ hM (pow64 hn), nat_bit, Nat.testBit_eq_decide_div_mod_eq]
  rcases Nat.mod_two_eq_zero_or_one (M / 2 ^ n) with h | h
  · simp [h]
  · rw [h, Nat.one_mul]
    generalize 2 ^ n = p at this ⊢
    simp; omega
def hasI (M : Nat) (x : Int) : Bool := decide (0 ≤ x ∧ x < 64) && M.testBit x.toNat
theorem f60_eq {M : Nat} (hM : M < 18446744073709551616) (x : Int) : f60 (M : Int) x = some (hasI M x) := by
  unfold f60 hasI
  rw [f68_eq]
  by_cases h : 0 ≤ x ∧ x < 64
  · obtain ⟨n, rfl⟩ := Int.eq_ofNat_of_zero_le h.1
    simp only [Option.bind_some, decide_eq_true h, if_true, Bool.true_and]
    rw [wu64 (by omega), shl1 (by omega), hasAnd hM (by omega)]; rfl
  · simp [h]
theorem f41_eq {M : Nat} (hM : M < 18446744073709551616) (x : Int) : f41 (M : Int) x = some (hasI M x) := by
  unfold f41 hasI
  by_cases h : 0 ≤ x
  · rw [if_pos h]
    by_cases h2 : x < 64
    · rw [if_pos h2]
      obtain ⟨n, rfl⟩ := Int.eq_ofNat_of_zero_le h
      have hb : min ((n : Int).toNat) IntKind.u64.bits = n := by simp [IntKind.bits]; omega
      have hr : gshr .u64 (M : Int) (n : Int) = ((M / 2 ^ n : Nat) : Int) := by
        unfold gshr
        rw [hb, show ((2 : Int) ^ n) = ((2 ^ n : Nat) : Int) from by simp, Int.fdiv_eq_ediv_of_nonneg _ (Int.natCast_nonneg _)]; rfl
      have hlt : M / 2 ^ n < 18446744073709551616 := Nat.lt_of_le_of_lt (Nat.div_le_self _ _) hM
      have h1 : bits .and .u64 ((M / 2 ^ n : Nat) : Int) 1 = ((M / 2 ^ n &&& 1 : Nat) : Int) := u64_and_nat _ 1 hlt (by decide)
      rw [wu64 (by omega), hr, h1, Nat.and_one_is_mod]
      clear h1 hr
      simp only [Option.bind_some, Int.toNat_natCast, Nat.testBit_eq_decide_div_mod_eq, decide_eq_true (show 0 ≤ (n : Int) ∧ (n : Int) < 64 from ⟨h, h2⟩), Bool.true_and]
      congr 1
      rw [Bool.eq_iff_iff, beq_iff_eq, decide_eq_true_iff]; omega
    · rw [if_neg h2]; simp [h2]
  · rw [if_neg h]; simp [h]

theorem f59_eq {n : Nat} (h : n ≤ 64) : f59 (n : Int) = some (((2 ^ n - 1 : Nat) : Int), 0) := by
  unfold f59
  rw [if_neg (by omega), if_neg (by omega), f67_eq h]; rfl
theorem ctz_spec {x : Nat} (h0 : x ≠ 0) (hx : x < 18446744073709551616) : Lib.ctz 64 x < 64 ∧ x.testBit (Lib.ctz 64 x) = true ∧ ∀ j, j < Lib.ctz 64 x → x.testBit j = false := by
  have he : Lib.ctz 64 x = Lib.ctzFrom 64 x := by unfold Lib.ctz; rw [if_neg h0]
  rw [he]
  obtain ⟨m, h1, h2⟩ := Lib.ctzFrom_spec 64 x (by omega) hx
  generalize Lib.ctzFrom 64 x = c at h1 h2
  subst h1
  refine ⟨h2, ?_, fun j hj => ?_⟩
  · rw [Nat.testBit_eq_decide_div_mod_eq, Nat.mul_div_cancel_left _ (Nat.pow_pos (by decide))]
    simp
  · rw [Nat.testBit_eq_decide_div_mod_eq]
    have : 2 ^ c * (2 * m + 1) / 2 ^ j = 2 * (2 ^ (c - j - 1) * (2 * m + 1)) := by
      have e : 2 ^ c = 2 ^ j * (2 * 2 ^ (c - j - 1)) := by
        rw [← Nat.pow_succ', ← Nat.pow_add]; congr 1; omega
      rw [e, Nat.mul_assoc, Nat.mul_div_cancel_left _ (Nat.pow_pos (by decide)), Nat.mul_assoc]
    rw [this]; simp
theorem shr (M n : Nat) (h : n < 64) : gshr .u64 (M : Int) (n : Int) = ((M / 2 ^ n : Nat) : Int) := by
  have hb : min ((n : Int).toNat) IntKind.u64.bits = n := by simp [IntKind.bits]; omega
  unfold gshr
  rw [hb, show ((2 : Int) ^ n) = ((2 ^ n : Nat) : Int) from by simp, Int.fdiv_eq_ediv_of_nonneg _ (Int.natCast_nonneg _)]; rfl
theorem hasI_nat {M i : Nat} (hi : i < 64) : hasI M (i : Int) = M.testBit i := by
  unfold hasI
  rw [decide_eq_true (by omega)]; simp
def cntTo (M : Nat) : Nat → Nat
  | 0 => 0
  | i + 1 => cntTo M i + if M.testBit i then 1 else 0
theorem cnt_le (M : Nat) : ∀ n, cntTo M n ≤ n
  | 0 => Nat.le_refl _
  | n + 1 => by have := cnt_le M n; rw [cntTo]; split <;> omega

theorem gmin_nat (a b : Nat) : gmin (a : Int) (b : Int) = ((min a b : Nat) : Int) := by rw [gmin_eq]; omega
theorem gmax_nat (a b : Nat) : gmax (a : Int) (b : Int) = ((max a b : Nat) : Int) := by rw [gmax_eq]; omega
def upTo (M j : Nat) : List Nat := (List.range j).filter fun i => M.testBit i
def ints (l : List Nat) : List Int := l.map fun (i : Nat) => (i : Int)
theorem upTo_succ (M j : Nat) : upTo M (j + 1) = upTo M j ++ if M.testBit j then [j] else [] := by
  unfold upTo
  rw [List.range_succ, List.filter_append]
  congr 1
  by_cases h : M.testBit j <;> simp [h]
theorem upTo_len (M : Nat) : ∀ j, (upTo M j).length = cntTo M j
  | 0 => rfl
  | j + 1 => by
    rw [upTo_succ, List.length_append, upTo_len M j, cntTo]
    by_cases h : M.testBit j <;> simp [h]
theorem ints_append (a b : List Nat) : ints (a ++ b) = ints a ++ ints b := by simp [ints]
theorem ints_len (a : List Nat) : (ints a).length = a.length := by simp [ints]
theorem upTo_gap {M c : Nat} : ∀ (d j : Nat), j + d = c → (∀ i, j ≤ i → i < c → M.testBit i = false) → upTo M c = upTo M j
  | 0, j, h, _ => by simp at h; rw [h]
  | d + 1, j, h, hz => by
    obtain ⟨c, rfl⟩ : ∃ c', c = c' + 1 := ⟨c - 1, by omega⟩
    rw [upTo_succ, hz c (by omega) (by omega)]
    simp only [Bool.false_eq_true, if_false, List.append_nil]
    exact upTo_gap d j (by omega) fun i h1 h2 => hz i h1 (by omega)
theorem apd_ok {α : Type} {by_ : Nat} {l l' : List α} (h : (l.length + l'.length) * by_ ≤ 140737488355328) : apd by_ l l' = some (l ++ l') := by unfold apd; rw [if_pos h]
theorem clear_low {x : Nat} (h0 : x ≠ 0) (hx : x < 18446744073709551616) : ∀ i, (x &&& (x - 1)).testBit i = (x.testBit i && decide (Lib.ctz 64 x < i)) := by
  obtain ⟨c1, c2, c3⟩ := ctz_spec h0 hx
  have he : Lib.ctz 64 x = Lib.ctzFrom 64 x := by unfold Lib.ctz; rw [if_neg h0]
  obtain ⟨m, h1, h2⟩ := Lib.ctzFrom_spec 64 x (by omega) hx
  rw [← he] at h1
  generalize Lib.ctz 64 x = c at h1 c1 c2 c3
  intro i
  rw [Nat.testBit_and]
  have hp : 0 < 2 ^ c := Nat.pow_pos (by decide)
  have e : x - 1 = 2 ^ c * (2 * m) + (2 ^ c - 1) := by
    rw [h1, Nat.mul_add, Nat.mul_one]; omega
  rcases Nat.lt_trichotomy i c with h | h | h
  · rw [c3 i h]; simp
  · subst h
    rw [e, Nat.testBit_two_pow_mul_add _ (by omega)]
    simp
  · rw [e, Nat.testBit_two_pow_mul_add _ (by omega), if_neg (by omega)]
    have e2 : x = 2 ^ c * (2 * m + 1) + 0 := by rw [h1]; rfl
    rw [e2, Nat.testBit_two_pow_mul_add _ hp, if_neg (by omega), decide_eq_true h]
    obtain ⟨j, hj⟩ : ∃ j, i - c = j + 1 := ⟨i - c - 1, by omega⟩
    rw [hj, Nat.testBit_succ, Nat.testBit_succ]
    rw [show (2 * m + 1) / 2 = m from by omega, show 2 * m / 2 = m from by omega]; simp
theorem f40_loop {M : Nat} (hM : M < 18446744073709551616) : ∀ (d n j x : Nat), j + d = 65 → d < n → x < 18446744073709551616 → (∀ i, x.testBit i = (M.testBit i && decide (j ≤ i))) → f40_l1 n (ints (upTo M j)) (x : Int) = some (ints (upTo M 64))
  | d, 0, j, x, hj, hd, hx, hb => by omega
  | d, n + 1, j, x, hj, hd, hx, hb => by
    rw [f40_l1]
    by_cases h0 : x = 0
    · subst h0
      rw [if_pos (show ((0 : Nat) : Int) = 0 from rfl)]
      have hz : ∀ i, j ≤ i → M.testBit i = false := by
        intro i hi
        have := hb i
        rw [Nat.zero_testBit] at this
        simpa [hi] using this.symm
      rcases Nat.le_total j 64 with q | q
      · rw [upTo_gap (c := 64) (64 - j) j (by omega) fun i h1 _ => hz i h1]
      · rw [upTo_gap (c := j) (j - 64) 64 (by omega) fun i h1 _ => testBit_big hM h1]
    · rw [if_neg (by omega)]
      obtain ⟨c1, c2, c3⟩ := ctz_spec h0 hx
      have hcl := clear_low h0 hx
      have e1 : IntKind.u64.wrap ((x : Int) - 1) = ((x - 1 : Nat) : Int) := by rw [show (x : Int) - 1 = ((x - 1 : Nat) : Int) from by omega, wu64 (by omega)]
      have e41 : f62 (x : Int) = some ((Lib.ctz 64 x : Nat) : Int) := by
        unfold f62; rw [if_pos ⟨by omega, by omega⟩]; simp
      rw [e41, e1, u64_and_nat x _ hx (by omega)]
      generalize Lib.ctz 64 x = c at c1 c2 c3 hcl
      have hjc : j ≤ c := by
        have := hb c
        rw [c2] at this
        simp at this; omega
      have hMc : M.testBit c = true := by
        have := hb c
        rw [c2] at this
        simp at this; exact this.1
      have hgap : upTo M c = upTo M j := upTo_gap (c - j) j (by omega) fun i h1 h2 => by
        have := hb i
        rw [c3 i h2] at this
        simpa [h1] using this.symm
      have hnext : upTo M (c + 1) = upTo M j ++ [c] := by rw [upTo_succ, hMc, hgap]; rfl
      have hl := cnt_le M j
      simp only [Option.bind_some]
      rw [apd_ok (by rw [ints_len, upTo_len]; simp; omega)]
      simp only [Option.bind_some]
      have ih := f40_loop hM (64 - c) n (c + 1) (x &&& (x - 1)) (by omega) (by omega) (Nat.lt_of_le_of_lt Nat.and_le_left hx) fun i => by
        rw [hcl i, hb i]
        cases M.testBit i
        · simp
        · rw [Bool.eq_iff_iff]; simp; omega
      rw [hnext, ints_append] at ih
      exact ih
theorem f40_eq {k : Nat} (hk : 66 ≤ k) {M : Nat} (hM : M < 18446744073709551616) : f40 k (M : Int) = some (ints (upTo M 64)) := by
  unfold f40
  have := f40_loop hM 65 k 0 M (by omega) (by omega) hM fun i => by simp
  have h : f40_l1 k [] (M : Int) = some (ints (upTo M 64)) := this
  rw [h]; rfl
end Go.Proofs.YthemdclmlcblbaaDoor

set_option linter.unusedVariables false
set_option linter.unusedSimpArgs false
namespace Go.Proofs.YthemdclmlcblbaaDoor
open Go Go.Det Go.RowKit
theorem eta (c : Config) : Config.mk c.Floors c.Gaps c.Cars c.Speed c.Brake c.Tol c.Width c.Dwell c.Retries c.Empty c.Full c.Trips c.Slots c.Rota c.Rules_0_Mask c.Rules_0_Home c.Rules_0_Calls c.Rules_1_Mask c.Rules_1_Home c.Rules_1_Calls c.Rules_2_Mask c.Rules_2_Home c.Rules_2_Calls c.Keys c.Life = c := rfl
theorem next64 {i : Nat} (h : i < 1000000) : IntKind.i64.wrap ((i : Int) + 1) = ((i + 1 : Nat) : Int) := by rw [w64 (by omega) (by omega)]; omega
theorem dropC {α : Type} {l : List α} {i : Nat} (h : i < l.length) : ∃ x, l[i]? = some x ∧ x ∈ l ∧ l.drop i = x :: l.drop (i + 1) := by
  refine ⟨l[i], List.getElem?_eq_getElem h, List.getElem_mem h, ?_⟩
  rw [List.drop_eq_getElem_cons h]
/-! Copies -/
def Light (c : Config) : Prop := c.Gaps.length ≤ 100 ∧ c.Rota.length ≤ 20 ∧ c.Keys.length ≤ 100 ∧ ∀ l ∈ c.Rota, l.length ≤ 100
theorem f4_loop (R : List (List Int)) (hR : R.length ≤ 20) : ∀ (n i : Nat), i ≤ R.length → R.length < n + i → f4_l1 R n (i : Int) = some (.inl false) ∨ (f4_l1 R n (i : Int) = some (.inr ()) ∧ ∀ l ∈ R.drop i, l.length ≤ 100)
  | 0, i, h1, h2 => by omega
  | n + 1, i, h1, h2 => by
    rw [f4_l1]
    by_cases hi : i < R.length
    · obtain ⟨x, hx, _, hd⟩ := dropC hi
      rw [if_pos (by omega), rd_nat, hx]
      simp only [Option.bind_some]
      by_cases h : (x.length : Int) > 100
      · rw [if_pos h]; exact .inl rfl
      · rw [if_neg h, next64 (by omega)]
        rcases f4_loop R hR n (i + 1) (by omega) (by omega) with e | ⟨e, g⟩
        · exact .inl e
        · refine .inr ⟨e, fun l hl => ?_⟩
          rw [hd] at hl
          rcases List.mem_cons.1 hl with rfl | hl
          · omega
          · exact g l hl
    · rw [if_neg (by omega), List.drop_eq_nil_of_le (by omega)]
      exact .inr ⟨rfl, fun l hl => by cases hl⟩
theorem f4_eq {k : Nat} (hk : 1000 ≤ k) (c : Config) : f4 k c = some false ∨ (f4 k c = some true ∧ Light c) := by
  unfold f4
  by_cases h1 : (c.Gaps.length : Int) > 100
  · rw [if_pos h1]; exact .inl rfl
  · rw [if_neg h1]
    by_cases h2 : (c.Rota.length : Int) > 20
    · rw [if_pos h2]; exact .inl rfl
    · rw [if_neg h2]
      by_cases h3 : (c.Keys.length : Int) > 100
      · rw [if_pos h3]; exact .inl rfl
      · rw [if_neg h3]
        have := f4_loop c.Rota (by omega) k 0 (by omega) (by omega)
        rw [show ((0 : Nat) : Int) = 0 from rfl, List.drop_zero] at this
        rcases this with e | ⟨e, g⟩
        · rw [e]; exact .inl rfl
        · rw [e]; exact .inr ⟨rfl, by omega, by omega, by omega, g⟩
theorem f23_eq {l : List Int} (h : l.length ≤ 100) : f23 l = some l := by
  unfold f23 apd
  rw [if_pos (by simp only [List.length_nil]; omega)]; rfl
theorem f6_loop (R : List (List Int)) (hR : R.length ≤ 20) (hl : ∀ l ∈ R, l.length ≤ 100) : ∀ (n i : Nat) (acc : List (List Int)), i ≤ R.length → R.length < n + i → acc.length ≤ i → f6_l1 R n acc (i : Int) = some (acc ++ R.drop i)
  | 0, i, acc, h1, h2, h3 => by omega
  | n + 1, i, acc, h1, h2, h3 => by
    rw [f6_l1]
    by_cases hi : i < R.length
    · obtain ⟨x, hx, hm, hd⟩ := dropC hi
      have ha : apd 24 acc [x] = some (acc ++ [x]) := if_pos (by simp only [List.length_cons, List.length_nil]; omega)
      rw [if_pos (by omega), rd_nat, hx]
      simp only [Option.bind_some, f23_eq (hl x hm), ha]
      rw [next64 (by omega), f6_loop R hR hl n (i + 1) _ (by omega) (by omega) (by simp only [List.length_append, List.length_cons, List.length_nil]; omega), hd]
      simp
    · rw [if_neg (by omega), List.drop_eq_nil_of_le (by omega), List.append_nil]
theorem f6_eq {k : Nat} (hk : 1000 ≤ k) {c : Config} (h : Light c) : f6 k c = some c := by
  obtain ⟨h1, h2, h3, h4⟩ := h
  have := f6_loop c.Rota h2 h4 k 0 [] (by omega) (by omega) (by simp)
  rw [show ((0 : Nat) : Int) = 0 from rfl, List.drop_zero, List.nil_append] at this
  unfold f6
  simp only [f23_eq h1, f23_eq h3, this, Option.bind_some, eta]
/-! Equality -/
theorem f19_loop (l : List Int) (hl : l.length ≤ 100) : ∀ (n i : Nat), i ≤ l.length → l.length < n + i → f19_l1 l l n (i : Int) = some (.inr ())
  | 0, i, h1, h2 => by omega
  | n + 1, i, h1, h2 => by
    rw [f19_l1]
    by_cases hi : i < l.length
    · obtain ⟨x, hx, _, _⟩ := dropC hi
      rw [if_pos (by omega), rd_nat, hx]
      simp only [Option.bind_some, if_true]
      rw [next64 (by omega)]
      exact f19_loop l hl n (i + 1) (by omega) (by omega)
    · rw [if_neg (by omega)]
theorem f19_eq {k : Nat} (hk : 1000 ≤ k) {l : List Int} (hl : l.length ≤ 100) : f19 k l l = some true := by
  have := f19_loop l hl k 0 (by omega) (by omega)
  rw [show ((0 : Nat) : Int) = 0 from rfl] at this
  unfold f19
  rw [if_pos rfl, this]; rfl
theorem f20_loop {k : Nat} (hk : 1000 ≤ k) (R : List (List Int)) (hR : R.length ≤ 20) (hl : ∀ l ∈ R, l.length ≤ 100) : ∀ (n i : Nat), i ≤ R.length → R.length < n + i → f20_l1 k R R n (i : Int) = some (.inr ())
  | 0, i, h1, h2 => by omega
  | n + 1, i, h1, h2 => by
    rw [f20_l1]
    by_cases hi : i < R.length
    · obtain ⟨x, hx, hm, _⟩ := dropC hi
      rw [if_pos (by omega), rd_nat, hx]
      simp only [Option.bind_some, f19_eq hk (hl x hm), if_true]
      rw [next64 (by omega)]
      exact f20_loop hk R hR hl n (i + 1) (by omega) (by omega)
    · rw [if_neg (by omega)]
theorem f20_eq {k : Nat} (hk : 1000 ≤ k) {c : Config} (h : Light c) : f20 k c c = some true := by
  obtain ⟨h1, h2, h3, h4⟩ := h
  have := f20_loop hk c.Rota h2 h4 k 0 (by omega) (by omega)
  rw [show ((0 : Nat) : Int) = 0 from rfl] at this
  have e := f19_eq hk (l := [c.Floors, c.Cars, c.Speed, c.Brake, c.Tol, c.Width, c.Dwell, c.Retries, c.Empty, c.Full, c.Trips, c.Slots, c.Life]) (by simp)
  unfold f20
  simp only [if_true, f19_eq hk h1, f19_eq hk h3, this, Option.bind_some, e]
/-! The numbers -/
theorem f31_eq (x a b : Int) : f31 x a b = some (decide (a ≤ x ∧ x ≤ b)) := by
  unfold f31
  by_cases h : a ≤ x
  · rw [if_pos h]; simp [h]
  · rw [if_neg h]; simp [h]
theorem f34_eq (x a b : Int) : f34 x a b = some (decide (a ≤ x ∧ x ≤ b)) := f31_eq x a b
def Nums (c : Config) : Prop := (2 ≤ c.Floors ∧ c.Floors ≤ 64) ∧ (1 ≤ c.Cars ∧ c.Cars ≤ 8) ∧ (1 ≤ c.Speed ∧ c.Speed ≤ 20) ∧ (0 ≤ c.Brake ∧ c.Brake ≤ 5) ∧ (0 ≤ c.Tol ∧ c.Tol ≤ 20) ∧ (1 ≤ c.Width ∧ c.Width ≤ 20) ∧ (1 ≤ c.Dwell ∧ c.Dwell ≤ 50) ∧ (0 ≤ c.Retries ∧ c.Retries ≤ 5) ∧ (0 ≤ c.Empty ∧ c.Empty ≤ 10000) ∧ (c.Empty + 1 ≤ c.Full ∧ c.Full ≤ 10000) ∧ (1 ≤ c.Trips ∧ c.Trips ≤ 16) ∧ (1 ≤ c.Slots ∧ c.Slots ≤ 24) ∧ (1 ≤ c.Life ∧ c.Life ≤ 100000)
theorem f9_num (k : Nat) (c : Config) : (Nums c ∧ f9 k c = f32 k c) ∨ (¬ Nums c ∧ f9 k c = some 2) := by
  unfold f9 Nums
  simp only [f31_eq, Option.bind_some, eta, decide_eq_true_eq]
  have hw : 0 ≤ c.Empty ∧ c.Empty ≤ 10000 → IntKind.i64.wrap (c.Empty + 1) = c.Empty + 1 := fun h => w64 (by omega) (by omega)
  by_cases a1 : 2 ≤ c.Floors ∧ c.Floors ≤ 64
  · rw [if_pos a1]
    by_cases a2 : 1 ≤ c.Cars ∧ c.Cars ≤ 8
    · rw [if_pos a2]
      by_cases a3 : 1 ≤ c.Speed ∧ c.Speed ≤ 20
      · rw [if_pos a3]
        by_cases a4 : 0 ≤ c.Brake ∧ c.Brake ≤ 5
        · rw [if_pos a4]
          by_cases a5 : 0 ≤ c.Tol ∧ c.Tol ≤ 20
          · rw [if_pos a5]
            by_cases a6 : 1 ≤ c.Width ∧ c.Width ≤ 20
            · rw [if_pos a6]
              by_cases a7 : 1 ≤ c.Dwell ∧ c.Dwell ≤ 50
              · rw [if_pos a7]
                by_cases a8 : 0 ≤ c.Retries ∧ c.Retries ≤ 5
                · rw [if_pos a8]
                  by_cases a9 : 0 ≤ c.Empty ∧ c.Empty ≤ 10000
                  · rw [if_pos a9, hw a9]
                    by_cases b1 : c.Empty + 1 ≤ c.Full ∧ c.Full ≤ 10000
                    · rw [if_pos b1]
                      by_cases b2 : 1 ≤ c.Trips ∧ c.Trips ≤ 16
                      · rw [if_pos b2]
                        by_cases b3 : 1 ≤ c.Slots ∧ c.Slots ≤ 24
                        · rw [if_pos b3]
                          by_cases b4 : 1 ≤ c.Life ∧ c.Life ≤ 100000
                          · rw [if_pos b4]
                            exact .inl ⟨⟨a1, a2, a3, a4, a5, a6, a7, a8, a9, b1, b2, b3, b4⟩, by cases f32 k c <;> rfl⟩
                          · rw [if_neg b4]; exact .inr ⟨fun h => b4 h.2.2.2.2.2.2.2.2.2.2.2.2, rfl⟩
                        · rw [if_neg b3]; exact .inr ⟨fun h => b3 h.2.2.2.2.2.2.2.2.2.2.2.1, rfl⟩
                      · rw [if_neg b2]; exact .inr ⟨fun h => b2 h.2.2.2.2.2.2.2.2.2.2.1, rfl⟩
                    · rw [if_neg b1]; exact .inr ⟨fun h => b1 h.2.2.2.2.2.2.2.2.2.1, rfl⟩
                  · rw [if_neg a9]; exact .inr ⟨fun h => a9 h.2.2.2.2.2.2.2.2.1, rfl⟩
                · rw [if_neg a8]; exact .inr ⟨fun h => a8 h.2.2.2.2.2.2.2.1, rfl⟩
              · rw [if_neg a7]; exact .inr ⟨fun h => a7 h.2.2.2.2.2.2.1, rfl⟩
            · rw [if_neg a6]; exact .inr ⟨fun h => a6 h.2.2.2.2.2.1, rfl⟩
          · rw [if_neg a5]; exact .inr ⟨fun h => a5 h.2.2.2.2.1, rfl⟩
        · rw [if_neg a4]; exact .inr ⟨fun h => a4 h.2.2.2.1, rfl⟩
      · rw [if_neg a3]; exact .inr ⟨fun h => a3 h.2.2.1, rfl⟩
    · rw [if_neg a2]; exact .inr ⟨fun h => a2 h.2.1, rfl⟩
  · rw [if_neg a1]; exact .inr ⟨fun h => a1 h.1, rfl⟩
theorem f33_eq (c : Config) : ∃ b : Bool, f33 c = some b ∧ (b = true ↔ Nums c) := by
  unfold f33
  simp only [f34_eq, Option.bind_some, decide_eq_true_eq]
  have hE : ∃ q : Bool, (if 1 ≤ c.Width ∧ c.Width ≤ 20 then if 1 ≤ c.Dwell ∧ c.Dwell ≤ 50 then if 0 ≤ c.Retries ∧ c.Retries ≤ 5 then if 0 ≤ c.Empty ∧ c.Empty ≤ 10000 then if c.Full > c.Empty then some (decide (c.Full ≤ 10000)) else some false else some false else some false else some false else some false) = some q ∧ (q = true ↔ (1 ≤ c.Width ∧ c.Width ≤ 20) ∧ (1 ≤ c.Dwell ∧ c.Dwell ≤ 50) ∧ (0 ≤ c.Retries ∧ c.Retries ≤ 5) ∧ (0 ≤ c.Empty ∧ c.Empty ≤ 10000) ∧ (c.Empty + 1 ≤ c.Full ∧ c.Full ≤ 10000)) := by
    split
    · split
      · split
        · split
          · split
            · exact ⟨_, rfl, by rw [decide_eq_true_eq]; omega⟩
            · exact ⟨_, rfl, by simp only [Bool.false_eq_true, false_iff]; omega⟩
          · exact ⟨_, rfl, by simp only [Bool.false_eq_true, false_iff]; omega⟩
        · exact ⟨_, rfl, by simp only [Bool.false_eq_true, false_iff]; omega⟩
      · exact ⟨_, rfl, by simp only [Bool.false_eq_true, false_iff]; omega⟩
    · exact ⟨_, rfl, by simp only [Bool.false_eq_true, false_iff]; omega⟩
  obtain ⟨q, e, hq⟩ := hE
  rw [e]
  simp only [Option.bind_some]
  unfold Nums
  split
  · split
    · split
      · split
        · split
          · cases q with
            | false => exact ⟨_, rfl, by simp only [Bool.false_eq_true, false_iff] at hq ⊢; omega⟩
            | true =>
              simp only [true_iff] at hq
              simp only [if_true]
              split
              · split
                · exact ⟨_, rfl, by rw [decide_eq_true_eq]; omega⟩
                · exact ⟨_, rfl, by simp only [Bool.false_eq_true, false_iff]; omega⟩
              · exact ⟨_, rfl, by simp only [Bool.false_eq_true, false_iff]; omega⟩
          · exact ⟨_, rfl, by simp only [Bool.false_eq_true, false_iff]; omega⟩
        · exact ⟨_, rfl, by simp only [Bool.false_eq_true, false_iff]; omega⟩
      · exact ⟨_, rfl, by simp only [Bool.false_eq_true, false_iff]; omega⟩
    · exact ⟨_, rfl, by simp only [Bool.false_eq_true, false_iff]; omega⟩
  · exact ⟨_, rfl, by simp only [Bool.false_eq_true, false_iff]; omega⟩
end Go.Proofs.YthemdclmlcblbaaDoor

set_option linter.unusedVariables false
set_option linter.unusedSimpArgs false
namespace Go.Proofs.YthemdclmlcblbaaDoor
open Go Go.Det Go.RowKit
/-! Lists -/
theorem gaps_eq (l : List Int) (hl : l.length ≤ 100) : ∀ (n i : Nat), i ≤ l.length → l.length < n + i →
    (f32_l1 l n (i : Int) = some (.inl ()) ∧ f10_l1 l n (i : Int) = some (.inr ()) ∧ ∀ x ∈ l.drop i, 1 ≤ x ∧ x ≤ 1000) ∨ (f32_l1 l n (i : Int) = some (.inr 2) ∧ f10_l1 l n (i : Int) = some (.inl 2))
  | 0, i, h1, h2 => by omega
  | n + 1, i, h1, h2 => by
    rw [f32_l1, f10_l1]
    by_cases hi : i < l.length
    · obtain ⟨x, hx, _, hd⟩ := dropC hi
      have ht : decide ((i : Int) < (l.length : Int)) = true := decide_eq_true (by omega)
      simp only [ht, Option.bind_some, if_true, rd_nat, hx, f31_eq, f34_eq, decide_eq_true_eq]
      rw [if_pos (show (i : Int) < (l.length : Int) by omega)]
      by_cases h : 1 ≤ x ∧ x ≤ 1000
      · rw [if_pos h, if_pos h, next64 (by omega)]
        rcases gaps_eq l hl n (i + 1) (by omega) (by omega) with ⟨a, b, g⟩ | ⟨a, b⟩
        · refine .inl ⟨a, b, fun y hy => ?_⟩
          rw [hd] at hy
          rcases List.mem_cons.1 hy with rfl | hy
          · exact h
          · exact g y hy
        · exact .inr ⟨a, b⟩
      · rw [if_neg h, if_neg h]; exact .inr ⟨rfl, rfl⟩
    · have ht : decide ((i : Int) < (l.length : Int)) = false := decide_eq_false (by omega)
      simp only [ht, Option.bind_some, Bool.false_eq_true, if_false]
      rw [if_neg (by omega), List.drop_eq_nil_of_le (by omega)]
      exact .inl ⟨trivial, rfl, fun x hx => by cases hx⟩
theorem slots_eq (R : List (List Int)) (s : Int) (hR : R.length ≤ 20) : ∀ (n i : Nat), i ≤ R.length → R.length < n + i →
    (f32_l2 R s n (i : Int) = some (.inl ()) ∧ f35_l1 R s n (i : Int) = some (.inr ()) ∧ ∀ l ∈ R.drop i, (l.length : Int) = s) ∨ (f32_l2 R s n (i : Int) = some (.inr 3) ∧ f35_l1 R s n (i : Int) = some (.inl 3))
  | 0, i, h1, h2 => by omega
  | n + 1, i, h1, h2 => by
    rw [f32_l2, f35_l1]
    by_cases hi : i < R.length
    · obtain ⟨x, hx, _, hd⟩ := dropC hi
      have ht : decide ((i : Int) < (R.length : Int)) = true := decide_eq_true (by omega)
      simp only [ht, Option.bind_some, if_true, rd_nat, hx]
      rw [if_pos (show (i : Int) < (R.length : Int) by omega)]
      by_cases h : (x.length : Int) = s
      · rw [if_pos h, if_pos h, next64 (by omega)]
        rcases slots_eq R s hR n (i + 1) (by omega) (by omega) with ⟨a, b, g⟩ | ⟨a, b⟩
        · refine .inl ⟨a, b, fun y hy => ?_⟩
          rw [hd] at hy
          rcases List.mem_cons.1 hy with rfl | hy
          · exact h
          · exact g y hy
        · exact .inr ⟨a, b⟩
      · rw [if_neg h, if_neg h]; exact .inr ⟨rfl, rfl⟩
    · have ht : decide ((i : Int) < (R.length : Int)) = false := decide_eq_false (by omega)
      simp only [ht, Option.bind_some, Bool.false_eq_true, if_false]
      rw [if_neg (by omega), List.drop_eq_nil_of_le (by omega)]
      exact .inl ⟨trivial, rfl, fun x hx => by cases hx⟩
theorem line_eq (R : List (List Int)) (s : Int) (j : Nat) (l : List Int) (hj : R[j]? = some l) (hs : (l.length : Int) = s) (hl : l.length ≤ 100) : ∀ (n i : Nat), i ≤ l.length → l.length < n + i →
    (f32_l4 l n (i : Int) = some (.inl ()) ∧ f35_l3 (j : Int) s R n (i : Int) = some (.inr ())) ∨ (f32_l4 l n (i : Int) = some (.inr 2) ∧ f35_l3 (j : Int) s R n (i : Int) = some (.inl 2))
  | 0, i, h1, h2 => by omega
  | n + 1, i, h1, h2 => by
    rw [f32_l4, f35_l3]
    by_cases hi : i < l.length
    · obtain ⟨x, hx, _, hd⟩ := dropC hi
      have ht : decide ((i : Int) < (l.length : Int)) = true := decide_eq_true (by omega)
      simp only [ht, Option.bind_some, if_true, rd_nat, hx, hj, f31_eq, f34_eq, decide_eq_true_eq]
      rw [if_pos (show (i : Int) < s by omega)]
      by_cases h : 0 ≤ x ∧ x ≤ 3
      · rw [if_pos h, if_pos h, next64 (by omega)]
        exact line_eq R s j l hj hs hl n (i + 1) (by omega) (by omega)
      · rw [if_neg h, if_neg h]; exact .inr ⟨rfl, rfl⟩
    · have ht : decide ((i : Int) < (l.length : Int)) = false := decide_eq_false (by omega)
      simp only [ht, Option.bind_some, Bool.false_eq_true, if_false]
      rw [if_neg (by omega)]
      exact .inl ⟨trivial, rfl⟩
theorem rota_eq {k : Nat} (hk : 1000 ≤ k) (R : List (List Int)) (s : Int) (hR : R.length ≤ 20) (hl : ∀ l ∈ R, l.length ≤ 100) (hs : ∀ l ∈ R, (l.length : Int) = s) : ∀ (n i : Nat), i ≤ R.length → R.length < n + i →
    (f32_l3 k R n (i : Int) = some (.inl ()) ∧ f35_l2 k R s n (i : Int) = some (.inr ())) ∨ (f32_l3 k R n (i : Int) = some (.inr 2) ∧ f35_l2 k R s n (i : Int) = some (.inl 2))
  | 0, i, h1, h2 => by omega
  | n + 1, i, h1, h2 => by
    rw [f32_l3, f35_l2]
    by_cases hi : i < R.length
    · obtain ⟨x, hx, hm, hd⟩ := dropC hi
      have ht : decide ((i : Int) < (R.length : Int)) = true := decide_eq_true (by omega)
      simp only [ht, Option.bind_some, if_true, rd_nat, hx]
      rw [if_pos (show (i : Int) < (R.length : Int) by omega)]
      have := line_eq R s i x hx (hs x hm) (hl x hm) k 0 (by omega) (by have := hl x hm; omega)
      rw [show ((0 : Nat) : Int) = 0 from rfl] at this
      rcases this with ⟨a, b⟩ | ⟨a, b⟩
      · rw [a, b]
        simp only [Option.bind_some]
        rw [next64 (by omega)]
        exact rota_eq hk R s hR hl hs n (i + 1) (by omega) (by omega)
      · rw [a, b]; exact .inr ⟨rfl, rfl⟩
    · have ht : decide ((i : Int) < (R.length : Int)) = false := decide_eq_false (by omega)
      simp only [ht, Option.bind_some, Bool.false_eq_true, if_false]
      rw [if_neg (by omega)]
      exact .inl ⟨trivial, rfl⟩
theorem keys_eq (l : List Int) (hl : l.length ≤ 8) : ∀ (n i : Nat), i ≤ l.length → l.length < n + i →
    (f50_l1 l n (i : Int) = some (.inl ()) ∧ f36_l1 l n (i : Int) = some (.inr ())) ∨ ∃ e : Int, e ≠ 0 ∧ f50_l1 l n (i : Int) = some (.inr e) ∧ f36_l1 l n (i : Int) = some (.inl e)
  | 0, i, h1, h2 => by omega
  | n + 1, i, h1, h2 => by
    rw [f50_l1, f36_l1]
    by_cases hi : i < l.length
    · obtain ⟨x, hx, _, hd⟩ := dropC hi
      have ht : decide ((i : Int) < (l.length : Int)) = true := decide_eq_true (by omega)
      simp only [ht, Option.bind_some, if_true, rd_nat, hx, f31_eq, f34_eq, decide_eq_true_eq]
      rw [if_pos (show (i : Int) < (l.length : Int) by omega)]
      by_cases h : 1 ≤ x ∧ x ≤ 99
      · rw [if_pos h, if_pos h]
        have ih := keys_eq l hl n (i + 1) (by omega) (by omega)
        rw [next64 (by omega)]
        by_cases h0 : (i : Int) > 0
        · rw [if_pos h0, show IntKind.i64.wrap ((i : Int) - 1) = ((i - 1 : Nat) : Int) from by rw [w64 (by omega) (by omega)]; omega, rd_nat]
          obtain ⟨y, hy, _, _⟩ := dropC (show i - 1 < l.length by omega)
          rw [hy]
          simp only [Option.bind_some]
          by_cases h8 : x ≤ y
          · rw [if_pos h8]; exact .inr ⟨8, by decide, rfl, rfl⟩
          · rw [if_neg h8]
            simp only [Option.bind_some]
            exact ih
        · rw [if_neg h0]
          simp only [Option.bind_some]
          exact ih
      · rw [if_neg h, if_neg h]; exact .inr ⟨2, by decide, rfl, rfl⟩
    · have ht : decide ((i : Int) < (l.length : Int)) = false := decide_eq_false (by omega)
      simp only [ht, Option.bind_some, Bool.false_eq_true, if_false]
      rw [if_neg (by omega)]
      exact .inl ⟨trivial, rfl⟩
/-! Rules -/
def rspec (F M : Nat) (h c : Int) : Option Int :=
  if M = 0 then some 3 else if M < 2 ^ F then if hasI M h = true then if 1 ≤ c ∧ c ≤ 32 then none else some 2 else some 2 else some 3
theorem rspec_cases (F M : Nat) (h c : Int) : (rspec F M h c = none ∧ M ≠ 0 ∧ M < 2 ^ F ∧ hasI M h = true) ∨ ∃ e : Int, e ≠ 0 ∧ rspec F M h c = some e := by
  unfold rspec
  split
  · exact .inr ⟨3, by decide, rfl⟩
  · split
    · split
      · split
        · exact .inl ⟨rfl, by assumption, by assumption, by assumption⟩
        · exact .inr ⟨2, by decide, rfl⟩
      · exact .inr ⟨2, by decide, rfl⟩
    · exact .inr ⟨3, by decide, rfl⟩
theorem andNot_low {M F : Nat} (hM : M < 18446744073709551616) (hF : F ≤ 64) : (bits .andNot .u64 (M : Int) ((2 ^ F - 1 : Nat) : Int) = 0) ↔ M < 2 ^ F := by
  have hp := pow64' hF
  have hp0 : 0 < 2 ^ F := Nat.pow_pos (by decide)
  have e : bits .andNot .u64 (M : Int) ((2 ^ F - 1 : Nat) : Int) = ((M &&& (18446744073709551615 - (2 ^ F - 1)) : Nat) : Int) := u64_andNot_nat M _ hM (by omega)
  rw [e]
  constructor
  · intro h
    have h0 : M &&& (18446744073709551615 - (2 ^ F - 1)) = 0 := by omega
    apply Classical.byContradiction
    intro hn
    have hge : 2 ^ F ≤ M := by omega
    obtain ⟨i, hi, hb⟩ := Nat.exists_ge_and_testBit_of_ge_two_pow hge
    have hi64 : i < 64 := by
      apply Classical.byContradiction
      intro q
      rw [testBit_big hM (by omega)] at hb
      cases hb
    have : (M &&& (18446744073709551615 - (2 ^ F - 1))).testBit i = true := by
      rw [Nat.testBit_and, hb, testBit_not (by omega) hi64, Nat.testBit_two_pow_sub_one]
      simp; omega
    rw [h0] at this
    simp at this
  · intro h
    have : M &&& (18446744073709551615 - (2 ^ F - 1)) = 0 := by
      apply Nat.eq_of_testBit_eq
      intro i
      rw [Nat.zero_testBit, Nat.testBit_and]
      by_cases q : i < F
      · rw [testBit_not (by omega) (by omega), Nat.testBit_two_pow_sub_one]; simp [q]
      · rw [Nat.testBit_lt_two_pow (Nat.lt_of_lt_of_le h (Nat.pow_le_pow_right (by decide) (by omega)))]; rfl
    rw [this]; rfl
theorem hasI_lt {M F : Nat} {h : Int} (hM : M < 2 ^ F) (hh : hasI M h = true) : 0 ≤ h ∧ h < F := by
  unfold hasI at hh
  simp only [Bool.and_eq_true, decide_eq_true_eq] at hh
  refine ⟨hh.1.1, ?_⟩
  apply Classical.byContradiction
  intro q
  rw [Nat.testBit_lt_two_pow (Nat.lt_of_lt_of_le hM (Nat.pow_le_pow_right (by decide) (show F ≤ h.toNat by omega)))] at hh
  cases hh.2
theorem progRule {F M : Nat} (hF : F ≤ 64) (hM : M < 18446744073709551616) (h c : Int) (rest : Option Int) :
    (if (M : Int) = 0 then some (3 : Int) else if (bits .andNot .u64 (M : Int) ((2 ^ F - 1 : Nat) : Int)) = 0 then (f60 (M : Int) h).bind fun t => if t then (f31 c 1 32).bind fun t => if t then rest else some 2 else some 2 else some 3) = match rspec F M h c with | some e => some e | none => rest := by
  unfold rspec
  by_cases h0 : M = 0
  · rw [if_pos (by omega), if_pos h0]
  · rw [if_neg (by omega), if_neg h0]
    by_cases h1 : M < 2 ^ F
    · rw [if_pos ((andNot_low hM hF).2 h1), if_pos h1, f60_eq hM]
      simp only [Option.bind_some, f31_eq, decide_eq_true_eq]
      by_cases h2 : hasI M h = true
      · rw [if_pos h2, if_pos h2]
        by_cases h3 : 1 ≤ c ∧ c ≤ 32
        · rw [if_pos h3, if_pos h3]
        · rw [if_neg h3, if_neg h3]
      · rw [if_neg h2, if_neg h2]
    · rw [if_neg (fun q => h1 ((andNot_low hM hF).1 q)), if_neg h1]
theorem refRule {F M : Nat} (hF2 : 2 ≤ F) (hF : F ≤ 64) (hM : M < 18446744073709551616) (h c : Int) :
    (if (M : Int) = 0 then some (Sum.inl (3 : Int)) else if (F : Int) < 64 then
      if (gshr .u64 (M : Int) (IntKind.u64.wrap (F : Int))) = 0 then
        (f34 h 0 (IntKind.i64.wrap ((F : Int) - 1))).bind fun t => if t then (f41 (M : Int) h).bind fun t => if t then (f34 c 1 32).bind fun t => if t then some (Sum.inr ()) else some (Sum.inl (2 : Int)) else some (Sum.inl (2 : Int)) else some (Sum.inl (2 : Int))
      else some (Sum.inl (3 : Int))
    else
      (f34 h 0 (IntKind.i64.wrap ((F : Int) - 1))).bind fun t => if t then (f41 (M : Int) h).bind fun t => if t then (f34 c 1 32).bind fun t => if t then some (Sum.inr ()) else some (Sum.inl (2 : Int)) else some (Sum.inl (2 : Int)) else some (Sum.inl (2 : Int))) = some (match rspec F M h c with | some e => Sum.inl e | none => Sum.inr ()) := by
  have hA : M < 2 ^ F → ((f34 h 0 (IntKind.i64.wrap ((F : Int) - 1))).bind fun t => if t then (f41 (M : Int) h).bind fun t => if t then (f34 c 1 32).bind fun t => if t then some (Sum.inr ()) else some (Sum.inl (2 : Int)) else some (Sum.inl (2 : Int)) else some (Sum.inl (2 : Int))) = some (match (if hasI M h = true then if 1 ≤ c ∧ c ≤ 32 then none else some 2 else some 2 : Option Int) with | some e => Sum.inl e | none => Sum.inr ()) := by
    intro h1
    simp only [f34_eq, f41_eq hM, Option.bind_some, decide_eq_true_eq]
    by_cases h2 : hasI M h = true
    · have := hasI_lt h1 h2
      rw [if_pos (by rw [w64 (by omega) (by omega)]; omega), if_pos h2, if_pos h2]
      by_cases h3 : 1 ≤ c ∧ c ≤ 32
      · rw [if_pos h3, if_pos h3]
      · rw [if_neg h3, if_neg h3]
    · simp only [if_neg h2, ite_self]
  unfold rspec
  by_cases h0 : M = 0
  · rw [if_pos (by omega), if_pos h0]
  · rw [if_neg (by omega), if_neg h0]
    by_cases h64 : F < 64
    · rw [if_pos (by omega), wu64 (by omega), shr M F h64]
      have hq : ((M / 2 ^ F : Nat) : Int) = 0 ↔ M < 2 ^ F := by
        rw [show ((M / 2 ^ F : Nat) : Int) = 0 ↔ M / 2 ^ F = 0 from by omega, Nat.div_eq_zero_iff]
        have : 2 ^ F ≠ 0 := by have := Nat.pow_pos (n := F) (show 0 < 2 by decide); omega
        omega
      by_cases h1 : M < 2 ^ F
      · rw [if_pos (hq.2 h1), if_pos h1, hA h1]
      · rw [if_neg (fun q => h1 (hq.1 q)), if_neg h1]
    · obtain rfl : F = 64 := by omega
      have h1 : M < 2 ^ 64 := hM
      rw [if_neg (by omega), if_pos h1, hA h1]
end Go.Proofs.YthemdclmlcblbaaDoor

set_option linter.unusedVariables false
set_option linter.unusedSimpArgs false
namespace Go.Proofs.YthemdclmlcblbaaDoor
open Go Go.Det Go.RowKit
def RG (F M : Nat) (h : Int) : Prop := M ≠ 0 ∧ M < 2 ^ F ∧ hasI M h = true
theorem rules_eq {k : Nat} (hk : 1000 ≤ k) (c : Config) {F M0 M1 M2 : Nat} (hF2 : 2 ≤ F) (hF : F ≤ 64) (eF : c.Floors = (F : Int))
    (e0 : c.Rules_0_Mask = (M0 : Int)) (e1 : c.Rules_1_Mask = (M1 : Int)) (e2 : c.Rules_2_Mask = (M2 : Int))
    (b0 : M0 < 18446744073709551616) (b1 : M1 < 18446744073709551616) (b2 : M2 < 18446744073709551616) :
    ∃ e : Int, f50 k c = some e ∧ f36 k c = some e ∧ (e = 0 → RG F M0 c.Rules_0_Home ∧ RG F M1 c.Rules_1_Home ∧ RG F M2 c.Rules_2_Home) := by
  unfold f50 f36
  rw [eF, e0, e1, e2, f59_eq hF]
  simp only [Option.bind_some]
  rw [progRule hF b0, progRule hF b1, progRule hF b2, refRule hF2 hF b0, refRule hF2 hF b1, refRule hF2 hF b2]
  simp only [Option.bind_some]
  rcases rspec_cases F M0 c.Rules_0_Home c.Rules_0_Calls with ⟨q0, g0⟩ | ⟨e, he, q0⟩
  · rw [q0]
    simp only
    rcases rspec_cases F M1 c.Rules_1_Home c.Rules_1_Calls with ⟨q1, g1⟩ | ⟨e, he, q1⟩
    · rw [q1]
      simp only
      rcases rspec_cases F M2 c.Rules_2_Home c.Rules_2_Calls with ⟨q2, g2⟩ | ⟨e, he, q2⟩
      · rw [q2]
        simp only
        by_cases h8 : (c.Keys.length : Int) > 8
        · rw [if_pos h8]
          exact ⟨5, rfl, by rw [if_pos h8], fun q => by cases q⟩
        · rw [if_neg h8]
          have := keys_eq c.Keys (by omega) k 0 (by omega) (by omega)
          rw [show ((0 : Nat) : Int) = 0 from rfl] at this
          rcases this with ⟨a, b⟩ | ⟨e, he, a, b⟩
          · rw [a, b]
            exact ⟨0, rfl, by rw [if_neg h8]; rfl, fun _ => ⟨g0, g1, g2⟩⟩
          · rw [a, b]
            exact ⟨e, rfl, by rw [if_neg h8]; rfl, fun q => absurd q he⟩
      · rw [q2]; exact ⟨e, rfl, rfl, fun q => absurd q he⟩
    · rw [q1]; exact ⟨e, rfl, rfl, fun q => absurd q he⟩
  · rw [q0]; exact ⟨e, rfl, rfl, fun q => absurd q he⟩
structure Valid (c : Config) (F M0 M1 M2 : Nat) : Prop where
  nums : Nums c
  floors : c.Floors = (F : Int)
  gl : c.Gaps.length + 1 = F
  gaps : ∀ x ∈ c.Gaps, 1 ≤ x ∧ x ≤ 1000
  r0 : RG F M0 c.Rules_0_Home
  r1 : RG F M1 c.Rules_1_Home
  r2 : RG F M2 c.Rules_2_Home
theorem check_eq {k : Nat} (hk : 1000 ≤ k) (c : Config) (hL : Light c) {M0 M1 M2 : Nat}
    (e0 : c.Rules_0_Mask = (M0 : Int)) (e1 : c.Rules_1_Mask = (M1 : Int)) (e2 : c.Rules_2_Mask = (M2 : Int))
    (b0 : M0 < 18446744073709551616) (b1 : M1 < 18446744073709551616) (b2 : M2 < 18446744073709551616) :
    ∃ e : Int, f9 k c = some e ∧ f10 k c = some e ∧ (e = 0 → ∃ F : Nat, Valid c F M0 M1 M2) := by
  obtain ⟨l1, l2, l3, l4⟩ := hL
  unfold f10
  obtain ⟨b, hb, hbn⟩ := f33_eq c
  simp only [eta, hb, Option.bind_some]
  rcases f9_num k c with ⟨hn, e9⟩ | ⟨hn, e9⟩
  · obtain rfl : b = true := hbn.2 hn
    have hfl := hn.1
    obtain ⟨F, eF⟩ := Int.eq_ofNat_of_zero_le (show 0 ≤ c.Floors by omega)
    rw [e9, if_pos rfl]
    unfold f32
    by_cases hg : (c.Gaps.length : Int) = IntKind.i64.wrap (c.Floors - 1)
    · rw [if_pos hg, if_pos hg]
      rw [w64 (by omega) (by omega)] at hg
      have hG := gaps_eq c.Gaps l1 k 0 (by omega) (by omega)
      rw [show ((0 : Nat) : Int) = 0 from rfl, List.drop_zero] at hG
      rcases hG with ⟨a, b, gg⟩ | ⟨a, b⟩
      · rw [a, b]
        simp only [Option.bind_some]
        unfold f35
        by_cases hc : (c.Rota.length : Int) = c.Cars
        · rw [if_pos hc, if_pos hc]
          have hS := slots_eq c.Rota c.Slots l2 k 0 (by omega) (by omega)
          rw [show ((0 : Nat) : Int) = 0 from rfl, List.drop_zero] at hS
          rcases hS with ⟨a, b, hs⟩ | ⟨a, b⟩
          · rw [a, b]
            simp only [Option.bind_some]
            have hR := rota_eq hk c.Rota c.Slots l2 l4 hs k 0 (by omega) (by omega)
            rw [show ((0 : Nat) : Int) = 0 from rfl] at hR
            rcases hR with ⟨a, b⟩ | ⟨a, b⟩
            · rw [a, b]
              simp only [Option.bind_some, if_true, eta]
              obtain ⟨e, x1, x2, x3⟩ := rules_eq hk c (F := F) (by omega) (by omega) eF e0 e1 e2 b0 b1 b2
              rw [x1, x2]
              refine ⟨e, rfl, rfl, fun he => ⟨F, ?_⟩⟩
              obtain ⟨g0, g1, g2⟩ := x3 he
              exact ⟨hn, eF, by omega, gg, g0, g1, g2⟩
            · rw [a, b]; exact ⟨2, rfl, rfl, fun q => by cases q⟩
          · rw [a, b]; exact ⟨3, rfl, rfl, fun q => by cases q⟩
        · rw [if_neg hc, if_neg hc]; exact ⟨3, rfl, rfl, fun q => by cases q⟩
      · rw [a, b]; exact ⟨2, rfl, rfl, fun q => by cases q⟩
    · rw [if_neg hg, if_neg hg]; exact ⟨3, rfl, rfl, fun q => by cases q⟩
  · obtain rfl : b = false := by
      cases b with
      | false => rfl
      | true => exact absurd (hbn.1 rfl) hn
    exact ⟨2, e9, rfl, fun q => by cases q⟩
end Go.Proofs.YthemdclmlcblbaaDoor

set_option linter.unusedVariables false
set_option linter.unusedSimpArgs false
namespace Go.Proofs.YthemdclmlcblbaaDoor
open Go Go.Det Go.RowKit
/-! Positions -/
def GV (G : List Int) : Prop := 1 ≤ G.length ∧ G.length ≤ 63 ∧ ∀ x ∈ G, 1 ≤ x ∧ x ≤ 1000
def S (G : List Int) : Nat → Int
  | 0 => 0
  | i + 1 => S G i + (G[i]?).getD 0
def P (G : List Int) (n : Nat) : List Int := (List.range n).map (S G)
theorem S_get {G : List Int} {i : Nat} {x : Int} (h : G[i]? = some x) : S G (i + 1) = S G i + x := by rw [S, h]; rfl
theorem S_bd {G : List Int} (h : ∀ x ∈ G, 1 ≤ x ∧ x ≤ 1000) : ∀ i, 0 ≤ S G i ∧ S G i ≤ 1000 * i
  | 0 => ⟨Int.le_refl _, Int.le_refl _⟩
  | i + 1 => by
    have := S_bd h i
    by_cases q : i < G.length
    · obtain ⟨x, hx, hm, _⟩ := dropC q
      have := h x hm
      rw [S_get hx]; omega
    · rw [S, List.getElem?_eq_none (by omega)]; simp only [Option.getD_none]; omega
theorem S_lt {G : List Int} (h : ∀ x ∈ G, 1 ≤ x ∧ x ≤ 1000) {i : Nat} (q : i < G.length) : S G i < S G (i + 1) := by
  obtain ⟨x, hx, hm, _⟩ := dropC q
  have := h x hm
  rw [S_get hx]; omega
theorem S_mono {G : List Int} (h : ∀ x ∈ G, 1 ≤ x ∧ x ≤ 1000) {i : Nat} : ∀ j, i ≤ j → S G i ≤ S G j
  | 0, q => by obtain rfl : i = 0 := by omega
               exact Int.le_refl _
  | j + 1, q => by
    by_cases e : i = j + 1
    · subst e; exact Int.le_refl _
    · have := S_mono (i := i) h j (by omega)
      by_cases q : j < G.length
      · have := S_lt h q; omega
      · rw [S, List.getElem?_eq_none (by omega)]; simp only [Option.getD_none]; omega
theorem P_len (G : List Int) (n : Nat) : (P G n).length = n := by simp [P]
theorem P_succ (G : List Int) (n : Nat) : P G (n + 1) = P G n ++ [S G n] := by simp [P, List.range_succ]
theorem P_get {G : List Int} {n i : Nat} (h : i < n) : rd (P G n) (i : Int) = some (S G i) := by
  rw [rd_nat]; simp [P, h]
theorem f53_loop {G : List Int} (h : GV G) : ∀ (n i : Nat), i ≤ G.length → G.length < n + i → f53_l1 G n (i : Int) = some (.inl ())
  | 0, i, h1, h2 => by omega
  | n + 1, i, h1, h2 => by
    rw [f53_l1]
    obtain ⟨g1, g2, g3⟩ := h
    by_cases hi : i < G.length
    · obtain ⟨x, hx, hm, _⟩ := dropC hi
      have := g3 x hm
      have ht : decide ((i : Int) < (G.length : Int)) = true := decide_eq_true (by omega)
      have ht2 : decide (x > 1000) = false := decide_eq_false (by omega)
      simp only [ht, Option.bind_some, if_true, rd_nat, hx, ht2, Bool.false_eq_true, if_false]
      rw [if_neg (by omega), next64 (by omega)]
      exact f53_loop ⟨g1, g2, g3⟩ n (i + 1) (by omega) (by omega)
    · have ht : decide ((i : Int) < (G.length : Int)) = false := decide_eq_false (by omega)
      simp only [ht, Option.bind_some, Bool.false_eq_true, if_false]
theorem f53_eq {k : Nat} (hk : 1000 ≤ k) {G : List Int} (h : GV G) : f53 k G = some (0, 0) := by
  have := f53_loop h k 0 (by omega) (by have := h.2.1; omega)
  rw [show ((0 : Nat) : Int) = 0 from rfl] at this
  unfold f53
  obtain ⟨g1, g2, g3⟩ := h
  rw [if_neg (by omega), if_neg (by omega), this]; rfl
theorem f46_loop {G : List Int} (h : GV G) : ∀ (n i : Nat), i ≤ G.length → G.length < n + i → f46_l1 G n (i : Int) = some (.inr ())
  | 0, i, h1, h2 => by omega
  | n + 1, i, h1, h2 => by
    rw [f46_l1]
    obtain ⟨g1, g2, g3⟩ := h
    by_cases hi : i < G.length
    · obtain ⟨x, hx, hm, _⟩ := dropC hi
      have := g3 x hm
      rw [if_pos (by omega)]
      simp only [rd_nat, hx, Option.bind_some]
      rw [if_neg (by omega), if_neg (by omega), next64 (by omega)]
      exact f46_loop ⟨g1, g2, g3⟩ n (i + 1) (by omega) (by omega)
    · rw [if_neg (by omega)]
theorem f46_eq {k : Nat} (hk : 1000 ≤ k) {G : List Int} (h : GV G) : f46 k G = some (0, 0) := by
  have := f46_loop h k 0 (by omega) (by have := h.2.1; omega)
  rw [show ((0 : Nat) : Int) = 0 from rfl] at this
  unfold f46
  obtain ⟨g1, g2, g3⟩ := h
  rw [if_neg (by omega), if_neg (by omega), this]; rfl
theorem wS {G : List Int} (h : GV G) {i : Nat} {x : Int} (hx : G[i]? = some x) (hi : i < G.length) : IntKind.i64.wrap (S G i + x) = S G (i + 1) := by
  have := S_bd h.2.2 (i + 1)
  have := h.2.1
  rw [S_get hx] at *
  rw [w64 (by omega) (by omega)]
theorem f43_loop {G : List Int} (h : GV G) : ∀ (n j : Nat), j ≤ G.length → G.length < n + j → f43_l1 n (P G (j + 1) ++ G.drop j) (S G j) ((j + 1 : Nat) : Int) = some (P G (G.length + 1), S G G.length)
  | 0, i, h1, h2 => by omega
  | n + 1, j, h1, h2 => by
    have hlen := h.2.1
    rw [f43_l1]
    by_cases hi : j < G.length
    · obtain ⟨x, hx, hm, hd⟩ := dropC hi
      have hr : rd (P G (j + 1) ++ G.drop j) ((j + 1 : Nat) : Int) = some x := by
        rw [rd_nat, List.getElem?_append_right (by rw [P_len]; omega), P_len, Nat.sub_self, hd]; rfl
      have hset : (P G (j + 1) ++ G.drop j).set (((j + 1 : Nat) : Int)).toNat (S G (j + 1)) = P G (j + 1 + 1) ++ G.drop (j + 1) := by
        rw [Int.toNat_natCast, List.set_append_right _ _ (by rw [P_len]; omega), P_len, Nat.sub_self, hd, List.set_cons_zero, P_succ G (j + 1), List.append_assoc]; rfl
      rw [if_pos (by rw [List.length_append, P_len, List.length_drop]; omega), hr]
      simp only [Option.bind_some]
      rw [wS h hx hi, hset, next64 (by omega)]
      exact f43_loop h n (j + 1) (by omega) (by omega)
    · obtain rfl : j = G.length := by omega
      rw [if_neg (by rw [List.length_append, P_len, List.length_drop]; omega), List.drop_eq_nil_of_le (Nat.le_refl _), List.append_nil]
theorem f43_eq {k : Nat} (hk : 1000 ≤ k) {G : List Int} (h : GV G) : f43 k G = some (P G (G.length + 1), 0) := by
  have := f43_loop h k 0 (by omega) (by have := h.2.1; omega)
  rw [show P G (0 + 1) ++ G.drop 0 = [0] ++ G from rfl, show S G 0 = 0 from rfl, show ((0 + 1 : Nat) : Int) = 1 from rfl] at this
  unfold f43
  rw [f53_eq hk h]
  simp only [Option.bind_some, if_true]
  have ha : apn 8 [0] G = some ([0] ++ G) := by
    have hl := h.1
    have hl2 := h.2.1
    unfold apn
    cases G with
    | nil => simp at hl
    | cons x t => exact apd_ok (by simp only [List.length_cons, List.length_nil] at *; omega)
  rw [ha]
  simp only [Option.bind_some, this]
theorem f47_loop {G : List Int} (h : GV G) : ∀ (n j : Nat), j ≤ G.length → G.length < n + j → f47_l1 G n (P G (j + 1)) (j : Int) = some (P G (G.length + 1))
  | 0, i, h1, h2 => by omega
  | n + 1, j, h1, h2 => by
    have hlen := h.2.1
    rw [f47_l1]
    by_cases hi : j < G.length
    · obtain ⟨x, hx, hm, hd⟩ := dropC hi
      rw [if_pos (by omega), P_get (by omega), rd_nat, hx]
      simp only [Option.bind_some]
      rw [wS h hx hi, apd_ok (by rw [P_len]; simp only [List.length_cons, List.length_nil]; omega), ← P_succ, next64 (by omega)]
      exact f47_loop h n (j + 1) (by omega) (by omega)
    · obtain rfl : j = G.length := by omega
      rw [if_neg (by omega)]
theorem f47_eq {k : Nat} (hk : 1000 ≤ k) {G : List Int} (h : GV G) : f47 k G = some (P G (G.length + 1)) := by
  have := f47_loop h k 0 (by omega) (by have := h.2.1; omega)
  rw [show P G (0 + 1) = [0] from rfl, show ((0 : Nat) : Int) = 0 from rfl] at this
  unfold f47
  rw [this]; rfl
theorem f39_eq {k : Nat} (hk : 1000 ≤ k) {G : List Int} (h : GV G) : f39 k G = some (P G (G.length + 1), 0) := by
  unfold f39
  rw [f46_eq hk h]
  simp only [Option.bind_some, if_true, f47_eq hk h]
theorem f24_eq {k : Nat} (hk : 1000 ≤ k) {G : List Int} (h : GV G) : f24 k G = some (S G G.length, 0) := by
  have hl2 := h.2.1
  unfold f24
  rw [f43_eq hk h]
  simp only [Option.bind_some, if_true]
  rw [P_len, w64 (by omega) (by omega), show ((G.length + 1 : Nat) : Int) - 1 = ((G.length : Nat) : Int) from by omega, P_get (by omega)]; rfl
theorem f27_eq {k : Nat} (hk : 1000 ≤ k) {G : List Int} (h : GV G) : f27 k G = some (S G G.length, 0) := by
  unfold f27
  rw [f46_eq hk h]
  simp only [Option.bind_some, if_true, f47_eq hk h]
  rw [P_get (by omega)]; rfl
end Go.Proofs.YthemdclmlcblbaaDoor

set_option linter.unusedVariables false
set_option linter.unusedSimpArgs false
namespace Go.Proofs.YthemdclmlcblbaaDoor
open Go Go.Det Go.RowKit
/-! Rides -/
def tri (n : Nat) : Nat := n * (n + 1) / 2
theorem f72_all : ∀ n : Fin 22, f72 ((n.val : Nat) : Int) = some ((tri n.val : Nat) : Int) := by decide +kernel
theorem f72_eq {n : Nat} (h : n ≤ 21) : f72 (n : Int) = some ((tri n : Nat) : Int) := f72_all ⟨n, by omega⟩
theorem f71_eq {n : Nat} (h : n ≤ 21) : f71 (n : Int) = some ((tri n : Nat) : Int) := f72_eq h
theorem tri_all : ∀ n : Fin 22, tri (n.val + 1) = tri n.val + n.val + 1 := by decide +kernel
theorem tri_succ {n : Nat} (h : n ≤ 21) : tri (n + 1) = tri n + n + 1 := tri_all ⟨n, by omega⟩
theorem cand70 {α β : Type} {n m left : Nat} (hn : n ≤ 21) (A : α) (B : β) :
    (if (n : Int) ≥ 0 then if (n : Int) ≤ (m : Int) then (f72 (n : Int)).bind fun t => if t ≤ (left : Int) then some (Sum.inl A) else some (Sum.inr B) else some (Sum.inr B) else some (Sum.inr B)) = if n ≤ m ∧ tri n ≤ left then some (Sum.inl A) else some (Sum.inr B) := by
  rw [if_pos (by omega), f72_eq hn]
  simp only [Option.bind_some]
  by_cases h1 : n ≤ m
  · rw [if_pos (by omega)]
    by_cases h2 : tri n ≤ left
    · rw [if_pos (by omega), if_pos ⟨h1, h2⟩]
    · rw [if_neg (by omega), if_neg (fun h => h2 h.2)]
  · rw [if_neg (by omega), if_neg (fun h => h1 h.1)]
theorem cand66 {α β : Type} {n m left : Nat} (hn : n ≤ 21) (A : α) (B : β) :
    (if (n : Int) ≥ 0 then if (n : Int) ≤ (m : Int) then (f71 (n : Int)).bind fun t => if t ≤ (left : Int) then some (Sum.inl A) else some (Sum.inr B) else some (Sum.inr B) else some (Sum.inr B)) = if n ≤ m ∧ tri n ≤ left then some (Sum.inl A) else some (Sum.inr B) := cand70 hn A B
theorem next_eq {k : Nat} (hk : 1000 ≤ k) {s left m : Nat} (hm1 : 1 ≤ m) (hm : m ≤ 20) (hs : s ≤ m) (hl : 0 < left) (hi : tri s ≤ left + s) :
    ∃ s' : Nat, 1 ≤ s' ∧ s' ≤ m ∧ tri s' ≤ left ∧ f70 k (s : Int) (left : Int) (m : Int) = some ((s' : Int), true) ∧ f66 k (s : Int) (left : Int) (m : Int) = some (s' : Int) := by
  obtain ⟨k, rfl⟩ : ∃ q, k = q + 3 := ⟨k - 3, by omega⟩
  unfold f70 f66
  have t0 : tri 0 = 0 := rfl
  have t1 : tri 1 = 1 := rfl
  rw [next64 (by omega), cand70 (by omega), f66_l1]
  by_cases hA : s + 1 ≤ m ∧ tri (s + 1) ≤ left
  · rw [if_pos hA, if_pos (by rw [w64 (by omega) (by omega)]; omega), cand66 (by omega), if_pos hA]
    exact ⟨s + 1, by omega, hA.1, hA.2, rfl, rfl⟩
  · have hs1 : 1 ≤ s := by
      apply Classical.byContradiction
      intro q
      obtain rfl : s = 0 := by omega
      exact hA ⟨by omega, by rw [show tri (0 + 1) = 1 from rfl]; omega⟩
    have e1 : IntKind.i64.wrap (((s + 1 : Nat) : Int) - 1) = (s : Int) := by rw [w64 (by omega) (by omega)]; omega
    have e2 : IntKind.i64.wrap ((s : Int) - 1) = ((s - 1 : Nat) : Int) := by rw [w64 (by omega) (by omega)]; omega
    rw [if_neg hA, if_pos (by rw [e2]; omega), cand66 (by omega), if_neg hA]
    simp only [Option.bind_some]
    rw [e1, cand70 (by omega), f66_l1]
    by_cases hB : s ≤ m ∧ tri s ≤ left
    · rw [if_pos hB, if_pos (by rw [e2]; omega), cand66 (by omega), if_pos hB]
      exact ⟨s, hs1, hB.1, hB.2, rfl, rfl⟩
    · rw [if_neg hB, if_pos (by rw [e2]; omega), cand66 (by omega), if_neg hB]
      simp only [Option.bind_some]
      obtain ⟨q, rfl⟩ : ∃ q, s = q + 1 := ⟨s - 1, by omega⟩
      have hq := tri_succ (n := q) (by omega)
      have hq1 : 1 ≤ q := by
        apply Classical.byContradiction
        intro h
        obtain rfl : q = 0 := by omega
        exact hB ⟨hs, by rw [show tri (0 + 1) = 1 from rfl]; omega⟩
      have hC : q ≤ m ∧ tri q ≤ left := ⟨by omega, by omega⟩
      rw [e2, show q + 1 - 1 = q from by omega, cand70 (by omega), if_pos hC, f66_l1, if_pos (by rw [e2]; omega), cand66 (by omega), if_pos hC]
      exact ⟨q, hq1, hC.1, hC.2, rfl, rfl⟩
theorem ride_eq {k : Nat} (hk : 1000 ≤ k) {m : Nat} (hm1 : 1 ≤ m) (hm : m ≤ 20) : ∀ (n s left : Nat) (v0 v1 : Int), left < n → left ≤ 100000 → s ≤ m → tri s ≤ left + s →
    ∃ r : Int × Int, f56_l1 k (m : Int) n v0 v1 (s : Int) (left : Int) = some r ∧ f58_l1 k (m : Int) n v0 v1 (s : Int) (left : Int) = some r
  | 0, s, left, v0, v1, h1, h2, h3, h4 => by omega
  | n + 1, s, left, v0, v1, h1, h2, h3, h4 => by
    rw [f56_l1, f58_l1]
    by_cases h0 : 0 < left
    · obtain ⟨s', g1, g2, g3, g4, g5⟩ := next_eq hk hm1 hm h3 h0 h4
      rw [if_pos (by omega), if_pos (by omega), g4, g5]
      simp only [Option.bind_some]
      obtain ⟨q, rfl⟩ : ∃ q, s' = q + 1 := ⟨s' - 1, by omega⟩
      have hq := tri_succ (n := q) (by omega)
      rw [show IntKind.i64.wrap ((left : Int) - ((q + 1 : Nat) : Int)) = ((left - (q + 1) : Nat) : Int) from by rw [w64 (by omega) (by omega)]; omega]
      exact ride_eq hk hm1 hm n (q + 1) (left - (q + 1)) _ _ (by omega) (by omega) g2 (by omega)
    · rw [if_neg (by omega), if_neg (by omega)]
      exact ⟨_, rfl, rfl⟩
theorem travel_eq {k : Nat} (hk : 70000 ≤ k) {x m : Int} (hx : 0 ≤ x) (hx2 : x ≤ 63000) (hm1 : 1 ≤ m) (hm : m ≤ 20) : ∃ t : Int, f44 k x m = some (t, 0) ∧ f49 k x m = some (t, 0) := by
  obtain ⟨x, rfl⟩ := Int.eq_ofNat_of_zero_le hx
  obtain ⟨m, rfl⟩ := Int.eq_ofNat_of_zero_le (show 0 ≤ m by omega)
  obtain ⟨⟨t, v⟩, r1, r2⟩ := ride_eq (k := k) (by omega) (m := m) (by omega) (by omega) k 0 x 0 0 (by omega) (by omega) (by omega) (by rw [show tri 0 = 0 from rfl]; omega)
  rw [show ((0 : Nat) : Int) = 0 from rfl] at r1 r2
  have h55 : f55 (x : Int) (m : Int) = some true := by
    unfold f55
    rw [if_pos (by omega), if_pos (by omega), if_pos (by omega), decide_eq_true (by omega)]; rfl
  have h57 : f57 (x : Int) (m : Int) = some 0 := by
    unfold f57
    rw [if_neg (by omega), if_neg (by omega), if_neg (by omega), if_neg (by omega)]
  refine ⟨t, ?_, ?_⟩
  · unfold f44 f56
    rw [h55, r1]; rfl
  · unfold f49 f58
    rw [h57, r2]; rfl
theorem way_eq {k : Nat} (hk : 70000 ≤ k) (c : Config) {x : Int} (hx : 1 ≤ x) (hx2 : x ≤ 63000) (hn : Nums c) : ∃ t : Int, f25 k c x = some t ∧ f29 k c x = some t ∧ IntKind.i64.wrap (t - 0) = t := by
  obtain ⟨t, g1, g2⟩ := travel_eq hk (x := x) (m := c.Speed) (by omega) (by omega) hn.2.2.1.1 hn.2.2.1.2
  refine ⟨IntKind.i64.wrap (t + IntKind.i64.wrap (2 * c.Brake)), ?_, ?_, ?_⟩
  · unfold f25
    rw [if_neg (by omega), g1]; rfl
  · unfold f29
    rw [g2]; rfl
  · generalize t + IntKind.i64.wrap (2 * c.Brake) = z
    simp only [IntKind.wrap_i64]
    omega
end Go.Proofs.YthemdclmlcblbaaDoor

set_option linter.unusedVariables false
set_option linter.unusedSimpArgs false
namespace Go.Proofs.YthemdclmlcblbaaDoor
open Go Go.Det Go.RowKit
/-! Times -/
theorem Valid.gv {c : Config} {F M0 M1 M2 : Nat} (h : Valid c F M0 M1 M2) : GV c.Gaps := by
  have := h.nums.1
  have := h.floors
  have := h.gl
  exact ⟨by omega, by omega, h.gaps⟩
theorem Valid.h1 {c : Config} {F M0 M1 M2 : Nat} (h : Valid c F M0 M1 M2) : 1 ≤ S c.Gaps c.Gaps.length ∧ S c.Gaps c.Gaps.length ≤ 63000 := by
  have g := h.gv
  have b := S_bd g.2.2 c.Gaps.length
  have l := S_lt g.2.2 (i := 0) (by have := g.1; omega)
  have m := S_mono g.2.2 (i := 1) c.Gaps.length g.1
  have := g.2.1
  rw [show S c.Gaps 0 = 0 from rfl] at l
  simp only [Nat.zero_add] at l
  omega
theorem door_eq (r : DoorRule) : ∃ p : Int × Int, f26 r = some p ∧ f28 r = some p := by
  have : f28 r = f26 r := rfl
  rw [this]
  unfold f26
  have h : ∃ e : Int, f45 r = some e := by
    unfold f45
    repeat' split
    all_goals exact ⟨_, rfl⟩
  obtain ⟨e, he⟩ := h
  have he' : f45 (DoorRule.mk r.Width r.Dwell r.Retries) = some e := he
  rw [he']
  simp only [Option.bind_some]
  split <;> exact ⟨_, rfl, rfl⟩
theorem times_bad {k : Nat} {c : Config} {e : Int} (h9 : f9 k c = some e) (h10 : f10 k c = some e) (he : e ≠ 0) : f7 k c = some (Times.mk 0 0 0 0 0, e) ∧ f8 k c = some (Times.mk 0 0 0 0 0, e) := by
  unfold f7 f8
  simp only [eta, h9, h10, Option.bind_some]
  rw [if_neg he, if_neg he]
  exact ⟨rfl, rfl⟩
theorem times_ok {k : Nat} (hk : 70000 ≤ k) {c : Config} {F M0 M1 M2 : Nat} (h9 : f9 k c = some 0) (h10 : f10 k c = some 0) (hv : Valid c F M0 M1 M2) : ∃ T : Times, f7 k c = some (T, 0) ∧ f8 k c = some (T, 0) ∧ IntKind.i64.wrap (T.Move - 0) = T.Move := by
  have hh := hv.h1
  obtain ⟨t, g1, g2, g3⟩ := way_eq hk c (x := S c.Gaps c.Gaps.length) hh.1 hh.2 hv.nums
  obtain ⟨⟨p, q⟩, d1, d2⟩ := door_eq (DoorRule.mk c.Width c.Dwell c.Retries)
  unfold f7 f8
  simp only [eta, h9, h10, Option.bind_some, if_true, f24_eq (show 1000 ≤ k by omega) hv.gv, f27_eq (show 1000 ≤ k by omega) hv.gv, g1, g2, d1, d2]
  exact ⟨_, rfl, rfl, g3⟩
/-! Homes -/
theorem pick (c : Config) {x : Int} (h1 : 1 ≤ x) (h2 : x ≤ 3) {F M0 M1 M2 : Nat} (hv : Valid c F M0 M1 M2)
    (e0 : c.Rules_0_Mask = (M0 : Int)) (e1 : c.Rules_1_Mask = (M1 : Int)) (e2 : c.Rules_2_Mask = (M2 : Int)) :
    ∃ (M : Nat) (h cl : Int), rd ([RuleT.mk c.Rules_0_Mask c.Rules_0_Home c.Rules_0_Calls, RuleT.mk c.Rules_1_Mask c.Rules_1_Home c.Rules_1_Calls, RuleT.mk c.Rules_2_Mask c.Rules_2_Home c.Rules_2_Calls] : List RuleT) (IntKind.i64.wrap (x - 1)) = some (RuleT.mk (M : Int) h cl) ∧ RG F M h := by
  rw [w64 (by omega) (by omega)]
  rcases (show x = 1 ∨ x = 2 ∨ x = 3 by omega) with rfl | rfl | rfl
  · exact ⟨M0, c.Rules_0_Home, c.Rules_0_Calls, by rw [← e0]; rfl, hv.r0⟩
  · exact ⟨M1, c.Rules_1_Home, c.Rules_1_Calls, by rw [← e1]; rfl, hv.r1⟩
  · exact ⟨M2, c.Rules_2_Home, c.Rules_2_Calls, by rw [← e2]; rfl, hv.r2⟩
theorem rule_bad {k : Nat} {c : Config} {e x : Int} (h9 : f9 k c = some e) (h10 : f10 k c = some e) (he : e ≠ 0) : f37 k c x = some (RuleT.mk 0 0 0, [], e) ∧ f38 k c x = some e := by
  unfold f37 f38
  simp only [eta, h9, h10, Option.bind_some, if_neg he, and_self]
theorem rule_out {k : Nat} {c : Config} {x : Int} (h9 : f9 k c = some 0) (h10 : f10 k c = some 0) (hx : ¬ (1 ≤ x ∧ x ≤ 3)) : f37 k c x = some (RuleT.mk 0 0 0, [], 2) ∧ f38 k c x = some 2 := by
  unfold f37 f38
  simp only [eta, h9, h10, Option.bind_some, if_true, f31_eq, f34_eq, decide_eq_true_eq, if_neg hx]
  rw [if_neg (by decide)]
  exact ⟨rfl, trivial⟩
theorem rule_in {k : Nat} (hk : 1000 ≤ k) {c : Config} {x : Int} {F M0 M1 M2 : Nat} (h9 : f9 k c = some 0) (h10 : f10 k c = some 0) (hv : Valid c F M0 M1 M2) (hx : 1 ≤ x ∧ x ≤ 3) {r : RuleT}
    (hr : rd ([RuleT.mk c.Rules_0_Mask c.Rules_0_Home c.Rules_0_Calls, RuleT.mk c.Rules_1_Mask c.Rules_1_Home c.Rules_1_Calls, RuleT.mk c.Rules_2_Mask c.Rules_2_Home c.Rules_2_Calls] : List RuleT) (IntKind.i64.wrap (x - 1)) = some r) :
    f37 k c x = some (r, P c.Gaps (c.Gaps.length + 1), 0) ∧ f38 k c x = some 0 := by
  unfold f37 f38
  simp only [eta, h9, h10, Option.bind_some, if_true, f31_eq, f34_eq, decide_eq_true_eq, if_pos hx, f43_eq hk hv.gv, hr, and_self]
theorem home_eq {k : Nat} (hk : 1000 ≤ k) {c : Config} {x e : Int} {M0 M1 M2 : Nat} (h9 : f9 k c = some e) (h10 : f10 k c = some e) (hv : e = 0 → ∃ F : Nat, Valid c F M0 M1 M2)
    (e0 : c.Rules_0_Mask = (M0 : Int)) (e1 : c.Rules_1_Mask = (M1 : Int)) (e2 : c.Rules_2_Mask = (M2 : Int)) : ∃ p : Int × Int, f11 k c x = some p ∧ f12 k c x = some p := by
  unfold f11 f12
  simp only [eta]
  by_cases he : e = 0
  · subst he
    obtain ⟨F, hv⟩ := hv rfl
    by_cases hx : 1 ≤ x ∧ x ≤ 3
    · obtain ⟨M, h, cl, hr, hg⟩ := pick c hx.1 hx.2 hv e0 e1 e2
      obtain ⟨a, b⟩ := rule_in hk h9 h10 hv hx hr
      have hl := hasI_lt hg.2.1 hg.2.2
      obtain ⟨h, rfl⟩ := Int.eq_ofNat_of_zero_le hl.1
      have := hv.gl
      simp only [a, b, Option.bind_some, if_true, f39_eq hk hv.gv, hr]
      rw [P_get (by omega)]
      exact ⟨_, rfl, rfl⟩
    · obtain ⟨a, b⟩ := rule_out h9 h10 hx
      rw [a, b]
      exact ⟨_, rfl, rfl⟩
  · obtain ⟨a, b⟩ := rule_bad (x := x) h9 h10 he
    simp only [a, b, Option.bind_some, if_neg he]
    exact ⟨_, rfl, rfl⟩
end Go.Proofs.YthemdclmlcblbaaDoor

set_option linter.unusedVariables false
set_option linter.unusedSimpArgs false
namespace Go.Proofs.YthemdclmlcblbaaDoor
open Go Go.Det Go.RowKit
/-! The longest way -/
theorem ends {M : Nat} : ∀ j, (upTo M j = [] ∧ ∀ i, i < j → M.testBit i = false) ∨
    ∃ a b, a ≤ b ∧ b < j ∧ M.testBit a = true ∧ M.testBit b = true ∧ (∀ i, i < j → M.testBit i = true → a ≤ i ∧ i ≤ b) ∧ (∃ t, upTo M j = a :: t) ∧ ∃ t, upTo M j = t ++ [b]
  | 0 => .inl ⟨rfl, fun i h => by omega⟩
  | j + 1 => by
    rw [upTo_succ]
    rcases ends (M := M) j with ⟨e, h⟩ | ⟨a, b, h1, h2, h3, h4, h5, ⟨t, h6⟩, ⟨u, h7⟩⟩
    · rw [e]
      by_cases hb : M.testBit j = true
      · refine .inr ⟨j, j, Nat.le_refl _, by omega, hb, hb, fun i hi hi2 => ?_, ⟨[], by rw [if_pos hb]; rfl⟩, ⟨[], by rw [if_pos hb]⟩⟩
        by_cases q : i < j
        · rw [h i q] at hi2; cases hi2
        · omega
      · refine .inl ⟨by rw [if_neg hb]; rfl, fun i hi => ?_⟩
        by_cases q : i < j
        · exact h i q
        · obtain rfl : i = j := by omega
          exact Bool.eq_false_iff.2 hb
    · by_cases hb : M.testBit j = true
      · refine .inr ⟨a, j, by omega, by omega, h3, hb, fun i hi hi2 => ?_, ⟨t ++ [j], by rw [if_pos hb, h6]; rfl⟩, ⟨upTo M j, by rw [if_pos hb]⟩⟩
        by_cases q : i < j
        · have := h5 i q hi2; omega
        · omega
      · refine .inr ⟨a, b, h1, by omega, h3, h4, fun i hi hi2 => ?_, ⟨t, by rw [if_neg hb, h6]; simp⟩, ⟨u, by rw [if_neg hb, h7]; simp⟩⟩
        by_cases q : i < j
        · exact h5 i q hi2
        · obtain rfl : i = j := by omega
          exact absurd hi2 hb
theorem lastfirst {M : Nat} (h0 : M ≠ 0) (hM : M < 18446744073709551616) : ∃ a b, a ≤ b ∧ b < 64 ∧ M.testBit a = true ∧ M.testBit b = true ∧ (∀ i, M.testBit i = true → a ≤ i ∧ i ≤ b) ∧
    rd (ints (upTo M 64)) 0 = some (a : Int) ∧ rd (ints (upTo M 64)) (IntKind.i64.wrap (((ints (upTo M 64)).length : Int) - 1)) = some (b : Int) := by
  rcases ends (M := M) 64 with ⟨e, h⟩ | ⟨a, b, h1, h2, h3, h4, h5, ⟨t, h6⟩, ⟨u, h7⟩⟩
  · refine absurd ?_ h0
    apply Nat.eq_of_testBit_eq
    intro i
    rw [Nat.zero_testBit]
    by_cases q : i < 64
    · exact h i q
    · exact testBit_big hM (by omega)
  · have hl : (upTo M 64).length ≤ 64 := by rw [upTo_len]; exact cnt_le M 64
    refine ⟨a, b, h1, h2, h3, h4, fun i hi => ?_, ?_, ?_⟩
    · by_cases q : i < 64
      · exact h5 i q hi
      · rw [testBit_big hM (by omega)] at hi; cases hi
    · rw [h6]; rfl
    · have : (ints (upTo M 64)).length = u.length + 1 := by rw [ints_len, h7]; simp
      rw [ints_len] at this
      rw [ints_len, w64 (by omega) (by omega), this, show ((u.length + 1 : Nat) : Int) - 1 = (u.length : Int) from by omega, rd_nat, h7]
      simp [ints]
theorem in_l {G : List Int} (hG : GV G) {F M : Nat} (hF : F ≤ 64) (hGF : G.length + 1 = F) (hM : M < 2 ^ F) {a b : Nat} (hab : a ≤ b) (hb : b < F) (hall : ∀ i, M.testBit i = true → a ≤ i ∧ i ≤ b) (ha : M.testBit a = true) (hbb : M.testBit b = true) (i : Nat) :
    ∀ (n j : Nat) (acc : Int), j ≤ F → F < n + j → i ≤ j → i < F → acc ≤ S G b - S G a → 0 ≤ acc →
    ∃ acc' : Int, f14_l2 (P G (G.length + 1)) (i : Int) (F : Int) (M : Int) n acc (j : Int) = some acc' ∧ acc ≤ acc' ∧ acc' ≤ S G b - S G a ∧ (i = a → j ≤ b → S G b - S G a ≤ acc')
  | 0, j, acc, h1, h2, h3, h4, h5, h6 => by omega
  | n + 1, j, acc, h1, h2, h3, h4, h5, h6 => by
    have hM64 : M < 18446744073709551616 := Nat.lt_of_lt_of_le hM (pow64' hF)
    rw [f14_l2]
    by_cases hj : j < F
    · rw [if_pos (by omega), f41_eq hM64, f41_eq hM64, hasI_nat (by omega), hasI_nat (by omega), next64 (by omega)]
      simp only [Option.bind_some]
      by_cases hbi : M.testBit i = true
      · rw [if_pos hbi]
        by_cases hbj : M.testBit j = true
        · rw [if_pos hbj, P_get (by omega), P_get (by omega)]
          have bi := hall i hbi
          have bj := hall j hbj
          have q1 := S_bd hG.2.2 i
          have q2 := S_bd hG.2.2 j
          have q3 := S_mono hG.2.2 (i := a) i bi.1
          have q4 := S_mono hG.2.2 (i := j) b bj.2
          have q5 := S_bd hG.2.2 b
          simp only [Option.bind_some]
          rw [w64 (by omega) (by omega), gmax_eq]
          obtain ⟨acc', g1, g2, g3, g4⟩ := in_l hG hF hGF hM hab hb hall ha hbb i n (j + 1) (max acc (S G j - S G i)) (by omega) (by omega) (by omega) h4 (by omega) (by omega)
          refine ⟨acc', g1, by omega, g3, fun e1 e2 => ?_⟩
          by_cases e3 : j = b
          · subst e1 e3; omega
          · exact g4 e1 (by omega)
        · rw [if_neg hbj]
          simp only [Option.bind_some]
          obtain ⟨acc', g1, g2, g3, g4⟩ := in_l hG hF hGF hM hab hb hall ha hbb i n (j + 1) acc (by omega) (by omega) (by omega) h4 h5 h6
          refine ⟨acc', g1, g2, g3, fun e1 e2 => g4 e1 ?_⟩
          have : j ≠ b := fun q => hbj (q ▸ hbb)
          omega
      · rw [if_neg hbi]
        obtain ⟨acc', g1, g2, g3, g4⟩ := in_l hG hF hGF hM hab hb hall ha hbb i n (j + 1) acc (by omega) (by omega) (by omega) h4 h5 h6
        exact ⟨acc', g1, g2, g3, fun e1 e2 => absurd (e1 ▸ ha) hbi⟩
    · rw [if_neg (by omega)]
      exact ⟨acc, rfl, Int.le_refl _, h5, fun e1 e2 => by omega⟩
theorem out_l {k : Nat} (hk : 1000 ≤ k) {G : List Int} (hG : GV G) {F M : Nat} (hF : F ≤ 64) (hGF : G.length + 1 = F) (hM : M < 2 ^ F) {a b : Nat} (hab : a ≤ b) (hb : b < F) (hall : ∀ i, M.testBit i = true → a ≤ i ∧ i ≤ b) (ha : M.testBit a = true) (hbb : M.testBit b = true) :
    ∀ (n i : Nat) (acc : Int), i ≤ F → F < n + i → acc ≤ S G b - S G a → 0 ≤ acc →
    ∃ acc' : Int, f14_l1 k (P G (G.length + 1)) (F : Int) (M : Int) n acc (i : Int) = some acc' ∧ acc ≤ acc' ∧ acc' ≤ S G b - S G a ∧ (i ≤ a → S G b - S G a ≤ acc')
  | 0, i, acc, h1, h2, h3, h4 => by omega
  | n + 1, i, acc, h1, h2, h3, h4 => by
    rw [f14_l1]
    by_cases hi : i < F
    · obtain ⟨acc', g1, g2, g3, g4⟩ := in_l hG hF hGF hM hab hb hall ha hbb i k i acc h1 (by omega) (Nat.le_refl _) hi h3 h4
      rw [if_pos (by omega), g1]
      simp only [Option.bind_some]
      rw [next64 (by omega)]
      obtain ⟨acc2, k1, k2, k3, k4⟩ := out_l hk hG hF hGF hM hab hb hall ha hbb n (i + 1) acc' (by omega) (by omega) g3 (by omega)
      refine ⟨acc2, k1, by omega, k3, fun q => ?_⟩
      by_cases e : i = a
      · have := g4 e (by omega); omega
      · exact k4 (by omega)
    · rw [if_neg (by omega)]
      exact ⟨acc, rfl, Int.le_refl _, h3, fun q => by omega⟩
theorem longest_eq {k : Nat} (hk : 1000 ≤ k) {c : Config} {x e : Int} {M0 M1 M2 : Nat} (h9 : f9 k c = some e) (h10 : f10 k c = some e) (hv : e = 0 → ∃ F : Nat, Valid c F M0 M1 M2)
    (e0 : c.Rules_0_Mask = (M0 : Int)) (e1 : c.Rules_1_Mask = (M1 : Int)) (e2 : c.Rules_2_Mask = (M2 : Int)) : ∃ p : Int × Int, f13 k c x = some p ∧ f14 k c x = some p := by
  unfold f13 f14
  simp only [eta]
  by_cases he : e = 0
  · subst he
    obtain ⟨F, hv⟩ := hv rfl
    by_cases hx : 1 ≤ x ∧ x ≤ 3
    · obtain ⟨M, h, cl, hr, hg⟩ := pick c hx.1 hx.2 hv e0 e1 e2
      obtain ⟨p1, p2⟩ := rule_in hk h9 h10 hv hx hr
      have hgl := hv.gl
      have hf := hv.floors
      have hfn := hv.nums.1
      have hM64 : M < 18446744073709551616 := Nat.lt_of_lt_of_le hg.2.1 (pow64' (by omega))
      obtain ⟨a, b, c1, c2, c3, c4, c5, c6, c7⟩ := lastfirst hg.1 hM64
      have hbF : b < F := by
        apply Classical.byContradiction
        intro q
        rw [Nat.testBit_lt_two_pow (Nat.lt_of_lt_of_le hg.2.1 (Nat.pow_le_pow_right (by decide) (show F ≤ b by omega)))] at c4
        cases c4
      have s1 := S_bd hv.gv.2.2 a
      have s2 := S_bd hv.gv.2.2 b
      have s3 := S_mono hv.gv.2.2 (i := a) b c1
      obtain ⟨acc, g1, g2, g3, g4⟩ := out_l hk hv.gv (by omega) hgl hg.2.1 c1 hbF c5 c3 c4 k 0 0 (by omega) (by omega) (by omega) (Int.le_refl _)
      rw [show ((0 : Nat) : Int) = 0 from rfl] at g1
      have hacc : acc = S c.Gaps b - S c.Gaps a := by have := g4 (by omega); omega
      simp only [p1, p2, Option.bind_some, if_true, f39_eq hk hv.gv, hr, f40_eq (show 66 ≤ k by omega) hM64, hf, g1]
      rw [c7, c6]
      simp only [Option.bind_some]
      rw [P_get (by omega), P_get (by omega)]
      simp only [Option.bind_some]
      rw [w64 (by omega) (by omega), hacc]
      exact ⟨_, rfl, rfl⟩
    · obtain ⟨a, b⟩ := rule_out h9 h10 hx
      rw [a, b]
      exact ⟨_, rfl, rfl⟩
  · obtain ⟨a, b⟩ := rule_bad (x := x) h9 h10 he
    simp only [a, b, Option.bind_some, if_neg he]
    exact ⟨_, rfl, rfl⟩
end Go.Proofs.YthemdclmlcblbaaDoor

set_option linter.unusedVariables false
set_option linter.unusedSimpArgs false
namespace Go.Proofs.YthemdclmlcblbaaDoor
open Go Go.Det Go.RowKit
theorem spare_eq {k : Nat} (hk : 70000 ≤ k) {c : Config} {x y e : Int} {M0 M1 M2 : Nat} (h9 : f9 k c = some e) (h10 : f10 k c = some e) (hv : e = 0 → ∃ F : Nat, Valid c F M0 M1 M2) : ∃ p : Int × Int, f15 k c x y = some p ∧ f16 k c x y = some p := by
  have hk1 : 1000 ≤ k := by omega
  unfold f15 f16
  simp only [eta]
  by_cases he : e = 0
  · subst he
    obtain ⟨F, hv⟩ := hv rfl
    obtain ⟨T, t1, t2, t3⟩ := times_ok hk h9 h10 hv
    have hgl := hv.gl
    have hf := hv.floors
    have hfn := hv.nums.1
    have hw : IntKind.i64.wrap (c.Floors - 1) = ((F - 1 : Nat) : Int) := by rw [w64 (by omega) (by omega)]; omega
    simp only [t1, t2, Option.bind_some, if_true, f34_eq, decide_eq_true_eq, hw]
    unfold f42
    rw [f43_eq hk1 hv.gv]
    simp only [Option.bind_some, if_true, gmin_eq, gmax_eq, P_len]
    by_cases hx : 0 ≤ x ∧ x ≤ ((F - 1 : Nat) : Int)
    · by_cases hy : 0 ≤ y ∧ y ≤ ((F - 1 : Nat) : Int)
      · rw [if_pos hx, if_pos hy, if_neg (by omega), if_neg (by omega)]
        obtain ⟨x, rfl⟩ := Int.eq_ofNat_of_zero_le hx.1
        obtain ⟨y, rfl⟩ := Int.eq_ofNat_of_zero_le hy.1
        rw [P_get (by omega), P_get (by omega)]
        simp only [Option.bind_some, f39_eq hk1 hv.gv]
        rw [P_get (by omega), P_get (by omega)]
        have q1 := S_bd hv.gv.2.2 x
        have q2 := S_bd hv.gv.2.2 y
        unfold f52
        simp only [Option.bind_some, gmax_eq]
        rw [w64 (by omega) (by omega), w64 (by omega) (by omega)]
        by_cases hxy : x = y
        · subst hxy
          have h25 : f25 k c (max (S c.Gaps x - S c.Gaps x) (S c.Gaps x - S c.Gaps x)) = some 0 := by
            unfold f25
            rw [if_pos (by omega)]
          simp only [if_true, h25, Option.bind_some, t3]
          exact ⟨_, rfl, rfl⟩
        · have hd : 1 ≤ max (S c.Gaps x - S c.Gaps y) (S c.Gaps y - S c.Gaps x) := by
            rcases Nat.lt_or_gt_of_ne hxy with h | h
            · have a1 := S_lt hv.gv.2.2 (i := x) (by omega)
              have a2 := S_mono hv.gv.2.2 (i := x + 1) y h
              omega
            · have a1 := S_lt hv.gv.2.2 (i := y) (by omega)
              have a2 := S_mono hv.gv.2.2 (i := y + 1) x h
              omega
          obtain ⟨t, w1, w2, w3⟩ := way_eq hk c (x := max (S c.Gaps x - S c.Gaps y) (S c.Gaps y - S c.Gaps x)) hd (by omega) hv.nums
          simp only [if_true, w1, w2, Option.bind_some]
          rw [if_neg (by omega)]
          exact ⟨_, rfl, rfl⟩
      · rw [if_pos hx, if_neg hy]
        by_cases h1 : min x y < 0
        · rw [if_pos h1]; exact ⟨_, rfl, rfl⟩
        · rw [if_neg h1, if_pos (by omega)]; exact ⟨_, rfl, rfl⟩
    · rw [if_neg hx]
      by_cases h1 : min x y < 0
      · rw [if_pos h1]; exact ⟨_, rfl, rfl⟩
      · rw [if_neg h1, if_pos (by omega)]; exact ⟨_, rfl, rfl⟩
  · obtain ⟨a, b⟩ := times_bad h9 h10 he
    simp only [a, b, Option.bind_some, if_neg he]
    exact ⟨_, rfl, rfl⟩
theorem ports_l (x : Int) : ∀ (n i : Nat) (l : List Int), i ≤ 24 → 24 < n + i → l.length ≤ i → ∃ l' : List Int, f17_l1 x n l (i : Int) = some l' ∧ f18_l1 x n l (i : Int) = some l' ∧ l'.length ≤ 24
  | 0, i, l, h1, h2, h3 => by omega
  | n + 1, i, l, h1, h2, h3 => by
    rw [f17_l1, f18_l1]
    simp only [Option.bind_some, decide_eq_true_eq]
    by_cases hi : i < 24
    · have hi' : (i : Int) < 24 := by omega
      rw [if_pos hi', if_pos hi']
      by_cases h : IntKind.i64.wrap (1 + IntKind.i64.wrap ((i : Int).tdiv 8)) = x
      · rw [if_pos h, apd_ok (by simp only [List.length_cons, List.length_nil]; omega)]
        simp only [Option.bind_some]
        rw [next64 (by omega)]
        exact ports_l x n (i + 1) _ (by omega) (by omega) (by simp only [List.length_append, List.length_cons, List.length_nil]; omega)
      · rw [if_neg h]
        simp only [Option.bind_some]
        rw [next64 (by omega)]
        exact ports_l x n (i + 1) _ (by omega) (by omega) (by omega)
    · have hi' : ¬ (i : Int) < 24 := by omega
      rw [if_neg hi', if_neg hi']
      exact ⟨l, rfl, rfl, by omega⟩
theorem ports_eq {k : Nat} (hk : 1000 ≤ k) (x : Int) : ∃ (l : List Int) (e : Int), f17 k x = some (l, e) ∧ f18 k x = some (l, e) ∧ l.length ≤ 24 := by
  unfold f17 f18
  rw [f31_eq, f34_eq]
  simp only [Option.bind_some, decide_eq_true_eq]
  by_cases h : 1 ≤ x ∧ x ≤ 3
  · obtain ⟨l, a, b, c⟩ := ports_l x k 0 [] (by omega) (by omega) (Nat.le_refl _)
    rw [show ((0 : Nat) : Int) = 0 from rfl] at a b
    rw [if_pos h, if_pos h, a, b]
    exact ⟨l, 0, rfl, rfl, c⟩
  · rw [if_neg h, if_neg h]
    exact ⟨[], 2, rfl, rfl, by simp⟩
end Go.Proofs.YthemdclmlcblbaaDoor

set_option linter.unusedVariables false
set_option linter.unusedSimpArgs false
namespace Go.Proofs.YthemdclmlcblbaaDoor
open Go Go.Det Go.RowKit
theorem pure3 : Pure3 := by
  intro c x y hc hx hy
  refine ⟨70000, ?_⟩
  obtain ⟨m0, m1, m2⟩ : okI .u64 c.Rules_0_Mask ∧ okI .u64 c.Rules_1_Mask ∧ okI .u64 c.Rules_2_Mask := by
    obtain ⟨_, _, _, _, _, _, _, _, _, _, _, _, _, _, h, _, _⟩ := hc
    exact ⟨h.1.1, h.2.1.1, h.2.2.1⟩
  obtain ⟨M0, e0, b0⟩ := okU m0
  obtain ⟨M1, e1, b1⟩ := okU m1
  obtain ⟨M2, e2, b2⟩ := okU m2
  have hk : 70000 ≤ 70000 := Nat.le_refl _
  generalize hK : (70000 : Nat) = k
  have hk : 70000 ≤ k := by omega
  have hk1 : 1000 ≤ k := by omega
  clear hK
  unfold f3
  simp only [eta]
  rcases f4_eq hk1 c with h4 | ⟨h4, hL⟩
  · rw [h4]; rfl
  · obtain ⟨e, h9, h10, hv⟩ := check_eq hk1 c hL e0 e1 e2 b0 b1 b2
    have hT : ∃ p : Times × Int, f7 k c = some p ∧ f8 k c = some p := by
      by_cases he : e = 0
      · subst he
        obtain ⟨F, hv⟩ := hv rfl
        obtain ⟨T, t1, t2, t3⟩ := times_ok hk h9 h10 hv
        exact ⟨_, t1, t2⟩
      · obtain ⟨a, b⟩ := times_bad h9 h10 he
        exact ⟨_, a, b⟩
    obtain ⟨⟨T, te⟩, t1, t2⟩ := hT
    obtain ⟨⟨ha, hb⟩, a1, a2⟩ := home_eq (x := x) hk1 h9 h10 hv e0 e1 e2
    obtain ⟨⟨la, lb⟩, l1, l2⟩ := longest_eq (x := x) hk1 h9 h10 hv e0 e1 e2
    obtain ⟨⟨sa, sb⟩, s1, s2⟩ := spare_eq (x := x) (y := y) hk h9 h10 hv
    obtain ⟨pl, pe, p1, p2, p3⟩ := ports_eq hk1 x
    have h5 : f5 = some true := rfl
    simp only [h4, Option.bind_some, if_true, f6_eq hk1 hL, eta, t1, t2, h9, h10, a1, a2, l1, l2, s1, s2, p1, p2, f19_eq hk1 (show pl.length ≤ 100 by omega), f20_eq hk1 hL, h5]
end Go.Proofs.YthemdclmlcblbaaDoor

set_option linter.unusedVariables false
namespace Go.Proofs.YthemdclmlcblbaaDoor
open Go Go.Det Go.RowKit
/-- What the row lists is what the walks ask for. -/
theorem known {l : List (String × DataW Unit)} (h1 : ("math/bits.deBruijn64tab", Rows.laid_math_bits_deBruijn64tab) ∈ l)
    {W : World} (h : laidMet Tryd.prog l W) (hs : W.ShapedOpen Tryd.prog) : Laid W W.heap.size := by
  have e1 : (Rows.laid_math_bits_deBruijn64tab : DataW Unit) = Lib.tabData .u8 (Lib.deBruijn64tab.map fun n => ((n : Nat) : Int)) := by kernel_rfl
  have k1 := laid_tab (g := 0) (n := 64) (by kernel_rfl) (t := 92) (e := 5) (by kernel_rfl) (by kernel_rfl) (by kernel_rfl) (by kernel_rfl) (by kernel_rfl) (e1 ▸ Lib.laidMet.reads h h1)
  refine ⟨fun p hp => ?_, fun g hg => by simp [seatInts] at hg, fun g hg => by simp [seatIfs] at hg⟩
  simp only [seatCells, List.mem_cons, List.mem_nil_iff, or_false] at hp
  subst hp
  refine ⟨k1.1, ?_⟩
  have := k1.2
  rw [List.map_map] at this
  exact this
end Go.Proofs.YthemdclmlcblbaaDoor
