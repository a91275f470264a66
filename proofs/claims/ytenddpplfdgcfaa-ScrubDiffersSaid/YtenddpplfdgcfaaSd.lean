import Derived.Test.YtenddpplfdgcfaaSc
import Derived.Test.YtenddpplfdgcfaaD51
set_option linter.unusedVariables false
namespace Go.Proofs.Ytenddpplfdgcfaa
open Go Go.Det Go.RowKit
theorem ul3 : Try.prog.underlying 3 = some (.int .i64) := by kernel_rfl
def ok3 (x : Int) : Prop := okI .i64 x
theorem rd3 {H : Hp} {cs : List Value} (h : Rd Try.prog H 3 cs) : ∃ x : Int, Cod.rep intC 0 H cs x ∧ ok3 x := by
  obtain ⟨x, rfl, hx⟩ := h.int_inv ul3
  exact ⟨x, rfl, hx⟩
theorem ul22 : Try.prog.underlying 22 = some (.slice 3) := by kernel_rfl
theorem bo22 : Try.prog.bytesOf 3 = 8 := by kernel_rfl
def ok22 (x : List Int) : Prop := (∀ y ∈ x, ok3 y) ∧ x.length * 8 ≤ reachBytes ∧ x.length ≤ maxLen
theorem rd22 {H : Hp} {cs : List Value} (h : Rd Try.prog H 22 cs) : ∃ x : List Int, Cod.rep (slC intC) 0 H cs x ∧ ok22 x := by
  obtain ⟨l, a, cap, rfl, h1, h2, h3, h4⟩ := h.sl_inv (c := intC) ul22 fun cs h => rd3 h
  rw [bo22] at h3
  exact ⟨l, ⟨a, cap, rfl, h1⟩, h2, h3, h4⟩
theorem ul4 : Try.prog.underlying 4 = some .bool := by kernel_rfl
def ok4 (_ : Bool) : Prop := True
theorem rd4 {H : Hp} {cs : List Value} (h : Rd Try.prog H 4 cs) : ∃ x : Bool, Cod.rep boolC 0 H cs x ∧ ok4 x := by
  obtain ⟨x, rfl⟩ := h.bool_inv ul4
  exact ⟨x, rfl, trivial⟩
theorem ul36 : ∃ fs, Try.prog.underlying 36 = some (.struct fs) ∧ fs.toList.map (·.type) = [3, 4, 4, 4, 3, 3] := ⟨_, Try.underlying36, rfl⟩
def ok36 (x : Shown) : Prop := ok3 x.d ∧ ok4 x.sv ∧ ok4 x.fa ∧ ok4 x.ho ∧ ok3 x.at_ ∧ ok3 x.pa
theorem rd36 {H : Hp} {cs : List Value} (h : Rd Try.prog H 36 cs) : ∃ x : Shown, Cod.rep ShownC 0 H cs x ∧ ok36 x := by
  obtain ⟨fs, hu, hm⟩ := ul36
  have h := h.struct_inv hu
  obtain ⟨fs⟩ := fs
  simp only at hm h
  obtain ⟨f0, fs, rfl⟩ : ∃ f r, fs = f :: r := by cases fs with | nil => cases hm | cons f r => exact ⟨f, r, rfl⟩
  obtain ⟨c0, d0, e0, h0, h⟩ := h.cons_inv
  simp only [List.map_cons, List.cons.injEq] at hm
  obtain ⟨m0, hm⟩ := hm
  rw [m0] at h0
  obtain ⟨f1, fs, rfl⟩ : ∃ f r, fs = f :: r := by cases fs with | nil => cases hm | cons f r => exact ⟨f, r, rfl⟩
  obtain ⟨c1, d1, e1, h1, h⟩ := h.cons_inv
  simp only [List.map_cons, List.cons.injEq] at hm
  obtain ⟨m1, hm⟩ := hm
  rw [m1] at h1
  obtain ⟨f2, fs, rfl⟩ : ∃ f r, fs = f :: r := by cases fs with | nil => cases hm | cons f r => exact ⟨f, r, rfl⟩
  obtain ⟨c2, d2, e2, h2, h⟩ := h.cons_inv
  simp only [List.map_cons, List.cons.injEq] at hm
  obtain ⟨m2, hm⟩ := hm
  rw [m2] at h2
  obtain ⟨f3, fs, rfl⟩ : ∃ f r, fs = f :: r := by cases fs with | nil => cases hm | cons f r => exact ⟨f, r, rfl⟩
  obtain ⟨c3, d3, e3, h3, h⟩ := h.cons_inv
  simp only [List.map_cons, List.cons.injEq] at hm
  obtain ⟨m3, hm⟩ := hm
  rw [m3] at h3
  obtain ⟨f4, fs, rfl⟩ : ∃ f r, fs = f :: r := by cases fs with | nil => cases hm | cons f r => exact ⟨f, r, rfl⟩
  obtain ⟨c4, d4, e4, h4, h⟩ := h.cons_inv
  simp only [List.map_cons, List.cons.injEq] at hm
  obtain ⟨m4, hm⟩ := hm
  rw [m4] at h4
  obtain ⟨f5, fs, rfl⟩ : ∃ f r, fs = f :: r := by cases fs with | nil => cases hm | cons f r => exact ⟨f, r, rfl⟩
  obtain ⟨c5, d5, e5, h5, h⟩ := h.cons_inv
  simp only [List.map_cons, List.cons.injEq] at hm
  obtain ⟨m5, hm⟩ := hm
  rw [m5] at h5
  obtain rfl : fs = [] := by cases fs with | nil => rfl | cons f r => cases hm
  have h := h.nil_inv
  obtain ⟨y0, rfl, k0⟩ := rd3 h0
  obtain ⟨y1, rfl, k1⟩ := rd4 h1
  obtain ⟨y2, rfl, k2⟩ := rd4 h2
  obtain ⟨y3, rfl, k3⟩ := rd4 h3
  obtain ⟨y4, rfl, k4⟩ := rd3 h4
  obtain ⟨y5, rfl, k5⟩ := rd3 h5
  subst h
  subst e5
  subst e4
  subst e3
  subst e2
  subst e1
  subst e0
  exact ⟨Shown.mk y0 y1 y2 y3 y4 y5, rfl, ⟨k0, k1, k2, k3, k4, k5⟩⟩
theorem ul23 : Try.prog.underlying 23 = some (.slice 36) := by kernel_rfl
theorem bo23 : Try.prog.bytesOf 36 = 32 := by kernel_rfl
def ok23 (x : List Shown) : Prop := (∀ y ∈ x, ok36 y) ∧ x.length * 32 ≤ reachBytes ∧ x.length ≤ maxLen
theorem rd23 {H : Hp} {cs : List Value} (h : Rd Try.prog H 23 cs) : ∃ x : List Shown, Cod.rep (slC ShownC) 0 H cs x ∧ ok23 x := by
  obtain ⟨l, a, cap, rfl, h1, h2, h3, h4⟩ := h.sl_inv (c := ShownC) ul23 fun cs h => rd36 h
  rw [bo23] at h3
  exact ⟨l, ⟨a, cap, rfl, h1⟩, h2, h3, h4⟩
theorem ul32 : ∃ fs, Try.prog.underlying 32 = some (.struct fs) ∧ fs.toList.map (·.type) = [3, 3, 4] := ⟨_, Try.underlying32, rfl⟩
def ok32 (x : Sight) : Prop := ok3 x.floor ∧ ok3 x.panel ∧ ok4 x.out
theorem rd32 {H : Hp} {cs : List Value} (h : Rd Try.prog H 32 cs) : ∃ x : Sight, Cod.rep SightC 0 H cs x ∧ ok32 x := by
  obtain ⟨fs, hu, hm⟩ := ul32
  have h := h.struct_inv hu
  obtain ⟨fs⟩ := fs
  simp only at hm h
  obtain ⟨f0, fs, rfl⟩ : ∃ f r, fs = f :: r := by cases fs with | nil => cases hm | cons f r => exact ⟨f, r, rfl⟩
  obtain ⟨c0, d0, e0, h0, h⟩ := h.cons_inv
  simp only [List.map_cons, List.cons.injEq] at hm
  obtain ⟨m0, hm⟩ := hm
  rw [m0] at h0
  obtain ⟨f1, fs, rfl⟩ : ∃ f r, fs = f :: r := by cases fs with | nil => cases hm | cons f r => exact ⟨f, r, rfl⟩
  obtain ⟨c1, d1, e1, h1, h⟩ := h.cons_inv
  simp only [List.map_cons, List.cons.injEq] at hm
  obtain ⟨m1, hm⟩ := hm
  rw [m1] at h1
  obtain ⟨f2, fs, rfl⟩ : ∃ f r, fs = f :: r := by cases fs with | nil => cases hm | cons f r => exact ⟨f, r, rfl⟩
  obtain ⟨c2, d2, e2, h2, h⟩ := h.cons_inv
  simp only [List.map_cons, List.cons.injEq] at hm
  obtain ⟨m2, hm⟩ := hm
  rw [m2] at h2
  obtain rfl : fs = [] := by cases fs with | nil => rfl | cons f r => cases hm
  have h := h.nil_inv
  obtain ⟨y0, rfl, k0⟩ := rd3 h0
  obtain ⟨y1, rfl, k1⟩ := rd3 h1
  obtain ⟨y2, rfl, k2⟩ := rd4 h2
  subst h
  subst e2
  subst e1
  subst e0
  exact ⟨Sight.mk y0 y1 y2, rfl, ⟨k0, k1, k2⟩⟩
def Pure3 : Prop := ∀ (x0 : List Int) (x1 : Int) (x2 : List Shown), ok22 x0 → ok3 x1 → ok23 x2 → ∃ k : Nat, f3 k x0 x1 x2 = some true
theorem law3 (hp : Pure3) (H : Hp) (args : List Value) (_ : Try.prog.globals.size ≤ H.next) (h : RdArgs Try.prog H Try.f3.params.toList args) : SCall Try.prog 3 args H (fun e _ => e = .ret (.bool true)) := by
  replace h : RdArgs Try.prog H [22, 3, 23] args := h
  obtain ⟨v0, args0, ea0, h0, h⟩ := h.scal (by kernel_rfl)
  obtain ⟨x0, ⟨a0_0, c0_0, e0, g0_0⟩, k0⟩ := rd22 h0
  obtain rfl := (List.cons.inj e0).1
  obtain ⟨v1, args1, ea1, h1, h⟩ := h.scal (by kernel_rfl)
  obtain ⟨x1, e1, k1⟩ := rd3 h1
  obtain rfl := (List.cons.inj e1).1
  obtain ⟨v2, args2, ea2, h2, h⟩ := h.scal (by kernel_rfl)
  obtain ⟨x2, ⟨a2_0, c2_0, e2, g2_0⟩, k2⟩ := rd23 h2
  obtain rfl := (List.cons.inj e2).1
  obtain rfl := h.nil_inv
  subst ea2
  subst ea1
  subst ea0
  obtain ⟨k, hk⟩ := hp x0 x1 x2 k0 k1 k2
  exact (f3_ok g0_0 g2_0 hk).mono fun e H' ⟨v, h1, _, h2⟩ => by rw [h1, h2]
def Pure4 : Prop := ∀ (x0 : List Int) (x1 : Int) (x2 : Int) (x3 : Int), ok22 x0 → ok3 x1 → ok3 x2 → ok3 x3 → ∃ k : Nat, f4 k x0 x1 x2 x3 = some true
theorem law4 (hp : Pure4) (H : Hp) (args : List Value) (_ : Try.prog.globals.size ≤ H.next) (h : RdArgs Try.prog H Try.f4.params.toList args) : SCall Try.prog 4 args H (fun e _ => e = .ret (.bool true)) := by
  replace h : RdArgs Try.prog H [22, 3, 3, 3] args := h
  obtain ⟨v0, args0, ea0, h0, h⟩ := h.scal (by kernel_rfl)
  obtain ⟨x0, ⟨a0_0, c0_0, e0, g0_0⟩, k0⟩ := rd22 h0
  obtain rfl := (List.cons.inj e0).1
  obtain ⟨v1, args1, ea1, h1, h⟩ := h.scal (by kernel_rfl)
  obtain ⟨x1, e1, k1⟩ := rd3 h1
  obtain rfl := (List.cons.inj e1).1
  obtain ⟨v2, args2, ea2, h2, h⟩ := h.scal (by kernel_rfl)
  obtain ⟨x2, e2, k2⟩ := rd3 h2
  obtain rfl := (List.cons.inj e2).1
  obtain ⟨v3, args3, ea3, h3, h⟩ := h.scal (by kernel_rfl)
  obtain ⟨x3, e3, k3⟩ := rd3 h3
  obtain rfl := (List.cons.inj e3).1
  obtain rfl := h.nil_inv
  subst ea3
  subst ea2
  subst ea1
  subst ea0
  obtain ⟨k, hk⟩ := hp x0 x1 x2 x3 k0 k1 k2 k3
  exact (f4_ok g0_0 hk).mono fun e H' ⟨v, h1, _, h2⟩ => by rw [h1, h2]
def Pure5 : Prop := ∀ (x0 : List Int) (x1 : Int) (x2 : List Shown) (x3 : Sight) (x4 : Sight), ok22 x0 → ok3 x1 → ok23 x2 → ok32 x3 → ok32 x4 → ∃ k : Nat, f5 k x0 x1 x2 x3 x4 = some true
theorem law5 (hp : Pure5) (H : Hp) (args : List Value) (_ : Try.prog.globals.size ≤ H.next) (h : RdArgs Try.prog H Try.f5.params.toList args) : SCall Try.prog 5 args H (fun e _ => e = .ret (.bool true)) := by
  replace h : RdArgs Try.prog H [22, 3, 23, 32, 32] args := h
  obtain ⟨v0, args0, ea0, h0, h⟩ := h.scal (by kernel_rfl)
  obtain ⟨x0, ⟨a0_0, c0_0, e0, g0_0⟩, k0⟩ := rd22 h0
  obtain rfl := (List.cons.inj e0).1
  obtain ⟨v1, args1, ea1, h1, h⟩ := h.scal (by kernel_rfl)
  obtain ⟨x1, e1, k1⟩ := rd3 h1
  obtain rfl := (List.cons.inj e1).1
  obtain ⟨v2, args2, ea2, h2, h⟩ := h.scal (by kernel_rfl)
  obtain ⟨x2, ⟨a2_0, c2_0, e2, g2_0⟩, k2⟩ := rd23 h2
  obtain rfl := (List.cons.inj e2).1
  obtain ⟨v3, args3, ea3, h3, h⟩ := h.aggr (by kernel_rfl)
  obtain ⟨x3, e3, k3⟩ := rd32 h3
  subst e3
  obtain ⟨v4, args4, ea4, h4, h⟩ := h.aggr (by kernel_rfl)
  obtain ⟨x4, e4, k4⟩ := rd32 h4
  subst e4
  obtain rfl := h.nil_inv
  subst ea4
  subst ea3
  subst ea2
  subst ea1
  subst ea0
  obtain ⟨k, hk⟩ := hp x0 x1 x2 x3 x4 k0 k1 k2 k3 k4
  exact (f5_ok g0_0 g2_0 hk).mono fun e H' ⟨v, h1, _, h2⟩ => by rw [h1, h2]
def Pure6 : Prop := ∀ (x0 : List Int) (x1 : Int) (x2 : Int) (x3 : Int), ok22 x0 → ok3 x1 → ok3 x2 → ok3 x3 → ∃ k : Nat, f6 k x0 x1 x2 x3 = some true
theorem law6 (hp : Pure6) (H : Hp) (args : List Value) (_ : Try.prog.globals.size ≤ H.next) (h : RdArgs Try.prog H Try.f6.params.toList args) : SCall Try.prog 6 args H (fun e _ => e = .ret (.bool true)) := by
  replace h : RdArgs Try.prog H [22, 3, 3, 3] args := h
  obtain ⟨v0, args0, ea0, h0, h⟩ := h.scal (by kernel_rfl)
  obtain ⟨x0, ⟨a0_0, c0_0, e0, g0_0⟩, k0⟩ := rd22 h0
  obtain rfl := (List.cons.inj e0).1
  obtain ⟨v1, args1, ea1, h1, h⟩ := h.scal (by kernel_rfl)
  obtain ⟨x1, e1, k1⟩ := rd3 h1
  obtain rfl := (List.cons.inj e1).1
  obtain ⟨v2, args2, ea2, h2, h⟩ := h.scal (by kernel_rfl)
  obtain ⟨x2, e2, k2⟩ := rd3 h2
  obtain rfl := (List.cons.inj e2).1
  obtain ⟨v3, args3, ea3, h3, h⟩ := h.scal (by kernel_rfl)
  obtain ⟨x3, e3, k3⟩ := rd3 h3
  obtain rfl := (List.cons.inj e3).1
  obtain rfl := h.nil_inv
  subst ea3
  subst ea2
  subst ea1
  subst ea0
  obtain ⟨k, hk⟩ := hp x0 x1 x2 x3 k0 k1 k2 k3
  exact (f6_ok g0_0 hk).mono fun e H' ⟨v, h1, _, h2⟩ => by rw [h1, h2]
end Go.Proofs.Ytenddpplfdgcfaa

set_option linter.unusedVariables false
set_option linter.unusedSimpArgs false
namespace Go.Proofs.Ytenddpplfdgcfaa
open Go Go.Det Go.RowKit

theorem rd_at {α : Type} {l : List α} {i : Nat} (h : i < l.length) : rd l (i : Int) = some l[i] := by rw [rd_nat, List.getElem?_eq_getElem h]
theorem wrapS {i : Nat} (h : i < 1000000) : IntKind.i64.wrap ((i : Int) + 1) = ((i + 1 : Nat) : Int) := wrap_succ (by omega)

/-! Check of gaps -/
theorem f27_l1_eq (l : List Int) (hl : l.length < 100) : ∀ (d i k : Nat), l.length - i = d → i ≤ l.length → d < k →
    f27_l1 l k (i : Int) = some (if findS badGap (l.drop i) i ≥ 0 then .inl (2, findS badGap (l.drop i) i) else .inr ()) := by
  intro d
  induction d with
  | zero =>
    intro i k hd hi hk
    obtain ⟨k, rfl⟩ : ∃ m, k = m + 1 := ⟨k - 1, by omega⟩
    rw [f27_l1, if_neg (by omega), List.drop_eq_nil_iff.2 (by omega)]
    rw [if_neg (show ¬ findS badGap [] i ≥ 0 by simp [findS])]
  | succ d ih =>
    intro i k hd hi hk
    obtain ⟨k, rfl⟩ : ∃ m, k = m + 1 := ⟨k - 1, by omega⟩
    have hlt : i < l.length := by omega
    have hx : l[i]? = some l[i] := List.getElem?_eq_getElem hlt
    have hs := findS_step (p := badGap) hx
    rw [f27_l1, if_pos (by omega), rd_at hlt]
    simp only [Option.bind_some]
    rw [hs]
    by_cases h1 : l[i] < 1
    · have hb : badGap l[i] = true := by simp [badGap, h1]
      rw [if_pos h1, hb]
      simp
    · by_cases h2 : l[i] > 1000
      · have hb : badGap l[i] = true := by simp [badGap, h2]
        rw [if_neg h1, if_pos h2, hb]
        simp
      · have hb : badGap l[i] = false := by simp [badGap, h1, h2]
        rw [if_neg h1, if_neg h2, hb, wrapS (by omega), ih (i + 1) k (by omega) (by omega) (by omega)]
        simp
theorem f27_eq (l : List Int) {k : Nat} (hk : 100 < k) : f27 k l = some (checkS l) := by
  unfold f27 checkS
  by_cases h1 : (l.length : Int) < 1
  · rw [if_pos h1, if_pos (.inl h1)]
  · by_cases h2 : (l.length : Int) > 63
    · rw [if_neg h1, if_pos h2, if_pos (.inr (by omega))]
    · rw [if_neg h1, if_neg h2, if_neg (by omega), show f27_l1 l k 0 = _ from f27_l1_eq l (by omega) l.length 0 k rfl (Nat.zero_le _) (by omega)]
      simp only [Option.bind_some, List.drop_zero]
      by_cases h3 : findS badGap l 0 ≥ 0
      · rw [if_pos h3, if_pos h3]
      · rw [if_neg h3, if_neg h3]

/-! Positions -/
theorem psums_snoc : ∀ (a : Int) (l : List Int) (i : Nat) (g x : Int), l[i]? = some g → (psums a l)[i]? = some x → (psums a l).take (i + 2) = (psums a l).take (i + 1) ++ [x + g] := by
  intro a l i g x hg hx
  have := psums_next a l i x g hx hg
  rw [List.take_add_one (i := i + 1), this]; rfl
theorem f39_l1_eq (l : List Int) (hl : l.length < 64) (hg : ∀ g ∈ l, 1 ≤ g ∧ g ≤ 1000) : ∀ (d i k : Nat), l.length - i = d → i ≤ l.length → d < k →
    f39_l1 l k ((psums 0 l).take (i + 1)) (i : Int) = some (psums 0 l) := by
  intro d
  induction d with
  | zero =>
    intro i k hd hi hk
    obtain ⟨k, rfl⟩ : ∃ m, k = m + 1 := ⟨k - 1, by omega⟩
    rw [f39_l1, if_neg (by omega), List.take_of_length_le (by rw [psums_length]; omega)]
  | succ d ih =>
    intro i k hd hi hk
    obtain ⟨k, rfl⟩ : ∃ m, k = m + 1 := ⟨k - 1, by omega⟩
    have hlt : i < l.length := by omega
    have hx : l[i]? = some l[i] := List.getElem?_eq_getElem hlt
    have hp := pj_some (l := l) (j := i) (by omega)
    obtain ⟨w1, w2⟩ := pj_step hx hg hl
    rw [f39_l1, if_pos (by omega)]
    have e1 : rd ((psums 0 l).take (i + 1)) (i : Int) = some ((psums 0 l).getD i 0) := by
      rw [rd_nat, List.getElem?_take_of_lt (by omega), hp]
    rw [e1, Option.bind_some, rd_at hlt, Option.bind_some, w1]
    have e2 : (psums 0 l).take (i + 1) ++ [(psums 0 l).getD (i + 1) 0] = (psums 0 l).take (i + 2) := by
      rw [List.take_add_one (i := i + 1), w2]; rfl
    unfold apd
    rw [if_pos (by simp only [List.length_take, List.length_cons, List.length_nil]; omega), Option.bind_some, e2, wrapS (by omega)]
    exact ih (i + 1) k (by omega) (by omega) (by omega)
theorem f39_eq (l : List Int) (hl : l.length < 64) (hg : ∀ g ∈ l, 1 ≤ g ∧ g ≤ 1000) {k : Nat} (hk : 100 < k) : f39 k l = some (psums 0 l) := by
  unfold f39
  have := f39_l1_eq l hl hg l.length 0 k rfl (Nat.zero_le _) (by omega)
  rw [show (psums 0 l).take (0 + 1) = [0] by cases l <;> rfl] at this
  rw [show ((0 : Nat) : Int) = 0 from rfl] at this
  rw [this]; rfl

theorem f30_eq (l : List Int) {k : Nat} (hk : 100 < k) : f30 k l = some (heightS l) := by
  unfold f30 heightS
  rw [f27_eq l hk]
  simp only [Option.bind_some]
  by_cases h : (checkS l).1 = 0
  · obtain ⟨g1, g2, g3⟩ := checkS_ok h
    rw [if_pos h, if_pos h, f39_eq l (by omega) g3 hk]
    simp only [Option.bind_some]
    rw [rd_nat, pj_some (Nat.le_refl _)]; rfl
  · rw [if_neg h, if_neg h]
theorem f15_eq (l : List Int) (x : Shown) {k : Nat} (hk : 100 < k) : f15 k l x = some (carS l x) := by
  unfold f15 carS
  rw [f30_eq l hk]
  simp only [Option.bind_some]
  by_cases h : (heightS l).2 = 0
  · rw [if_pos h, if_neg (show ¬ ((heightS l).2 ≠ 0) from fun q => q h)]
    repeat' split
    all_goals first | rfl | omega
  · rw [if_neg h, if_pos h]
theorem f50_eq (l : List Int) (pos : Int) {k : Nat} (hk : 100 < k) : f50 k l pos 0 0 = some (placedS l pos) := by
  unfold f50 placedS
  rw [f30_eq l hk]
  simp only [Option.bind_some, heightS]
  by_cases h : (checkS l).1 = 0
  · rw [if_pos h, if_pos h]
    simp only [if_true]
    have : ¬ ((0 : Int) > (l.length : Int)) := by omega
    by_cases h1 : pos < 0
    · rw [if_pos h1, if_pos (.inl h1)]; rfl
    · by_cases h2 : pos > (psums 0 l).getD l.length 0
      · rw [if_neg h1, if_pos h2, if_pos (.inr h2)]; rfl
      · rw [if_neg h1, if_neg h2, if_neg (show ¬ (pos < 0 ∨ pos > (psums 0 l).getD l.length 0) from fun q => q.elim h1 h2), if_neg (show ¬ ((0 : Int) < 0) by omega), if_neg this]; rfl
  · rw [if_neg h, if_neg h]
    simp only [if_neg h, Option.bind_some]

/-! The nearest floor -/
def dist (a b : Int) : Int := if a ≤ b then b - a else a - b
theorem f51_eq {a b : Int} (ha : 0 ≤ a ∧ a < 1000000) (hb : 0 ≤ b ∧ b < 1000000) : f51 a b = some (dist a b) := by
  unfold f51 dist
  rw [gmax_eq, gmin_eq, wrap_i64 (by omega) (by omega)]
  congr 1
  split <;> omega
/-- The first of the places that are nearest. -/
structure First (l : List Int) (pos : Int) (n b : Nat) : Prop where
  lt : b < n
  lo : ∀ i, i < b → dist (l.getD b 0) pos < dist (l.getD i 0) pos
  hi : ∀ i, i < n → dist (l.getD b 0) pos ≤ dist (l.getD i 0) pos
theorem First.only {l : List Int} {pos : Int} {n a b : Nat} (h : First l pos n a) (k : First l pos n b) : a = b := by
  rcases Nat.lt_trichotomy a b with q | q | q
  · have := k.lo a q; have := h.hi b k.lt; omega
  · exact q
  · have := h.lo b q; have := k.hi a h.lt; omega
theorem getD_at {l : List Int} {i : Nat} (h : i < l.length) : l.getD i 0 = l[i] := by simp [List.getD_eq_getElem?_getD, List.getElem?_eq_getElem h]
theorem f37_l1_eq (l : List Int) (pos : Int) (hl : l.length < 100) (hb : ∀ x ∈ l, 0 ≤ x ∧ x < 1000000) (hp : 0 ≤ pos ∧ pos < 1000000) : ∀ (d i k b : Nat), l.length - i = d → i ≤ l.length → d < k → First l pos i b →
    ∃ b' : Nat, f37_l1 pos l k (b : Int) (i : Int) = some (b' : Int) ∧ First l pos l.length b' := by
  intro d
  induction d with
  | zero =>
    intro i k b hd hi hk hf
    obtain ⟨k, rfl⟩ : ∃ m, k = m + 1 := ⟨k - 1, by omega⟩
    obtain rfl : i = l.length := by omega
    exact ⟨b, by rw [f37_l1, if_neg (by omega)], hf⟩
  | succ d ih =>
    intro i k b hd hi hk hf
    obtain ⟨k, rfl⟩ : ∃ m, k = m + 1 := ⟨k - 1, by omega⟩
    have hlt : i < l.length := by omega
    have hbl : b < l.length := by have := hf.lt; omega
    rw [f37_l1, if_pos (by omega), rd_at hlt]
    simp only [Option.bind_some]
    rw [f51_eq (hb _ (List.getElem_mem _)) hp]
    simp only [Option.bind_some]
    rw [rd_at hbl]
    simp only [Option.bind_some]
    rw [f51_eq (hb _ (List.getElem_mem _)) hp]
    simp only [Option.bind_some]
    rw [← getD_at hlt, ← getD_at hbl, wrapS (by omega)]
    by_cases h : dist (l.getD i 0) pos < dist (l.getD b 0) pos
    · rw [if_pos h]
      simp only [Option.bind_some]
      refine ih (i + 1) k i (by omega) (by omega) (by omega) ⟨by omega, fun j hj => ?_, fun j hj => ?_⟩
      · have := hf.hi j (by omega); omega
      · rcases Nat.lt_or_ge j i with q | q
        · have := hf.hi j q; omega
        · obtain rfl : j = i := by omega
          exact Int.le_refl _
    · rw [if_neg h]
      simp only [Option.bind_some]
      refine ih (i + 1) k b (by omega) (by omega) (by omega) ⟨by have := hf.lt; omega, hf.lo, fun j hj => ?_⟩
      rcases Nat.lt_or_ge j i with q | q
      · exact hf.hi j q
      · obtain rfl : j = i := by omega
        omega
/-- Rising without a pause. -/
def Rise (l : List Int) : Prop := ∀ i j, i < j → j < l.length → l.getD i 0 < l.getD j 0
theorem near_first {l : List Int} {pos : Int} {m : Nat} (hr : Rise l) (h : Low l pos m) (hm : m < l.length) : ∃ b : Nat, nearS l pos m = (b : Int) ∧ First l pos l.length b := by
  have hlo : ∀ k, k < m → l.getD k 0 < pos := fun k hk => by
    have hk' : k < l.length := by omega
    rw [getD_at hk']; exact h.lo k _ (List.getElem?_eq_getElem hk') hk
  have hhi : ∀ k, m ≤ k → k < l.length → pos ≤ l.getD k 0 := fun k hk hk' => by
    rw [getD_at hk']; exact h.hi k _ (List.getElem?_eq_getElem hk') hk
  have hup : ∀ i j, i ≤ j → j < l.length → l.getD i 0 ≤ l.getD j 0 := fun i j h1 h2 => by
    rcases Nat.lt_or_ge i j with q | q
    · have := hr i j q h2; omega
    · obtain rfl : i = j := by omega
      exact Int.le_refl _
  have hmm := hhi m (Nat.le_refl _) hm
  have e1 : (l[m]? = some pos) ↔ l.getD m 0 = pos := by rw [List.getElem?_eq_getElem hm, getD_at hm]; simp
  unfold nearS
  by_cases h0 : l[m]? = some pos ∨ m = 0
  · rw [if_pos h0]
    refine ⟨m, rfl, hm, fun i hi => ?_, fun i hi => ?_⟩
    · have := hlo i hi
      rcases h0 with q | q
      · rw [e1] at q; unfold dist; split <;> split <;> omega
      · omega
    · rcases h0 with q | q
      · rw [e1] at q; unfold dist; split <;> split <;> omega
      · subst q
        have := hup 0 i (Nat.zero_le _) hi
        unfold dist; split <;> split <;> omega
  · rw [if_neg h0]
    have hm0 : 0 < m := by
      rcases Nat.eq_zero_or_pos m with q | q
      · exact absurd (.inr q) h0
      · exact q
    have a1 := hlo (m - 1) (by omega)
    have hne : l.getD m 0 ≠ pos := fun q => h0 (.inl (e1.2 q))
    by_cases hc : pos - l.getD (m - 1) 0 ≤ l.getD m 0 - pos
    · rw [if_pos hc]
      refine ⟨m - 1, by omega, by omega, fun i hi => ?_, fun i hi => ?_⟩
      · have := hr i (m - 1) hi (by omega)
        unfold dist; split <;> split <;> omega
      · rcases Nat.lt_or_ge i m with q | q
        · have := hup i (m - 1) (by omega) (by omega)
          unfold dist; split <;> split <;> omega
        · have := hup m i q hi
          unfold dist; split <;> split <;> omega
    · rw [if_neg hc]
      refine ⟨m, rfl, hm, fun i hi => ?_, fun i hi => ?_⟩
      · have := hup i (m - 1) (by omega) (by omega)
        unfold dist; split <;> split <;> omega
      · rcases Nat.lt_or_ge i m with q | q
        · have := hup i (m - 1) (by omega) (by omega)
          unfold dist; split <;> split <;> omega
        · have := hup m i q hi
          unfold dist; split <;> split <;> omega
theorem psums_rise (l : List Int) (hg : ∀ g ∈ l, 1 ≤ g ∧ g ≤ 1000) : Rise (psums 0 l) := by
  have step : ∀ i, i + 1 < (psums 0 l).length → (psums 0 l).getD i 0 < (psums 0 l).getD (i + 1) 0 := by
    intro i hi
    rw [psums_length] at hi
    have hx : l[i]? = some l[i] := List.getElem?_eq_getElem (by omega)
    have := psums_next 0 l i _ _ (pj_some (l := l) (j := i) (by omega)) hx
    rw [pj_some (l := l) (j := i + 1) (by omega)] at this
    have e := Option.some.inj this
    have := hg l[i] (List.getElem_mem _)
    omega
  intro i j hij hj
  induction j with
  | zero => omega
  | succ j ih =>
    have := step j hj
    rcases Nat.lt_or_ge i j with q | q
    · have := ih q (by omega); omega
    · obtain rfl : i = j := by omega
      exact this
theorem placed_spec {l : List Int} {pos : Int} (h : placedS l pos = 0) : (checkS l).1 = 0 ∧ 0 ≤ pos ∧ pos ≤ (psums 0 l).getD l.length 0 := by
  unfold placedS at h
  split at h
  · rename_i hc
    split at h
    · cases h
    · exact ⟨hc, by omega, by omega⟩
  · exact absurd h (by assumption)
theorem low_exists (l : List Int) (hr : Rise l) (pos : Int) : ∃ m, Low l pos m := by
  have : ∀ n, n ≤ l.length → ∃ m, m ≤ n ∧ (∀ k, k < m → l.getD k 0 < pos) ∧ (∀ k, m ≤ k → k < n → pos ≤ l.getD k 0) := by
    intro n
    induction n with
    | zero => intro _; exact ⟨0, Nat.le_refl _, fun k h => by omega, fun k _ h => by omega⟩
    | succ n ih =>
      intro hn
      obtain ⟨m, h1, h2, h3⟩ := ih (by omega)
      by_cases hq : l.getD n 0 < pos
      · refine ⟨n + 1, Nat.le_refl _, fun k hk => ?_, fun k _ h => by omega⟩
        rcases Nat.lt_or_ge k n with q | q
        · have := hr k n q (by omega); omega
        · obtain rfl : k = n := by omega
          exact hq
      · refine ⟨m, by omega, h2, fun k hk hk' => ?_⟩
        rcases Nat.lt_or_ge k n with q | q
        · exact h3 k hk q
        · obtain rfl : k = n := by omega
          omega
  obtain ⟨m, h1, h2, h3⟩ := this l.length (Nat.le_refl _)
  refine ⟨m, h1, fun k x hx hk => ?_, fun k x hx hk => ?_⟩
  · obtain ⟨q, rfl⟩ := List.getElem?_eq_some_iff.1 hx
    have := h2 k hk; rw [getD_at q] at this; exact this
  · obtain ⟨q, rfl⟩ := List.getElem?_eq_some_iff.1 hx
    have := h3 k hk q; rw [getD_at q] at this; exact this
theorem floorS_first {l : List Int} {pos : Int} (h : placedS l pos = 0) : ∃ b : Nat, floorS l pos = (b : Int) ∧ First (psums 0 l) pos (l.length + 1) b := by
  obtain ⟨hc, h0, h1⟩ := placed_spec h
  obtain ⟨g1, g2, g3⟩ := checkS_ok hc
  have hr := psums_rise l g3
  obtain ⟨m, low⟩ := low_exists _ hr pos
  have hm : m < (psums 0 l).length := by
    rcases Nat.lt_or_ge m (psums 0 l).length with q | q
    · exact q
    · have := low.lo l.length _ (pj_some (Nat.le_refl _)) (by rw [psums_length] at q; omega)
      omega
  obtain ⟨b, e, hf⟩ := near_first hr low hm
  rw [psums_length] at hf
  refine ⟨b, ?_, hf⟩
  rw [floorS_is h ⟨m, low, rfl⟩, e]
theorem f37_eq (l : List Int) (pos : Int) {k : Nat} (hk : 100 < k) : f37 k l pos = some (floorS l pos, placedS l pos) := by
  unfold f37
  rw [f50_eq l pos hk]
  simp only [Option.bind_some]
  by_cases h : placedS l pos = 0
  · obtain ⟨b, hb, hf⟩ := floorS_first h
    obtain ⟨hc, h0, h1⟩ := placed_spec h
    obtain ⟨g1, g2, g3⟩ := checkS_ok hc
    rw [if_pos h, f39_eq l (by omega) g3 hk]
    simp only [Option.bind_some]
    have bnd : ∀ x ∈ psums 0 l, 0 ≤ x ∧ x < 1000000 := by
      intro x hx
      obtain ⟨i, hi⟩ := List.getElem?_of_mem hx
      have h1 := psums_bound 0 l i x g3 hi
      have h2 := (List.getElem?_eq_some_iff.1 hi).1
      rw [psums_length] at h2
      omega
    have hlast := bnd _ (List.mem_of_getElem? (pj_some (l := l) (Nat.le_refl _)))
    have hfirst : First (psums 0 l) pos 1 0 := ⟨by omega, fun i hi => by omega, fun i hi => by
      obtain rfl : i = 0 := by omega
      exact Int.le_refl _⟩
    obtain ⟨b', e, hf'⟩ := f37_l1_eq (psums 0 l) pos (by rw [psums_length]; omega) bnd ⟨h0, by omega⟩ _ 1 k 0 rfl (by rw [psums_length]; omega) (by rw [psums_length]; omega) hfirst
    rw [psums_length] at hf'
    obtain rfl := hf'.only hf
    rw [show f37_l1 pos (psums 0 l) k 0 1 = _ from e, hb, h]; rfl
  · rw [if_neg h]
    unfold floorS
    rw [if_neg h]
theorem f28_eq (l : List Int) (d : Int) (x : Shown) {k : Nat} (hk : 100 < k) : f28 k l d x = some (showS l d x) := by
  unfold f28 showS
  by_cases h : x.d = d
  · rw [if_pos h, if_neg (show ¬ (x.d ≠ d) from fun q => q h)]
    cases hs : x.sv
    · simp
    · cases hf : x.fa
      · cases ho : x.ho
        · rw [f37_eq l x.at_ hk]; simp
        · simp
      · simp
  · rw [if_neg h, if_pos h]
end Go.Proofs.Ytenddpplfdgcfaa

set_option linter.unusedVariables false
set_option linter.unusedSimpArgs false
namespace Go.Proofs.Ytenddpplfdgcfaa
open Go Go.Det Go.RowKit

/-! All -/
noncomputable def allS (l : List Int) (d : Int) (xs : List Shown) : List Sight × Int :=
  if (checkS l).1 = 0 then
    match xs.find? (fun x => decide (carS l x ≠ 0)) with
    | some x => ([], carS l x)
    | none => if d < 1 then ([], 2) else if d > 3 then ([], 2) else (xs.map (showS l d), 0)
  else ([], (checkS l).1)
theorem f9_l1_eq (l : List Int) (xs : List Shown) (hl : xs.length < 100) : ∀ (d i k : Nat), xs.length - i = d → i ≤ xs.length → d < k →
    f9_l1 l xs k (i : Int) = some (match (xs.drop i).find? (fun x => decide (carS l x ≠ 0)) with | some x => .inr ([], carS l x) | none => .inl ()) := by
  intro d
  induction d with
  | zero =>
    intro i k hd hi hk
    obtain ⟨k, rfl⟩ : ∃ m, k = m + 1 := ⟨k - 1, by omega⟩
    have : ¬ ((i : Int) < (xs.length : Int)) := by omega
    rw [f9_l1, List.drop_eq_nil_iff.2 (by omega)]
    simp only [decide_eq_false this, Option.bind_some]; rfl
  | succ d ih =>
    intro i k hd hi hk
    obtain ⟨k, rfl⟩ : ∃ m, k = m + 1 := ⟨k - 1, by omega⟩
    have hlt : i < xs.length := by omega
    have : (i : Int) < (xs.length : Int) := by omega
    rw [f9_l1, List.drop_eq_getElem_cons hlt]
    simp only [decide_eq_true this, Option.bind_some, if_true]
    rw [rd_at hlt]
    simp only [Option.bind_some, f14]
    by_cases h : carS l xs[i] = 0
    · rw [if_pos h, wrapS (by omega), ih (i + 1) k (by omega) (by omega) (by omega), List.find?_cons_of_neg (by simpa using h)]
    · rw [if_neg h, List.find?_cons_of_pos (by simpa using h)]
theorem f10_l1_eq (l : List Int) (xs : List Shown) (hl : xs.length < 100) {kk : Nat} (hkk : 100 < kk) : ∀ (d i k : Nat), xs.length - i = d → i ≤ xs.length → d < k →
    f10_l1 kk l xs k (i : Int) = some (match (xs.drop i).find? (fun x => decide (carS l x ≠ 0)) with | some x => .inl ([], carS l x) | none => .inr ()) := by
  intro d
  induction d with
  | zero =>
    intro i k hd hi hk
    obtain ⟨k, rfl⟩ : ∃ m, k = m + 1 := ⟨k - 1, by omega⟩
    have : ¬ ((i : Int) < (xs.length : Int)) := by omega
    rw [f10_l1, List.drop_eq_nil_iff.2 (by omega), if_neg this]; rfl
  | succ d ih =>
    intro i k hd hi hk
    obtain ⟨k, rfl⟩ : ∃ m, k = m + 1 := ⟨k - 1, by omega⟩
    have hlt : i < xs.length := by omega
    have : (i : Int) < (xs.length : Int) := by omega
    rw [f10_l1, List.drop_eq_getElem_cons hlt, if_pos this, rd_at hlt]
    simp only [Option.bind_some]
    rw [f15_eq l _ hkk]
    simp only [Option.bind_some]
    by_cases h : carS l xs[i] = 0
    · rw [if_pos h, wrapS (by omega), ih (i + 1) k (by omega) (by omega) (by omega), List.find?_cons_of_neg (by simpa using h)]
    · rw [if_neg h, List.find?_cons_of_pos (by simpa using h)]
theorem f9_l2_eq (l : List Int) (d : Int) (xs : List Shown) (hl : xs.length < 100) : ∀ (n i k : Nat) (acc : List Sight), xs.length - i = n → i ≤ xs.length → n < k → acc.length = i →
    f9_l2 l d xs k acc (i : Int) = some (acc ++ (xs.drop i).map (showS l d)) := by
  intro n
  induction n with
  | zero =>
    intro i k acc hd hi hk ha
    obtain ⟨k, rfl⟩ : ∃ m, k = m + 1 := ⟨k - 1, by omega⟩
    have : ¬ ((i : Int) < (xs.length : Int)) := by omega
    rw [f9_l2, List.drop_eq_nil_iff.2 (by omega)]
    simp only [decide_eq_false this, Option.bind_some, List.map_nil, List.append_nil]; rfl
  | succ n ih =>
    intro i k acc hd hi hk ha
    obtain ⟨k, rfl⟩ : ∃ m, k = m + 1 := ⟨k - 1, by omega⟩
    have hlt : i < xs.length := by omega
    have : (i : Int) < (xs.length : Int) := by omega
    rw [f9_l2, List.drop_eq_getElem_cons hlt]
    simp only [decide_eq_true this, Option.bind_some, if_true]
    rw [rd_at hlt]
    simp only [Option.bind_some, f26]
    unfold apd
    rw [if_pos (by simp only [List.length_cons, List.length_nil]; omega)]
    simp only [Option.bind_some]
    rw [wrapS (by omega), ih (i + 1) k _ (by omega) (by omega) (by omega) (by simp; omega)]
    rw [List.append_assoc]; rfl
theorem f10_l2_eq (l : List Int) (d : Int) (xs : List Shown) (hl : xs.length < 100) {kk : Nat} (hkk : 100 < kk) : ∀ (n i k : Nat) (acc : List Sight), xs.length - i = n → i ≤ xs.length → n < k → acc.length = i →
    f10_l2 kk l d xs k acc (i : Int) = some (acc ++ (xs.drop i).map (showS l d)) := by
  intro n
  induction n with
  | zero =>
    intro i k acc hd hi hk ha
    obtain ⟨k, rfl⟩ : ∃ m, k = m + 1 := ⟨k - 1, by omega⟩
    have : ¬ ((i : Int) < (xs.length : Int)) := by omega
    rw [f10_l2, List.drop_eq_nil_iff.2 (by omega), if_neg this]
    simp
  | succ n ih =>
    intro i k acc hd hi hk ha
    obtain ⟨k, rfl⟩ : ∃ m, k = m + 1 := ⟨k - 1, by omega⟩
    have hlt : i < xs.length := by omega
    have : (i : Int) < (xs.length : Int) := by omega
    rw [f10_l2, List.drop_eq_getElem_cons hlt, if_pos this, rd_at hlt]
    simp only [Option.bind_some]
    rw [f28_eq l d _ hkk]
    simp only [Option.bind_some]
    unfold apd
    rw [if_pos (by simp only [List.length_cons, List.length_nil]; omega)]
    simp only [Option.bind_some]
    rw [wrapS (by omega), ih (i + 1) k _ (by omega) (by omega) (by omega) (by simp; omega)]
    rw [List.append_assoc]; rfl
theorem f9_eq (l : List Int) (d : Int) (xs : List Shown) (hl : xs.length < 100) {k : Nat} (hk : 100 < k) : f9 k l d xs = some (allS l d xs) := by
  unfold f9 allS f25
  simp only [Option.bind_some]
  by_cases h : (checkS l).1 = 0
  · rw [if_pos h, if_pos h]
    rw [show f9_l1 l xs k 0 = _ from f9_l1_eq l xs hl _ 0 k rfl (Nat.zero_le _) (by omega)]
    simp only [Option.bind_some, List.drop_zero]
    cases hf : xs.find? (fun x => decide (carS l x ≠ 0)) with
    | some x => rfl
    | none =>
      simp only
      rw [show f9_l2 l d xs k [] 0 = _ from f9_l2_eq l d xs hl _ 0 k [] rfl (Nat.zero_le _) (by omega) rfl]
      simp only [Option.bind_some, List.drop_zero, List.nil_append]
      split
      · rfl
      · split <;> rfl
  · rw [if_neg h, if_neg h]
theorem f10_eq (l : List Int) (d : Int) (xs : List Shown) (hl : xs.length < 100) {k : Nat} (hk : 100 < k) : f10 k l d xs = some (allS l d xs) := by
  unfold f10 allS
  rw [f27_eq l hk]
  simp only [Option.bind_some]
  by_cases h : (checkS l).1 = 0
  · rw [if_pos h, if_pos h]
    rw [show f10_l1 k l xs k 0 = _ from f10_l1_eq l xs hl hk _ 0 k rfl (Nat.zero_le _) (by omega)]
    simp only [Option.bind_some, List.drop_zero]
    cases hf : xs.find? (fun x => decide (carS l x ≠ 0)) with
    | some x => rfl
    | none =>
      simp only
      rw [show f10_l2 k l d xs k [] 0 = _ from f10_l2_eq l d xs hl hk _ 0 k [] rfl (Nat.zero_le _) (by omega) rfl]
      simp only [Option.bind_some, List.drop_zero, List.nil_append]
      split
      · rfl
      · split <;> rfl
  · rw [if_neg h, if_neg h]
theorem allS_len {l : List Int} {d : Int} {xs : List Shown} (h : (allS l d xs).2 = 0) : (allS l d xs).1 = xs.map (showS l d) := by
  unfold allS at h ⊢
  split at h
  · rename_i hc
    rw [if_pos hc]
    split at h
    · rename_i x hf
      have := List.find?_some hf
      simp at this
      exact absurd h this
    · rename_i hf
      split at h
      · cases h
      · split at h
        · cases h
        · rename_i h1 h2; rw [if_neg h1, if_neg h2]
  · rename_i hc; exact absurd h hc

/-! Lists that are the same -/
theorem f11_l1_eq (a : List Sight) (ha : a.length < 100) : ∀ (d i k : Nat), a.length - i = d → i ≤ a.length → d < k → f11_l1 a a k (i : Int) = some (.inr ()) := by
  intro d
  induction d with
  | zero =>
    intro i k hd hi hk
    obtain ⟨k, rfl⟩ : ∃ m, k = m + 1 := ⟨k - 1, by omega⟩
    rw [f11_l1, if_neg (by omega)]
  | succ d ih =>
    intro i k hd hi hk
    obtain ⟨k, rfl⟩ : ∃ m, k = m + 1 := ⟨k - 1, by omega⟩
    have hlt : i < a.length := by omega
    rw [f11_l1, if_pos (by omega), rd_at hlt]
    simp only [Option.bind_some, if_true]
    rw [wrapS (by omega), ih (i + 1) k (by omega) (by omega) (by omega)]
theorem f11_eq (a : List Sight) (ha : a.length < 100) {k : Nat} (hk : 100 < k) : f11 k a a = some true := by
  unfold f11
  rw [if_pos rfl, show f11_l1 a a k 0 = _ from f11_l1_eq a ha _ 0 k rfl (Nat.zero_le _) (by omega)]; rfl
theorem f16_l1_eq (a : List Int) (ha : a.length < 100) : ∀ (d i k : Nat), a.length - i = d → i ≤ a.length → d < k → f16_l1 a a k (i : Int) = some (.inr ()) := by
  intro d
  induction d with
  | zero =>
    intro i k hd hi hk
    obtain ⟨k, rfl⟩ : ∃ m, k = m + 1 := ⟨k - 1, by omega⟩
    rw [f16_l1, if_neg (by omega)]
  | succ d ih =>
    intro i k hd hi hk
    obtain ⟨k, rfl⟩ : ∃ m, k = m + 1 := ⟨k - 1, by omega⟩
    have hlt : i < a.length := by omega
    rw [f16_l1, if_pos (by omega), rd_at hlt]
    simp only [Option.bind_some, if_true]
    rw [wrapS (by omega), ih (i + 1) k (by omega) (by omega) (by omega)]
theorem f16_eq (a : List Int) (ha : a.length < 100) {k : Nat} (hk : 100 < k) : f16 k a a = some true := by
  unfold f16
  rw [if_pos rfl, show f16_l1 a a k 0 = _ from f16_l1_eq a ha _ 0 k rfl (Nat.zero_le _) (by omega)]; rfl

/-! One car -/
noncomputable def oneS (l : List Int) (d : Int) (x : Shown) : Sight × Int :=
  if (allS l d [x]).2 = 0 then (showS l d x, 0) else (⟨0, 0, false⟩, (allS l d [x]).2)
theorem f12_eq (l : List Int) (d : Int) (x : Shown) {k : Nat} (hk : 100 < k) : f12 k l d x = some (oneS l d x) := by
  unfold f12 oneS
  rw [f9_eq l d _ (by simp) hk]
  simp only [Option.bind_some]
  by_cases h : (allS l d [x]).2 = 0
  · rw [if_pos h, if_pos h, allS_len h]; rfl
  · rw [if_neg h, if_neg h]
theorem f13_eq (l : List Int) (d : Int) (x : Shown) {k : Nat} (hk : 100 < k) : f13 k l d x = some (oneS l d x) := by
  unfold f13 oneS
  rw [f10_eq l d _ (by simp) hk]
  simp only [Option.bind_some]
  by_cases h : (allS l d [x]).2 = 0
  · rw [if_pos h, if_pos h, allS_len h]; rfl
  · rw [if_neg h, if_neg h]
noncomputable def sameS (l : List Int) (d : Int) (x y : Shown) : Bool × Int :=
  if (allS l d [x, y]).2 = 0 then (decide (showS l d x = showS l d y), 0) else (false, (allS l d [x, y]).2)
theorem f19_eq (l : List Int) (d : Int) (x y : Shown) {k : Nat} (hk : 100 < k) : f19 k l d x y = some (sameS l d x y) := by
  unfold f19 sameS
  rw [f9_eq l d _ (by simp) hk]
  simp only [Option.bind_some]
  by_cases h : (allS l d [x, y]).2 = 0
  · rw [if_pos h, if_pos h, allS_len h]; rfl
  · rw [if_neg h, if_neg h]
theorem f20_eq (l : List Int) (d : Int) (x y : Shown) {k : Nat} (hk : 100 < k) : f20 k l d x y = some (sameS l d x y) := by
  unfold f20 sameS
  rw [f10_eq l d _ (by simp) hk]
  simp only [Option.bind_some]
  by_cases h : (allS l d [x, y]).2 = 0
  · rw [if_pos h, if_pos h, allS_len h]; rfl
  · rw [if_neg h, if_neg h]
theorem f8_eq (l : List Int) (hl : l.length < 100) : f8 l = some l := by
  unfold f8 apd
  rw [if_pos (by simp; omega)]; rfl

theorem allS_le (l : List Int) (d : Int) (xs : List Shown) : (allS l d xs).1.length ≤ xs.length := by
  unfold allS
  split
  · split
    · simp
    · split
      · simp
      · split <;> simp
  · simp
theorem pure3 : Pure3 := by
  intro x0 x1 x2 k0 k1 k2
  refine ⟨200, ?_⟩
  unfold f3
  by_cases h1 : (x0.length : Int) > 70
  · rw [if_pos h1]; rfl
  rw [if_neg h1]
  by_cases h2 : (x2.length : Int) > 10
  · rw [if_pos h2]; rfl
  rw [if_neg h2, f8_eq x0 (by omega)]
  simp only [Option.bind_some]
  have hap : apd 32 ([] : List Shown) x2 = some x2 := by unfold apd; rw [if_pos (by simp; omega)]; rfl
  rw [hap]
  simp only [Option.bind_some]
  rw [f9_eq x0 x1 x2 (by omega) (by omega), f10_eq x0 x1 x2 (by omega) (by omega)]
  simp only [Option.bind_some]
  have hle := allS_le x0 x1 x2
  rw [f11_eq _ (by omega) (by omega)]
  simp only [Option.bind_some, if_true]
  have fin : (match (Sum.inr () : Bool ⊕ Unit) with
      | .inl st => some st
      | .inr _ => (f16 200 x0 x0).bind fun t96 => if t96 = true then (f7).bind fun t98 => some t98 else some false) = some true := by
    simp only
    rw [f16_eq x0 (by omega) (by omega)]; rfl
  by_cases h3 : (x2.length : Int) > 0
  · rw [if_pos h3]
    obtain ⟨y, hy⟩ : ∃ y, rd x2 0 = some y := ⟨x2[0]'(by omega), rd_at (i := 0) (by omega)⟩
    simp only [hy, Option.bind_some]
    rw [f12_eq x0 x1 y (by omega), f13_eq x0 x1 y (by omega)]
    simp only [Option.bind_some, f14]
    rw [f15_eq x0 y (by omega)]
    simp only [Option.bind_some, if_true]
    exact fin
  · rw [if_neg h3]
    exact fin
theorem pure5_dif (a b : Sight) : f22 a b = some (difS a b) := by
  unfold f22 difS difL apd
  obtain ⟨f0, p0, o0⟩ := a
  obtain ⟨f1, p1, o1⟩ := b
  by_cases h1 : f0 = f1 <;> by_cases h2 : p0 = p1 <;> cases o0 <;> cases o1 <;> simp [h1, h2]
theorem difS_len (a b : Sight) : (difS a b).length < 100 := by
  unfold difS
  have l1 := difL_len [] 1 (decide (a.floor = b.floor))
  have l2 := difL_len (difL [] 1 (decide (a.floor = b.floor))) 2 (decide (a.panel = b.panel))
  have l3 := difL_len (difL (difL [] 1 (decide (a.floor = b.floor))) 2 (decide (a.panel = b.panel))) 3 (a.out == b.out)
  simp only [List.length_nil] at l1
  omega
theorem pure5 : Pure5 := by
  intro x0 x1 x2 x3 x4 k0 k1 k2 k3 k4
  refine ⟨200, ?_⟩
  unfold f5
  by_cases h1 : (x0.length : Int) > 70
  · rw [if_pos h1]; rfl
  rw [if_neg h1]
  by_cases h2 : (x2.length : Int) = 2
  · rw [if_pos h2]
    obtain ⟨y, hy⟩ : ∃ y, rd x2 0 = some y := ⟨x2[0]'(by omega), rd_at (i := 0) (by omega)⟩
    obtain ⟨z, hz⟩ : ∃ z, rd x2 1 = some z := ⟨x2[1]'(by omega), rd_at (i := 1) (by omega)⟩
    simp only [hy, hz, Option.bind_some]
    rw [f19_eq x0 x1 y z (by omega), f20_eq x0 x1 y z (by omega)]
    simp only [Option.bind_some, beq_self_eq_true, if_true]
    rw [pure5_dif]
    simp only [Option.bind_some, f21]
    rw [f16_eq _ (difS_len x3 x4) (by omega)]; rfl
  · rw [if_neg h2]; rfl
end Go.Proofs.Ytenddpplfdgcfaa

set_option linter.unusedVariables false
set_option linter.unusedSimpArgs false
namespace Go.Proofs.Ytenddpplfdgcfaa
open Go Go.Det Go.RowKit

theorem f18_eq (a m : Int) (h1 : 1 ≤ m) (h2 : m ≤ 1099511627776) : ∃ r, f18 a m = some r ∧ 0 ≤ r ∧ r < m := by
  have b1 := Int.tmod_lt_of_pos a (show 0 < m by omega)
  have b2 := Int.lt_tmod_of_pos a (show 0 < m by omega)
  unfold f18
  rw [if_neg (by omega), if_pos (by omega)]
  by_cases h : a.tmod m < 0
  · rw [if_pos h]
    refine ⟨a.tmod m + m, ?_, by omega, by omega⟩
    rw [wrap_i64 (by omega) (by omega)]; rfl
  · rw [if_neg h]
    exact ⟨a.tmod m, rfl, by omega, by omega⟩
theorem psums_last : ∀ (l : List Int) (a g : Int), (psums a (l ++ [g])).getD (l.length + 1) 0 = (psums a l).getD l.length 0 + g
  | [], a, g => by simp [psums]
  | x :: l, a, g => by
    have := psums_last l (a + x) g
    simp only [List.cons_append, psums, List.length_cons, List.getD_cons_succ]
    exact this
structure Made (l : List Int) (h : Int) (n : Nat) : Prop where
  gap : ∀ g ∈ l, 1 ≤ g ∧ g ≤ 12
  len : l.length = n + 1
  sum : h = (psums 0 l).getD l.length 0
  low : 0 ≤ h ∧ h ≤ 12 * (n + 1)
theorem f17_l1_eq (x0 : List Int) : ∀ (d i k : Nat) (l : List Int) (h : Int), 8 - i = d → i ≤ 8 → d < k → Made l h i → (i ≤ x0.length) →
    ∃ l' h' n, f17_l1 x0 k l h (i : Int) = some (l', h') ∧ n ≤ 8 ∧ Made l' h' n := by
  intro d
  induction d with
  | zero =>
    intro i k l h hd hi hk hm hx
    obtain ⟨k, rfl⟩ : ∃ m, k = m + 1 := ⟨k - 1, by omega⟩
    obtain rfl : i = 8 := by omega
    rw [f17_l1]
    by_cases q : ((8 : Nat) : Int) < (x0.length : Int)
    · rw [if_pos q, if_neg (by omega)]
      exact ⟨l, h, 8, rfl, Nat.le_refl _, hm⟩
    · rw [if_neg q]
      exact ⟨l, h, 8, rfl, Nat.le_refl _, hm⟩
  | succ d ih =>
    intro i k l h hd hi hk hm hx
    obtain ⟨k, rfl⟩ : ∃ m, k = m + 1 := ⟨k - 1, by omega⟩
    rw [f17_l1]
    by_cases q : (i : Int) < (x0.length : Int)
    · have hlt : i < x0.length := by omega
      rw [if_pos q, if_pos (by omega), rd_at hlt]
      simp only [Option.bind_some]
      obtain ⟨r, hr, r1, r2⟩ := f18_eq x0[i] 12 (by omega) (by omega)
      rw [hr]
      simp only [Option.bind_some]
      rw [wrap_i64 (x := 1 + r) (by omega) (by omega)]
      have hml := hm.len
      unfold apd
      rw [if_pos (by simp only [List.length_cons, List.length_nil]; omega)]
      simp only [Option.bind_some]
      rw [wrapS (by omega)]
      have e : rd (l ++ [1 + r]) ((i + 1 : Nat) : Int) = some (1 + r) := by
        rw [rd_nat, List.getElem?_append_right (by omega), hml]; simp
      rw [e]
      simp only [Option.bind_some]
      have hh := hm.low
      rw [wrap_i64 (x := h + (1 + r)) (by omega) (by omega)]
      refine ih (i + 1) k _ _ (by omega) (by omega) (by omega) ⟨?_, by simp [hml], ?_, by omega⟩ (by omega)
      · intro g hg
        rcases List.mem_append.1 hg with hg | hg
        · exact hm.gap g hg
        · simp at hg; omega
      · rw [List.length_append, List.length_cons, List.length_nil, psums_last, ← hm.sum]
    · rw [if_neg q]
      exact ⟨l, h, i, rfl, hi, hm⟩
structure Fine (h : Int) (s : Shown) : Prop where
  d : 0 ≤ s.d ∧ s.d ≤ 3
  pa : 0 ≤ s.pa ∧ s.pa ≤ 20
  at_ : 0 ≤ s.at_ ∧ s.at_ ≤ h
theorem tm (a : Int) (m : Int) (ha : 0 ≤ a) (hm : 0 < m) : 0 ≤ a.tmod m ∧ a.tmod m < m := ⟨Int.tmod_nonneg _ ha, Int.tmod_lt_of_pos _ hm⟩
theorem td (a : Int) (m : Int) (ha : 0 ≤ a ∧ a < 16777216) (hm : 0 < m) : 0 ≤ a.tdiv m ∧ IntKind.i64.wrap (a.tdiv m) = a.tdiv m := by
  have h1 : 0 ≤ a.tdiv m := Int.tdiv_nonneg ha.1 (by omega)
  have h2 : a.tdiv m ≤ a := by
    rw [Int.tdiv_eq_ediv_of_nonneg ha.1]
    exact Int.ediv_le_self _ ha.1
  exact ⟨h1, wrap_i64 (by omega) (by omega)⟩
theorem made_ok (x0 : List Int) {k : Nat} (hk : 100 < k) : ∃ l h n, n ≤ 8 ∧ Made l h n ∧ ∀ x1, ∃ s, f17 k x0 x1 = some (l, s) ∧ Fine h s := by
  obtain ⟨l, h, n, e, hn, hm⟩ := f17_l1_eq x0 8 0 k [5] 5 rfl (by omega) (by omega) ⟨by simp, rfl, by simp [psums], by omega⟩ (Nat.zero_le _)
  refine ⟨l, h, n, hn, hm, fun x1 => ?_⟩
  have hh := hm.low
  unfold f17
  rw [show f17_l1 x0 k [5] 5 0 = _ from e]
  simp only [Option.bind_some]
  obtain ⟨r, hr, r1, r2⟩ := f18_eq x1 16777216 (by omega) (by omega)
  rw [hr]
  simp only [Option.bind_some]
  rw [wrap_i64 (x := h + 1) (by omega) (by omega), if_pos (by omega)]
  have d1 := td r 8192 ⟨r1, r2⟩ (by omega)
  have d2 := td r 256 ⟨r1, r2⟩ (by omega)
  rw [d1.2, d2.2]
  have m1 := tm r 4 r1 (by omega)
  have m2 := tm (r.tdiv 256) 21 d2.1 (by omega)
  have m3 := tm (r.tdiv 8192) (h + 1) d1.1 (by omega)
  exact ⟨_, rfl, ⟨m1.1, by show r.tmod 4 ≤ 3; omega⟩, ⟨m2.1, by show (r.tdiv 256).tmod 21 ≤ 20; omega⟩, ⟨m3.1, by show (r.tdiv 8192).tmod (h + 1) ≤ h; omega⟩⟩
theorem findS_all : ∀ (l : List Int) (i : Nat), (∀ g ∈ l, badGap g = false) → findS badGap l i = -1
  | [], _, _ => rfl
  | x :: l, i, h => by
    simp only [findS, h x (List.mem_cons_self ..)]
    exact findS_all l (i + 1) fun g hg => h g (List.mem_cons_of_mem _ hg)
theorem Made.check {l : List Int} {h : Int} {n : Nat} (m : Made l h n) (hn : n ≤ 8) : checkS l = (0, 0) := by
  have hb : findS badGap l 0 = -1 := findS_all l 0 fun g hg => by
    have := m.gap g hg
    simp [badGap]; omega
  have hl := m.len
  unfold checkS
  rw [if_neg (by omega), hb]; rfl
theorem Made.car {l : List Int} {h : Int} {n : Nat} (m : Made l h n) (hn : n ≤ 8) {s : Shown} (f : Fine h s) : carS l s = 0 := by
  have hc := m.check hn
  have hh : heightS l = (h, 0) := by
    unfold heightS
    rw [hc, if_pos rfl, ← m.sum]
  obtain ⟨f1, f2, f3⟩ := f
  unfold carS
  rw [hh]
  simp only [ne_eq, not_true_eq_false, if_false]
  rw [if_neg (by omega)]
theorem Made.all {l : List Int} {h : Int} {n : Nat} (m : Made l h n) (hn : n ≤ 8) {d : Int} (hd : 1 ≤ d ∧ d ≤ 3) {xs : List Shown} (f : ∀ s ∈ xs, Fine h s) : (allS l d xs).2 = 0 := by
  unfold allS
  rw [m.check hn, if_pos rfl]
  have : xs.find? (fun x => decide (carS l x ≠ 0)) = none := by
    rw [List.find?_eq_none]
    intro s hs
    simp [m.car hn (f s hs)]
  rw [this]
  simp only
  rw [if_neg (by omega), if_neg (by omega)]
theorem dom (x3 : Int) : ∃ t, f18 x3 3 = some t ∧ 1 ≤ IntKind.i64.wrap (1 + t) ∧ IntKind.i64.wrap (1 + t) ≤ 3 := by
  obtain ⟨r, hr, r1, r2⟩ := f18_eq x3 3 (by omega) (by omega)
  exact ⟨r, hr, by rw [wrap_i64 (by omega) (by omega)]; omega, by rw [wrap_i64 (by omega) (by omega)]; omega⟩
theorem pure4 : Pure4 := by
  intro x0 x1 x2 x3 k0 k1 k2 k3
  refine ⟨200, ?_⟩
  obtain ⟨l, h, n, hn, hm, hs⟩ := made_ok x0 (k := 200) (by omega)
  obtain ⟨a, ha, fa⟩ := hs x1
  obtain ⟨b, hb, fb⟩ := hs x2
  obtain ⟨t, ht, t1, t2⟩ := dom x3
  unfold f4
  rw [ha, hb, ht]
  simp only [Option.bind_some]
  generalize IntKind.i64.wrap (1 + t) = d at *
  obtain ⟨a', ea, ra, na⟩ : ∃ a', (if a.d = d then some (0 : Int) else some a.d) = some a' ∧ (0 ≤ a' ∧ a' ≤ 3) ∧ a' ≠ d := by
    by_cases q : a.d = d
    · exact ⟨0, if_pos q, by omega, by omega⟩
    · exact ⟨a.d, if_neg q, fa.d, q⟩
  have w : IntKind.i64.wrap (1 + d.tmod 3) = 1 + d.tmod 3 := by
    have := tm d 3 (by omega) (by omega)
    exact wrap_i64 (by omega) (by omega)
  have hdm : 1 + d.tmod 3 ≠ d ∧ 0 ≤ d.tmod 3 ∧ d.tmod 3 < 3 := by
    rcases (show d = 1 ∨ d = 2 ∨ d = 3 by omega) with rfl | rfl | rfl <;> decide
  obtain ⟨b', eb, rb, nb⟩ : ∃ b', (if b.d = d then some (IntKind.i64.wrap (1 + d.tmod 3)) else some b.d) = some b' ∧ (0 ≤ b' ∧ b' ≤ 3) ∧ b' ≠ d := by
    by_cases q : b.d = d
    · rw [w]; exact ⟨_, if_pos q, by omega, hdm.1⟩
    · exact ⟨b.d, if_neg q, fb.d, q⟩
  rw [ea]
  simp only [Option.bind_some]
  rw [eb]
  simp only [Option.bind_some]
  have fa' : Fine h ⟨a', a.sv, a.fa, a.ho, a.at_, a.pa⟩ := ⟨ra, fa.pa, fa.at_⟩
  have fb' : Fine h ⟨b', b.sv, b.fa, b.ho, b.at_, b.pa⟩ := ⟨rb, fb.pa, fb.at_⟩
  have sa : showS l d ⟨a', a.sv, a.fa, a.ho, a.at_, a.pa⟩ = ⟨-1, 0, false⟩ := by unfold showS; rw [if_pos na]
  have sb : showS l d ⟨b', b.sv, b.fa, b.ho, b.at_, b.pa⟩ = ⟨-1, 0, false⟩ := by unfold showS; rw [if_pos nb]
  rw [f19_eq _ _ _ _ (by omega), f12_eq _ _ _ (by omega)]
  have e1 := hm.all hn ⟨t1, t2⟩ (xs := [⟨a', a.sv, a.fa, a.ho, a.at_, a.pa⟩, ⟨b', b.sv, b.fa, b.ho, b.at_, b.pa⟩]) (by simp; exact ⟨fa', fb'⟩)
  have e2 := hm.all hn ⟨t1, t2⟩ (xs := [⟨a', a.sv, a.fa, a.ho, a.at_, a.pa⟩]) (by simp; exact fa')
  unfold sameS oneS
  rw [if_pos e1, if_pos e2, sa, sb]
  rfl
theorem difS_comm (a b : Sight) : difS a b = difS b a := by
  have e1 : decide (a.floor = b.floor) = decide (b.floor = a.floor) := by simp [eq_comm]
  have e2 : decide (a.panel = b.panel) = decide (b.panel = a.panel) := by simp [eq_comm]
  have e3 : (a.out == b.out) = (b.out == a.out) := by cases a.out <;> cases b.out <;> rfl
  unfold difS
  rw [e1, e2, e3]
theorem difS_nil (a b : Sight) : (((difS a b).length : Int) == 0) = decide (a = b) := by
  obtain ⟨f0, p0, o0⟩ := a
  obtain ⟨f1, p1, o1⟩ := b
  unfold difS difL
  by_cases h1 : f0 = f1 <;> by_cases h2 : p0 = p1 <;> cases o0 <;> cases o1 <;> simp [h1, h2] <;> omega
theorem pure6 : Pure6 := by
  intro x0 x1 x2 x3 k0 k1 k2 k3
  refine ⟨200, ?_⟩
  obtain ⟨l, h, n, hn, hm, hs⟩ := made_ok x0 (k := 200) (by omega)
  obtain ⟨a, ha, fa⟩ := hs x1
  obtain ⟨b, hb, fb⟩ := hs x2
  obtain ⟨t, ht, t1, t2⟩ := dom x3
  unfold f6
  rw [ha, hb, ht]
  simp only [Option.bind_some]
  generalize IntKind.i64.wrap (1 + t) = d at *
  rw [f12_eq _ _ _ (by omega), f12_eq _ _ _ (by omega), f19_eq _ _ _ _ (by omega)]
  have e1 := hm.all hn ⟨t1, t2⟩ (xs := [a, b]) (by simp; exact ⟨fa, fb⟩)
  have e2 := hm.all hn ⟨t1, t2⟩ (xs := [a]) (by simp; exact fa)
  have e3 := hm.all hn ⟨t1, t2⟩ (xs := [b]) (by simp; exact fb)
  unfold sameS oneS
  rw [if_pos e1, if_pos e2, if_pos e3]
  simp only [Option.bind_some, f21, if_true, beq_self_eq_true]
  rw [difS_nil]
  simp only [beq_self_eq_true, if_true]
  rw [difS_comm, f16_eq _ (difS_len _ _) (by omega)]; rfl
end Go.Proofs.Ytenddpplfdgcfaa
