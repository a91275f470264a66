import Derived.Test.YtgmejigjajcbfaaGreatDoorSF
import Derived.Test.YtgmejigjajcbfaaGreatDoorD51
set_option linter.unusedVariables false
namespace Go.Proofs.YtgmejigjajcbfaaGreatDoor
open Go Go.Det Go.RowKit
theorem ul3 : Tryz.prog.underlying 3 = some (.int .i64) := by kernel_rfl
def ok3 (x : Int) : Prop := okI .i64 x
theorem rd3 {H : Hp} {cs : List Value} (h : Rd Tryz.prog H 3 cs) : ∃ x : Int, Cod.rep intC 0 H cs x ∧ ok3 x := by
  obtain ⟨x, rfl, hx⟩ := h.int_inv ul3
  exact ⟨x, rfl, hx⟩
theorem ul9 : Tryz.prog.underlying 9 = some .string := by kernel_rfl
def ok9 (x : List UInt8) : Prop := x.length ≤ reachBytes
theorem rd9 {H : Hp} {cs : List Value} (h : Rd Tryz.prog H 9 cs) : ∃ x : List UInt8, Cod.rep strC 0 H cs x ∧ ok9 x := by
  obtain ⟨x, rfl, hx⟩ := h.str_inv ul9
  exact ⟨x, rfl, hx⟩
theorem ul36 : ∃ fs, Tryz.prog.underlying 36 = some (.struct fs) ∧ fs.toList.map (·.type) = [3, 3, 9, 3] := ⟨_, Tryz.underlying36, rfl⟩
def ok36 (x : RowWord) : Prop := ok3 x.At ∧ ok3 x.Kind ∧ ok9 x.Name ∧ ok3 x.N
theorem rd36 {H : Hp} {cs : List Value} (h : Rd Tryz.prog H 36 cs) : ∃ x : RowWord, Cod.rep RowWordC 0 H cs x ∧ ok36 x := by
  obtain ⟨fs, hu, hm⟩ := ul36
  have h := h.struct_inv hu
  obtain ⟨fs⟩ := fs
  simp only at hm h
  obtain ⟨f0, fs, rfl⟩ : ∃ f r, fs = f :: r := by cases fs with | nil => cases hm | cons f r => exact ⟨f, r, rfl⟩
  obtain ⟨c0, d0, e0, h0, h⟩ := h.cons_inv
  simp only [List.map_cons, List.cons.injEq] at hm
  obtain ⟨m0, hm⟩ := hm
  rw [m0] at h0
  obtain ⟨f1, fs, rfl⟩ : ∃ f r, fs = f :: r := by cases fs with | nil => cases hm | cons f r => exact ⟨f, r, rfl⟩
  obtain ⟨c1, d1, e1, h1, h⟩ := h.cons_inv
  simp only [List.map_cons, List.cons.injEq] at hm
  obtain ⟨m1, hm⟩ := hm
  rw [m1] at h1
  obtain ⟨f2, fs, rfl⟩ : ∃ f r, fs = f :: r := by cases fs with | nil => cases hm | cons f r => exact ⟨f, r, rfl⟩
  obtain ⟨c2, d2, e2, h2, h⟩ := h.cons_inv
  simp only [List.map_cons, List.cons.injEq] at hm
  obtain ⟨m2, hm⟩ := hm
  rw [m2] at h2
  obtain ⟨f3, fs, rfl⟩ : ∃ f r, fs = f :: r := by cases fs with | nil => cases hm | cons f r => exact ⟨f, r, rfl⟩
  obtain ⟨c3, d3, e3, h3, h⟩ := h.cons_inv
  simp only [List.map_cons, List.cons.injEq] at hm
  obtain ⟨m3, hm⟩ := hm
  rw [m3] at h3
  obtain rfl : fs = [] := by cases fs with | nil => rfl | cons f r => cases hm
  have h := h.nil_inv
  obtain ⟨y0, rfl, k0⟩ := rd3 h0
  obtain ⟨y1, rfl, k1⟩ := rd3 h1
  obtain ⟨y2, rfl, k2⟩ := rd9 h2
  obtain ⟨y3, rfl, k3⟩ := rd3 h3
  subst h
  subst e3
  subst e2
  subst e1
  subst e0
  exact ⟨RowWord.mk y0 y1 y2 y3, rfl, ⟨k0, k1, k2, k3⟩⟩
theorem ul37 : Tryz.prog.underlying 37 = some (.slice 9) := by kernel_rfl
theorem bo37 : Tryz.prog.bytesOf 9 = 16 := by kernel_rfl
def ok37 (x : List (List UInt8)) : Prop := (∀ y ∈ x, ok9 y) ∧ x.length * 16 ≤ reachBytes ∧ x.length ≤ maxLen
theorem rd37 {H : Hp} {cs : List Value} (h : Rd Tryz.prog H 37 cs) : ∃ x : List (List UInt8), Cod.rep (slC strC) 0 H cs x ∧ ok37 x := by
  obtain ⟨l, a, cap, rfl, h1, h2, h3, h4⟩ := h.sl_inv (c := strC) ul37 fun cs h => rd9 h
  rw [bo37] at h3
  exact ⟨l, ⟨a, cap, rfl, h1⟩, h2, h3, h4⟩
def Pure5 : Prop := ∀ (x0 : RowWord) (x1 : Int) (x2 : Int) (x3 : List (List UInt8)), ok36 x0 → ok3 x1 → ok3 x2 → ok37 x3 → ∃ k : Nat, f5 k x0 x1 x2 x3 = some true
theorem law5 (hp : Pure5) (H : Hp) (args : List Value) (_ : Tryz.prog.globals.size ≤ H.next) (h : RdArgs Tryz.prog H Tryz.f5.params.toList args) : SCall Tryz.prog 5 args H (fun e _ => e = .ret (.bool true)) := by
  replace h : RdArgs Tryz.prog H [36, 3, 3, 37] args := h
  obtain ⟨v0, args0, ea0, h0, h⟩ := h.aggr (by kernel_rfl)
  obtain ⟨x0, e0, k0⟩ := rd36 h0
  subst e0
  obtain ⟨v1, args1, ea1, h1, h⟩ := h.scal (by kernel_rfl)
  obtain ⟨x1, e1, k1⟩ := rd3 h1
  obtain rfl := (List.cons.inj e1).1
  obtain ⟨v2, args2, ea2, h2, h⟩ := h.scal (by kernel_rfl)
  obtain ⟨x2, e2, k2⟩ := rd3 h2
  obtain rfl := (List.cons.inj e2).1
  obtain ⟨v3, args3, ea3, h3, h⟩ := h.scal (by kernel_rfl)
  obtain ⟨x3, ⟨a3_0, c3_0, e3, g3_0⟩, k3⟩ := rd37 h3
  obtain rfl := (List.cons.inj e3).1
  obtain rfl := h.nil_inv
  subst ea3
  subst ea2
  subst ea1
  subst ea0
  obtain ⟨k, hk⟩ := hp x0 x1 x2 x3 k0 k1 k2 k3
  exact (f5_ok g3_0 hk).mono fun e H' ⟨v, h1, _, h2⟩ => by rw [h1, h2]
end Go.Proofs.YtgmejigjajcbfaaGreatDoor
