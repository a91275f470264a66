import Derived.Test.YtbdndhodggdhkaaDoorSF
import Derived.Test.YtbdndhodggdhkaaDoorD29
set_option linter.unusedVariables false
namespace Go.Proofs.YtbdndhodggdhkaaDoor
open Go Go.Det Go.RowKit
theorem ul3 : Tryd.prog.underlying 3 = some (.int .i64) := by kernel_rfl
def ok3 (x : Int) : Prop := okI .i64 x
theorem rd3 {H : Hp} {cs : List Value} (h : Rd Tryd.prog H 3 cs) : ∃ x : Int, Cod.rep intC 0 H cs x ∧ ok3 x := by
  obtain ⟨x, rfl, hx⟩ := h.int_inv ul3
  exact ⟨x, rfl, hx⟩
theorem ul9 : Tryd.prog.underlying 9 = some .string := by kernel_rfl
def ok9 (x : List UInt8) : Prop := x.length ≤ reachBytes
theorem rd9 {H : Hp} {cs : List Value} (h : Rd Tryd.prog H 9 cs) : ∃ x : List UInt8, Cod.rep strC 0 H cs x ∧ ok9 x := by
  obtain ⟨x, rfl, hx⟩ := h.str_inv ul9
  exact ⟨x, rfl, hx⟩
def Pure8 : Prop := ∀ (x0 : Int) (x1 : Int) (x2 : Int), ok3 x0 → ok3 x1 → ok3 x2 → ∃ k : Nat, f8 k x0 x1 x2 = some true
theorem law8 (hp : Pure8) (H : Hp) (args : List Value) (_ : Tryd.prog.globals.size ≤ H.next) (h : RdArgs Tryd.prog H Tryd.f8.params.toList args) : SCall Tryd.prog 8 args H (fun e _ => e = .ret (.bool true)) := by
  replace h : RdArgs Tryd.prog H [3, 3, 3] args := h
  obtain ⟨v0, args0, ea0, h0, h⟩ := h.scal (by kernel_rfl)
  obtain ⟨x0, e0, k0⟩ := rd3 h0
  obtain rfl := (List.cons.inj e0).1
  obtain ⟨v1, args1, ea1, h1, h⟩ := h.scal (by kernel_rfl)
  obtain ⟨x1, e1, k1⟩ := rd3 h1
  obtain rfl := (List.cons.inj e1).1
  obtain ⟨v2, args2, ea2, h2, h⟩ := h.scal (by kernel_rfl)
  obtain ⟨x2, e2, k2⟩ := rd3 h2
  obtain rfl := (List.cons.inj e2).1
  obtain rfl := h.nil_inv
  subst ea2
  subst ea1
  subst ea0
  obtain ⟨k, hk⟩ := hp x0 x1 x2 k0 k1 k2
  exact (f8_ok hk).mono fun e H' ⟨v, h1, _, h2⟩ => by rw [h1, h2]
def Pure6 : Prop := ∀ (x0 : Int) (x1 : Int) (x2 : Int) (x3 : Int), ok3 x0 → ok3 x1 → ok3 x2 → ok3 x3 → ∃ k : Nat, f6 k x0 x1 x2 x3 = some true
theorem law6 (hp : Pure6) (H : Hp) (args : List Value) (_ : Tryd.prog.globals.size ≤ H.next) (h : RdArgs Tryd.prog H Tryd.f6.params.toList args) : SCall Tryd.prog 6 args H (fun e _ => e = .ret (.bool true)) := by
  replace h : RdArgs Tryd.prog H [3, 3, 3, 3] args := h
  obtain ⟨v0, args0, ea0, h0, h⟩ := h.scal (by kernel_rfl)
  obtain ⟨x0, e0, k0⟩ := rd3 h0
  obtain rfl := (List.cons.inj e0).1
  obtain ⟨v1, args1, ea1, h1, h⟩ := h.scal (by kernel_rfl)
  obtain ⟨x1, e1, k1⟩ := rd3 h1
  obtain rfl := (List.cons.inj e1).1
  obtain ⟨v2, args2, ea2, h2, h⟩ := h.scal (by kernel_rfl)
  obtain ⟨x2, e2, k2⟩ := rd3 h2
  obtain rfl := (List.cons.inj e2).1
  obtain ⟨v3, args3, ea3, h3, h⟩ := h.scal (by kernel_rfl)
  obtain ⟨x3, e3, k3⟩ := rd3 h3
  obtain rfl := (List.cons.inj e3).1
  obtain rfl := h.nil_inv
  subst ea3
  subst ea2
  subst ea1
  subst ea0
  obtain ⟨k, hk⟩ := hp x0 x1 x2 x3 k0 k1 k2 k3
  exact (f6_ok hk).mono fun e H' ⟨v, h1, _, h2⟩ => by rw [h1, h2]
def Pure4 : Prop := ∀ (x0 : List UInt8), ok9 x0 → ∃ k : Nat, f4 k x0 = some true
theorem law4 (hp : Pure4) (H : Hp) (args : List Value) (_ : Tryd.prog.globals.size ≤ H.next) (h : RdArgs Tryd.prog H Tryd.f4.params.toList args) : SCall Tryd.prog 4 args H (fun e _ => e = .ret (.bool true)) := by
  replace h : RdArgs Tryd.prog H [9] args := h
  obtain ⟨v0, args0, ea0, h0, h⟩ := h.scal (by kernel_rfl)
  obtain ⟨x0, e0, k0⟩ := rd9 h0
  obtain rfl := (List.cons.inj e0).1
  obtain rfl := h.nil_inv
  subst ea0
  obtain ⟨k, hk⟩ := hp x0 k0
  exact (f4_ok hk).mono fun e H' ⟨v, h1, _, h2⟩ => by rw [h1, h2]
end Go.Proofs.YtbdndhodggdhkaaDoor

set_option linter.unusedVariables false
namespace Go.Proofs.YtbdndhodggdhkaaDoor
open Go Go.Det Go.RowKit
theorem ul31 : ∃ fs, Tryd.prog.underlying 31 = some (.struct fs) ∧ fs.toList.map (·.type) = [3, 3, 3, 3] := ⟨_, Tryd.underlying31, rfl⟩
def ok31 (x : CallT) : Prop := ok3 x.Kind ∧ ok3 x.Floor ∧ ok3 x.Car ∧ ok3 x.At
theorem rd31 {H : Hp} {cs : List Value} (h : Rd Tryd.prog H 31 cs) : ∃ x : CallT, Cod.rep CallTC 0 H cs x ∧ ok31 x := by
  obtain ⟨fs, hu, hm⟩ := ul31
  have h := h.struct_inv hu
  obtain ⟨fs⟩ := fs
  simp only at hm h
  obtain ⟨f0, fs, rfl⟩ : ∃ f r, fs = f :: r := by cases fs with | nil => cases hm | cons f r => exact ⟨f, r, rfl⟩
  obtain ⟨c0, d0, e0, h0, h⟩ := h.cons_inv
  simp only [List.map_cons, List.cons.injEq] at hm
  obtain ⟨m0, hm⟩ := hm
  rw [m0] at h0
  obtain ⟨f1, fs, rfl⟩ : ∃ f r, fs = f :: r := by cases fs with | nil => cases hm | cons f r => exact ⟨f, r, rfl⟩
  obtain ⟨c1, d1, e1, h1, h⟩ := h.cons_inv
  simp only [List.map_cons, List.cons.injEq] at hm
  obtain ⟨m1, hm⟩ := hm
  rw [m1] at h1
  obtain ⟨f2, fs, rfl⟩ : ∃ f r, fs = f :: r := by cases fs with | nil => cases hm | cons f r => exact ⟨f, r, rfl⟩
  obtain ⟨c2, d2, e2, h2, h⟩ := h.cons_inv
  simp only [List.map_cons, List.cons.injEq] at hm
  obtain ⟨m2, hm⟩ := hm
  rw [m2] at h2
  obtain ⟨f3, fs, rfl⟩ : ∃ f r, fs = f :: r := by cases fs with | nil => cases hm | cons f r => exact ⟨f, r, rfl⟩
  obtain ⟨c3, d3, e3, h3, h⟩ := h.cons_inv
  simp only [List.map_cons, List.cons.injEq] at hm
  obtain ⟨m3, hm⟩ := hm
  rw [m3] at h3
  obtain rfl : fs = [] := by cases fs with | nil => rfl | cons f r => cases hm
  have h := h.nil_inv
  obtain ⟨y0, rfl, k0⟩ := rd3 h0
  obtain ⟨y1, rfl, k1⟩ := rd3 h1
  obtain ⟨y2, rfl, k2⟩ := rd3 h2
  obtain ⟨y3, rfl, k3⟩ := rd3 h3
  subst h
  subst e3
  subst e2
  subst e1
  subst e0
  exact ⟨CallT.mk y0 y1 y2 y3, rfl, ⟨k0, k1, k2, k3⟩⟩
def Pure7 : Prop := ∀ (x0 : CallT) (x1 : CallT) (x2 : Int) (x3 : Int), ok31 x0 → ok31 x1 → ok3 x2 → ok3 x3 → ∃ k : Nat, f7 k x0 x1 x2 x3 = some true
theorem law7 (hp : Pure7) (H : Hp) (args : List Value) (_ : Tryd.prog.globals.size ≤ H.next) (h : RdArgs Tryd.prog H Tryd.f7.params.toList args) : SCall Tryd.prog 7 args H (fun e _ => e = .ret (.bool true)) := by
  replace h : RdArgs Tryd.prog H [31, 31, 3, 3] args := h
  obtain ⟨v0, args0, ea0, h0, h⟩ := h.aggr (by kernel_rfl)
  obtain ⟨x0, e0, k0⟩ := rd31 h0
  subst e0
  obtain ⟨v1, args1, ea1, h1, h⟩ := h.aggr (by kernel_rfl)
  obtain ⟨x1, e1, k1⟩ := rd31 h1
  subst e1
  obtain ⟨v2, args2, ea2, h2, h⟩ := h.scal (by kernel_rfl)
  obtain ⟨x2, e2, k2⟩ := rd3 h2
  obtain rfl := (List.cons.inj e2).1
  obtain ⟨v3, args3, ea3, h3, h⟩ := h.scal (by kernel_rfl)
  obtain ⟨x3, e3, k3⟩ := rd3 h3
  obtain rfl := (List.cons.inj e3).1
  obtain rfl := h.nil_inv
  subst ea3
  subst ea2
  subst ea1
  subst ea0
  obtain ⟨k, hk⟩ := hp x0 x1 x2 x3 k0 k1 k2 k3
  exact (f7_ok hk).mono fun e H' ⟨v, h1, _, h2⟩ => by rw [h1, h2]
end Go.Proofs.YtbdndhodggdhkaaDoor
