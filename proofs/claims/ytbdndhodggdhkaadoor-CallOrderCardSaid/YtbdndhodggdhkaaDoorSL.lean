import Derived.Test.YtbdndhodggdhkaaDoorSF
import Derived.Test.YtbdndhodggdhkaaDoorD29
set_option linter.unusedVariables false
namespace Go.Proofs.YtbdndhodggdhkaaDoor
open Go Go.Det Go.RowKit
theorem ul3 : Tryd.prog.underlying 3 = some (.int .i64) := by kernel_rfl
def ok3 (x : Int) : Prop := okI .i64 x
theorem rd3 {H : Hp} {cs : List Value} (h : Rd Tryd.prog H 3 cs) : ∃ x : Int, Cod.rep intC 0 H cs x ∧ ok3 x := by
  obtain ⟨x, rfl, hx⟩ := h.int_inv ul3
  exact ⟨x, rfl, hx⟩
theorem ul9 : Tryd.prog.underlying 9 = some .string := by kernel_rfl
def ok9 (x : List UInt8) : Prop := x.length ≤ reachBytes
theorem rd9 {H : Hp} {cs : List Value} (h : Rd Tryd.prog H 9 cs) : ∃ x : List UInt8, Cod.rep strC 0 H cs x ∧ ok9 x := by
  obtain ⟨x, rfl, hx⟩ := h.str_inv ul9
  exact ⟨x, rfl, hx⟩
def Pure8 : Prop := ∀ (x0 : Int) (x1 : Int) (x2 : Int), ok3 x0 → ok3 x1 → ok3 x2 → ∃ k : Nat, f8 k x0 x1 x2 = some true
theorem law8 (hp : Pure8) (H : Hp) (args : List Value) (_ : Tryd.prog.globals.size ≤ H.next) (h : RdArgs Tryd.prog H Tryd.f8.params.toList args) : SCall Tryd.prog 8 args H (fun e _ => e = .ret (.bool true)) := by
  replace h : RdArgs Tryd.prog H [3, 3, 3] args := h
  obtain ⟨v0, args0, ea0, h0, h⟩ := h.scal (by kernel_rfl)
  obtain ⟨x0, e0, k0⟩ := rd3 h0
  obtain rfl := (List.cons.inj e0).1
  obtain ⟨v1, args1, ea1, h1, h⟩ := h.scal (by kernel_rfl)
  obtain ⟨x1, e1, k1⟩ := rd3 h1
  obtain rfl := (List.cons.inj e1).1
  obtain ⟨v2, args2, ea2, h2, h⟩ := h.scal (by kernel_rfl)
  obtain ⟨x2, e2, k2⟩ := rd3 h2
  obtain rfl := (List.cons.inj e2).1
  obtain rfl := h.nil_inv
  subst ea2
  subst ea1
  subst ea0
  obtain ⟨k, hk⟩ := hp x0 x1 x2 k0 k1 k2
  exact (f8_ok hk).mono fun e H' ⟨v, h1, _, h2⟩ => by rw [h1, h2]
def Pure6 : Prop := ∀ (x0 : Int) (x1 : Int) (x2 : Int) (x3 : Int), ok3 x0 → ok3 x1 → ok3 x2 → ok3 x3 → ∃ k : Nat, f6 k x0 x1 x2 x3 = some true
theorem law6 (hp : Pure6) (H : Hp) (args : List Value) (_ : Tryd.prog.globals.size ≤ H.next) (h : RdArgs Tryd.prog H Tryd.f6.params.toList args) : SCall Tryd.prog 6 args H (fun e _ => e = .ret (.bool true)) := by
  replace h : RdArgs Tryd.prog H [3, 3, 3, 3] args := h
  obtain ⟨v0, args0, ea0, h0, h⟩ := h.scal (by kernel_rfl)
  obtain ⟨x0, e0, k0⟩ := rd3 h0
  obtain rfl := (List.cons.inj e0).1
  obtain ⟨v1, args1, ea1, h1, h⟩ := h.scal (by kernel_rfl)
  obtain ⟨x1, e1, k1⟩ := rd3 h1
  obtain rfl := (List.cons.inj e1).1
  obtain ⟨v2, args2, ea2, h2, h⟩ := h.scal (by kernel_rfl)
  obtain ⟨x2, e2, k2⟩ := rd3 h2
  obtain rfl := (List.cons.inj e2).1
  obtain ⟨v3, args3, ea3, h3, h⟩ := h.scal (by kernel_rfl)
  obtain ⟨x3, e3, k3⟩ := rd3 h3
  obtain rfl := (List.cons.inj e3).1
  obtain rfl := h.nil_inv
  subst ea3
  subst ea2
  subst ea1
  subst ea0
  obtain ⟨k, hk⟩ := hp x0 x1 x2 x3 k0 k1 k2 k3
  exact (f6_ok hk).mono fun e H' ⟨v, h1, _, h2⟩ => by rw [h1, h2]
def Pure4 : Prop := ∀ (x0 : List UInt8), ok9 x0 → ∃ k : Nat, f4 k x0 = some true
theorem law4 (hp : Pure4) (H : Hp) (args : List Value) (_ : Tryd.prog.globals.size ≤ H.next) (h : RdArgs Tryd.prog H Tryd.f4.params.toList args) : SCall Tryd.prog 4 args H (fun e _ => e = .ret (.bool true)) := by
  replace h : RdArgs Tryd.prog H [9] args := h
  obtain ⟨v0, args0, ea0, h0, h⟩ := h.scal (by kernel_rfl)
  obtain ⟨x0, e0, k0⟩ := rd9 h0
  obtain rfl := (List.cons.inj e0).1
  obtain rfl := h.nil_inv
  subst ea0
  obtain ⟨k, hk⟩ := hp x0 k0
  exact (f4_ok hk).mono fun e H' ⟨v, h1, _, h2⟩ => by rw [h1, h2]
end Go.Proofs.YtbdndhodggdhkaaDoor
