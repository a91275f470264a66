import Derived.Test.YtcephcgnfmcdhaaDoorSF
import Derived.Test.YtcephcgnfmcdhaaDoorD51
set_option linter.unusedVariables false
namespace Go.Proofs.YtcephcgnfmcdhaaDoor
open Go Go.Det Go.RowKit
theorem ul22 : Tryd.prog.underlying 22 = some (.int .u64) := by kernel_rfl
def ok22 (x : Int) : Prop := okI .u64 x
theorem rd22 {H : Hp} {cs : List Value} (h : Rd Tryd.prog H 22 cs) : ∃ x : Int, Cod.rep (kindC .u64) 0 H cs x ∧ ok22 x := by
  obtain ⟨x, rfl, hx⟩ := h.int_inv ul22
  exact ⟨x, rfl, hx⟩
theorem ul9 : Tryd.prog.underlying 9 = some .string := by kernel_rfl
def ok9 (x : List UInt8) : Prop := x.length ≤ reachBytes
theorem rd9 {H : Hp} {cs : List Value} (h : Rd Tryd.prog H 9 cs) : ∃ x : List UInt8, Cod.rep strC 0 H cs x ∧ ok9 x := by
  obtain ⟨x, rfl, hx⟩ := h.str_inv ul9
  exact ⟨x, rfl, hx⟩
theorem ul3 : Tryd.prog.underlying 3 = some (.int .i64) := by kernel_rfl
def ok3 (x : Int) : Prop := okI .i64 x
theorem rd3 {H : Hp} {cs : List Value} (h : Rd Tryd.prog H 3 cs) : ∃ x : Int, Cod.rep intC 0 H cs x ∧ ok3 x := by
  obtain ⟨x, rfl, hx⟩ := h.int_inv ul3
  exact ⟨x, rfl, hx⟩
theorem ul4 : Tryd.prog.underlying 4 = some .bool := by kernel_rfl
def ok4 (_ : Bool) : Prop := True
theorem rd4 {H : Hp} {cs : List Value} (h : Rd Tryd.prog H 4 cs) : ∃ x : Bool, Cod.rep boolC 0 H cs x ∧ ok4 x := by
  obtain ⟨x, rfl⟩ := h.bool_inv ul4
  exact ⟨x, rfl, trivial⟩
def Pure3 : Prop := ∀ (x0 : Int) (x1 : List UInt8), ok22 x0 → ok9 x1 → ∃ k : Nat, f3 k x0 x1 = some true
theorem law3 (hp : Pure3) (H : Hp) (args : List Value) (_ : Tryd.prog.globals.size ≤ H.next) (h : RdArgs Tryd.prog H Tryd.f3.params.toList args) : SCall Tryd.prog 3 args H (fun e _ => e = .ret (.bool true)) := by
  replace h : RdArgs Tryd.prog H [22, 9] args := h
  obtain ⟨v0, args0, ea0, h0, h⟩ := h.scal (by kernel_rfl)
  obtain ⟨x0, e0, k0⟩ := rd22 h0
  obtain rfl := (List.cons.inj e0).1
  obtain ⟨v1, args1, ea1, h1, h⟩ := h.scal (by kernel_rfl)
  obtain ⟨x1, e1, k1⟩ := rd9 h1
  obtain rfl := (List.cons.inj e1).1
  obtain rfl := h.nil_inv
  subst ea1
  subst ea0
  obtain ⟨k, hk⟩ := hp x0 x1 k0 k1
  exact (f3_ok hk).mono fun e H' ⟨v, h1, _, h2⟩ => by rw [h1, h2]
def Pure4 : Prop := ∀ (x0 : Int) (x1 : Int) (x2 : Int) (x3 : Bool), ok22 x0 → ok3 x1 → ok3 x2 → ok4 x3 → ∃ k : Nat, f4 k x0 x1 x2 x3 = some true
theorem law4 (hp : Pure4) (H : Hp) (args : List Value) (_ : Tryd.prog.globals.size ≤ H.next) (h : RdArgs Tryd.prog H Tryd.f4.params.toList args) : SCall Tryd.prog 4 args H (fun e _ => e = .ret (.bool true)) := by
  replace h : RdArgs Tryd.prog H [22, 3, 3, 4] args := h
  obtain ⟨v0, args0, ea0, h0, h⟩ := h.scal (by kernel_rfl)
  obtain ⟨x0, e0, k0⟩ := rd22 h0
  obtain rfl := (List.cons.inj e0).1
  obtain ⟨v1, args1, ea1, h1, h⟩ := h.scal (by kernel_rfl)
  obtain ⟨x1, e1, k1⟩ := rd3 h1
  obtain rfl := (List.cons.inj e1).1
  obtain ⟨v2, args2, ea2, h2, h⟩ := h.scal (by kernel_rfl)
  obtain ⟨x2, e2, k2⟩ := rd3 h2
  obtain rfl := (List.cons.inj e2).1
  obtain ⟨v3, args3, ea3, h3, h⟩ := h.scal (by kernel_rfl)
  obtain ⟨x3, e3, k3⟩ := rd4 h3
  obtain rfl := (List.cons.inj e3).1
  obtain rfl := h.nil_inv
  subst ea3
  subst ea2
  subst ea1
  subst ea0
  obtain ⟨k, hk⟩ := hp x0 x1 x2 x3 k0 k1 k2 k3
  exact (f4_ok hk).mono fun e H' ⟨v, h1, _, h2⟩ => by rw [h1, h2]
def Pure5 : Prop := ∀ (_ : Unit), ∃ k : Nat, f5 k = some true
theorem law5 (hp : Pure5) (H : Hp) (args : List Value) (_ : Tryd.prog.globals.size ≤ H.next) (h : RdArgs Tryd.prog H Tryd.f5.params.toList args) : SCall Tryd.prog 5 args H (fun e _ => e = .ret (.bool true)) := by
  replace h : RdArgs Tryd.prog H [] args := h
  obtain rfl := h.nil_inv
  obtain ⟨k, hk⟩ := hp ()
  exact (f5_ok hk).mono fun e H' ⟨v, h1, _, h2⟩ => by rw [h1, h2]
def Pure6 : Prop := ∀ (x0 : Int) (x1 : Int) (x2 : Int) (x3 : Bool), ok22 x0 → ok3 x1 → ok3 x2 → ok4 x3 → ∃ k : Nat, f6 k x0 x1 x2 x3 = some true
theorem law6 (hp : Pure6) (H : Hp) (args : List Value) (_ : Tryd.prog.globals.size ≤ H.next) (h : RdArgs Tryd.prog H Tryd.f6.params.toList args) : SCall Tryd.prog 6 args H (fun e _ => e = .ret (.bool true)) := by
  replace h : RdArgs Tryd.prog H [22, 3, 3, 4] args := h
  obtain ⟨v0, args0, ea0, h0, h⟩ := h.scal (by kernel_rfl)
  obtain ⟨x0, e0, k0⟩ := rd22 h0
  obtain rfl := (List.cons.inj e0).1
  obtain ⟨v1, args1, ea1, h1, h⟩ := h.scal (by kernel_rfl)
  obtain ⟨x1, e1, k1⟩ := rd3 h1
  obtain rfl := (List.cons.inj e1).1
  obtain ⟨v2, args2, ea2, h2, h⟩ := h.scal (by kernel_rfl)
  obtain ⟨x2, e2, k2⟩ := rd3 h2
  obtain rfl := (List.cons.inj e2).1
  obtain ⟨v3, args3, ea3, h3, h⟩ := h.scal (by kernel_rfl)
  obtain ⟨x3, e3, k3⟩ := rd4 h3
  obtain rfl := (List.cons.inj e3).1
  obtain rfl := h.nil_inv
  subst ea3
  subst ea2
  subst ea1
  subst ea0
  obtain ⟨k, hk⟩ := hp x0 x1 x2 x3 k0 k1 k2 k3
  exact (f6_ok hk).mono fun e H' ⟨v, h1, _, h2⟩ => by rw [h1, h2]
def Pure7 : Prop := ∀ (x0 : Int) (x1 : Int), ok22 x0 → ok3 x1 → ∃ k : Nat, f7 k x0 x1 = some true
theorem law7 (hp : Pure7) (H : Hp) (args : List Value) (_ : Tryd.prog.globals.size ≤ H.next) (h : RdArgs Tryd.prog H Tryd.f7.params.toList args) : SCall Tryd.prog 7 args H (fun e _ => e = .ret (.bool true)) := by
  replace h : RdArgs Tryd.prog H [22, 3] args := h
  obtain ⟨v0, args0, ea0, h0, h⟩ := h.scal (by kernel_rfl)
  obtain ⟨x0, e0, k0⟩ := rd22 h0
  obtain rfl := (List.cons.inj e0).1
  obtain ⟨v1, args1, ea1, h1, h⟩ := h.scal (by kernel_rfl)
  obtain ⟨x1, e1, k1⟩ := rd3 h1
  obtain rfl := (List.cons.inj e1).1
  obtain rfl := h.nil_inv
  subst ea1
  subst ea0
  obtain ⟨k, hk⟩ := hp x0 x1 k0 k1
  exact (f7_ok hk).mono fun e H' ⟨v, h1, _, h2⟩ => by rw [h1, h2]
def Pure8 : Prop := ∀ (x0 : Int) (x1 : List UInt8), ok22 x0 → ok9 x1 → ∃ k : Nat, f8 k x0 x1 = some true
theorem law8 (hp : Pure8) (H : Hp) (args : List Value) (_ : Tryd.prog.globals.size ≤ H.next) (h : RdArgs Tryd.prog H Tryd.f8.params.toList args) : SCall Tryd.prog 8 args H (fun e _ => e = .ret (.bool true)) := by
  replace h : RdArgs Tryd.prog H [22, 9] args := h
  obtain ⟨v0, args0, ea0, h0, h⟩ := h.scal (by kernel_rfl)
  obtain ⟨x0, e0, k0⟩ := rd22 h0
  obtain rfl := (List.cons.inj e0).1
  obtain ⟨v1, args1, ea1, h1, h⟩ := h.scal (by kernel_rfl)
  obtain ⟨x1, e1, k1⟩ := rd9 h1
  obtain rfl := (List.cons.inj e1).1
  obtain rfl := h.nil_inv
  subst ea1
  subst ea0
  obtain ⟨k, hk⟩ := hp x0 x1 k0 k1
  exact (f8_ok hk).mono fun e H' ⟨v, h1, _, h2⟩ => by rw [h1, h2]
end Go.Proofs.YtcephcgnfmcdhaaDoor
