import Derived.Test.YtenddpplfdgcfaaDoorSF
import Derived.Test.YtenddpplfdgcfaaDoorD51
set_option linter.unusedVariables false
namespace Go.Proofs.YtenddpplfdgcfaaDoor
open Go Go.Det Go.RowKit
theorem ul3 : Tryd.prog.underlying 3 = some (.int .i64) := by kernel_rfl
def ok3 (x : Int) : Prop := okI .i64 x
theorem rd3 {H : Hp} {cs : List Value} (h : Rd Tryd.prog H 3 cs) : ∃ x : Int, Cod.rep intC 0 H cs x ∧ ok3 x := by
  obtain ⟨x, rfl, hx⟩ := h.int_inv ul3
  exact ⟨x, rfl, hx⟩
theorem ul4 : Tryd.prog.underlying 4 = some .bool := by kernel_rfl
def ok4 (_ : Bool) : Prop := True
theorem rd4 {H : Hp} {cs : List Value} (h : Rd Tryd.prog H 4 cs) : ∃ x : Bool, Cod.rep boolC 0 H cs x ∧ ok4 x := by
  obtain ⟨x, rfl⟩ := h.bool_inv ul4
  exact ⟨x, rfl, trivial⟩
theorem ul23 : ∃ fs, Tryd.prog.underlying 23 = some (.struct fs) ∧ fs.toList.map (·.type) = [3, 3, 4] := ⟨_, Tryd.underlying23, rfl⟩
def ok23 (x : Sight) : Prop := ok3 x.Floor ∧ ok3 x.Panel ∧ ok4 x.Out
theorem rd23 {H : Hp} {cs : List Value} (h : Rd Tryd.prog H 23 cs) : ∃ x : Sight, Cod.rep SightC 0 H cs x ∧ ok23 x := by
  obtain ⟨fs, hu, hm⟩ := ul23
  have h := h.struct_inv hu
  obtain ⟨fs⟩ := fs
  simp only at hm h
  obtain ⟨f0, fs, rfl⟩ : ∃ f r, fs = f :: r := by cases fs with | nil => cases hm | cons f r => exact ⟨f, r, rfl⟩
  obtain ⟨c0, d0, e0, h0, h⟩ := h.cons_inv
  simp only [List.map_cons, List.cons.injEq] at hm
  obtain ⟨m0, hm⟩ := hm
  rw [m0] at h0
  obtain ⟨f1, fs, rfl⟩ : ∃ f r, fs = f :: r := by cases fs with | nil => cases hm | cons f r => exact ⟨f, r, rfl⟩
  obtain ⟨c1, d1, e1, h1, h⟩ := h.cons_inv
  simp only [List.map_cons, List.cons.injEq] at hm
  obtain ⟨m1, hm⟩ := hm
  rw [m1] at h1
  obtain ⟨f2, fs, rfl⟩ : ∃ f r, fs = f :: r := by cases fs with | nil => cases hm | cons f r => exact ⟨f, r, rfl⟩
  obtain ⟨c2, d2, e2, h2, h⟩ := h.cons_inv
  simp only [List.map_cons, List.cons.injEq] at hm
  obtain ⟨m2, hm⟩ := hm
  rw [m2] at h2
  obtain rfl : fs = [] := by cases fs with | nil => rfl | cons f r => cases hm
  have h := h.nil_inv
  obtain ⟨y0, rfl, k0⟩ := rd3 h0
  obtain ⟨y1, rfl, k1⟩ := rd3 h1
  obtain ⟨y2, rfl, k2⟩ := rd4 h2
  subst h
  subst e2
  subst e1
  subst e0
  exact ⟨Sight.mk y0 y1 y2, rfl, ⟨k0, k1, k2⟩⟩
theorem ul9 : Tryd.prog.underlying 9 = some .string := by kernel_rfl
def ok9 (x : List UInt8) : Prop := x.length ≤ reachBytes
theorem rd9 {H : Hp} {cs : List Value} (h : Rd Tryd.prog H 9 cs) : ∃ x : List UInt8, Cod.rep strC 0 H cs x ∧ ok9 x := by
  obtain ⟨x, rfl, hx⟩ := h.str_inv ul9
  exact ⟨x, rfl, hx⟩
def Pure3 : Prop := ∀ (x0 : Sight) (x1 : List UInt8), ok23 x0 → ok9 x1 → ∃ k : Nat, f3 k x0 x1 = some true
theorem law3 (hp : Pure3) (H : Hp) (args : List Value) (_ : Tryd.prog.globals.size ≤ H.next) (h : RdArgs Tryd.prog H Tryd.f3.params.toList args) : SCall Tryd.prog 3 args H (fun e _ => e = .ret (.bool true)) := by
  replace h : RdArgs Tryd.prog H [23, 9] args := h
  obtain ⟨v0, args0, ea0, h0, h⟩ := h.aggr (by kernel_rfl)
  obtain ⟨x0, e0, k0⟩ := rd23 h0
  subst e0
  obtain ⟨v1, args1, ea1, h1, h⟩ := h.scal (by kernel_rfl)
  obtain ⟨x1, e1, k1⟩ := rd9 h1
  obtain rfl := (List.cons.inj e1).1
  obtain rfl := h.nil_inv
  subst ea1
  subst ea0
  obtain ⟨k, hk⟩ := hp x0 x1 k0 k1
  exact (f3_ok hk).mono fun e H' ⟨v, h1, _, h2⟩ => by rw [h1, h2]
end Go.Proofs.YtenddpplfdgcfaaDoor

set_option linter.unusedVariables false
namespace Go.Proofs.YtenddpplfdgcfaaDoor
open Go Go.Det Go.RowKit
theorem ul31 : Tryd.prog.underlying 31 = some (.slice 3) := by kernel_rfl
theorem bo31 : Tryd.prog.bytesOf 3 = 8 := by kernel_rfl
def ok31 (x : List Int) : Prop := (∀ y ∈ x, ok3 y) ∧ x.length * 8 ≤ reachBytes ∧ x.length ≤ maxLen
theorem rd31 {H : Hp} {cs : List Value} (h : Rd Tryd.prog H 31 cs) : ∃ x : List Int, Cod.rep (slC intC) 0 H cs x ∧ ok31 x := by
  obtain ⟨l, a, cap, rfl, h1, h2, h3, h4⟩ := h.sl_inv (c := intC) ul31 fun cs h => rd3 h
  rw [bo31] at h3
  exact ⟨l, ⟨a, cap, rfl, h1⟩, h2, h3, h4⟩
def Pure4 : Prop := ∀ (x0 : List Int) (x1 : Int) (x2 : Int), ok31 x0 → ok3 x1 → ok3 x2 → ∃ k : Nat, f4 k x0 x1 x2 = some true
theorem law4 (hp : Pure4) (H : Hp) (args : List Value) (_ : Tryd.prog.globals.size ≤ H.next) (h : RdArgs Tryd.prog H Tryd.f4.params.toList args) : SCall Tryd.prog 4 args H (fun e _ => e = .ret (.bool true)) := by
  replace h : RdArgs Tryd.prog H [31, 3, 3] args := h
  obtain ⟨v0, args0, ea0, h0, h⟩ := h.scal (by kernel_rfl)
  obtain ⟨x0, ⟨a0_0, c0_0, e0, g0_0⟩, k0⟩ := rd31 h0
  obtain rfl := (List.cons.inj e0).1
  obtain ⟨v1, args1, ea1, h1, h⟩ := h.scal (by kernel_rfl)
  obtain ⟨x1, e1, k1⟩ := rd3 h1
  obtain rfl := (List.cons.inj e1).1
  obtain ⟨v2, args2, ea2, h2, h⟩ := h.scal (by kernel_rfl)
  obtain ⟨x2, e2, k2⟩ := rd3 h2
  obtain rfl := (List.cons.inj e2).1
  obtain rfl := h.nil_inv
  subst ea2
  subst ea1
  subst ea0
  obtain ⟨k, hk⟩ := hp x0 x1 x2 k0 k1 k2
  exact (f4_ok g0_0 hk).mono fun e H' ⟨v, h1, _, h2⟩ => by rw [h1, h2]
def Pure5 : Prop := ∀ (_ : Unit), ∃ k : Nat, f5 k = some true
theorem law5 (hp : Pure5) (H : Hp) (args : List Value) (_ : Tryd.prog.globals.size ≤ H.next) (h : RdArgs Tryd.prog H Tryd.f5.params.toList args) : SCall Tryd.prog 5 args H (fun e _ => e = .ret (.bool true)) := by
  replace h : RdArgs Tryd.prog H [] args := h
  obtain rfl := h.nil_inv
  obtain ⟨k, hk⟩ := hp ()
  exact (f5_ok hk).mono fun e H' ⟨v, h1, _, h2⟩ => by rw [h1, h2]
end Go.Proofs.YtenddpplfdgcfaaDoor
