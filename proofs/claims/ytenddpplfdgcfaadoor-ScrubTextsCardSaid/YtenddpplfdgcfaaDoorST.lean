import Derived.Test.YtenddpplfdgcfaaDoorChecked
import Derived.Test.YtenddpplfdgcfaaDoorD59
set_option linter.unusedVariables false
set_option linter.unusedSimpArgs false
namespace Go.Proofs.YtenddpplfdgcfaaDoor
open Go Go.Det Go.RowKit
theorem gmix : Tryd.prog.follows .mixedOrders = true := by kernel_rfl
structure Sight where
  Floor : Int
  Panel : Int
  Out : Bool
  deriving DecidableEq
def Sight.cs (x : Sight) : List Value := [.int .i64 x.Floor, .int .i64 x.Panel, .bool x.Out]
def SightC : Cod Sight := .flat 3 Sight.cs fun _ => rfl
theorem ui60 : Tryd.prog.underlying 60 = some (.interface ((match Tryd.prog.underlying 60 with | some (.interface w) => w | _ => #[]))) := by kernel_rfl
theorem us9 : Tryd.prog.underlying 9 = some .string := by kernel_rfl
theorem gd23 : Tryd.prog.eqGuardType Tryd.prog.depth 23 = false := by kernel_rfl
theorem eq23 (x0 : Int) (x1 : Int) (x2 : Bool) (y0 : Int) (y1 : Int) (y2 : Bool) : eqT Tryd.prog 20 23 (.agg ⟨[.int .i64 x0, .int .i64 x1, .bool x2]⟩) (.agg ⟨[.int .i64 y0, .int .i64 y1, .bool y2]⟩) = some (decide ((Sight.mk x0 x1 x2) = (Sight.mk y0 y1 y2))) := by
  have h : eqT Tryd.prog 20 23 (.agg ⟨[.int .i64 x0, .int .i64 x1, .bool x2]⟩) (.agg ⟨[.int .i64 y0, .int .i64 y1, .bool y2]⟩) = some (x0 == y0 && (x1 == y1 && (x2 == y2 && true))) := by kernel_rfl
  rw [h, Option.some.injEq, Bool.eq_iff_iff]; simp
def R_4 (r : Bool) (n : Nat) (H : Hp) (v : Value) : Prop := v = .bool r
theorem R_4.mono {r : Bool} {m n : Nat} {H B : Hp} {v : Value} (hm : m ≤ n) (h : Abv n H B) (k : R_4 r n H v) : R_4 r m B v := by
  exact k
def R_9 (r : List UInt8) (n : Nat) (H : Hp) (v : Value) : Prop := v = .string (bs r)
theorem R_9.mono {r : List UInt8} {m n : Nat} {H B : Hp} {v : Value} (hm : m ≤ n) (h : Abv n H B) (k : R_9 r n H v) : R_9 r m B v := by
  exact k
def R_9_9_4 (r : (List UInt8) × (List UInt8) × Bool) (n : Nat) (H : Hp) (v : Value) : Prop := v = .tuple ⟨[.string (bs r.1), .string (bs r.2.1), .bool r.2.2]⟩
theorem R_9_9_4.mono {r : (List UInt8) × (List UInt8) × Bool} {m n : Nat} {H B : Hp} {v : Value} (hm : m ≤ n) (h : Abv n H B) (k : R_9_9_4 r n H v) : R_9_9_4 r m B v := by
  exact k
def R_3_60 (r : Int × Bool) (n : Nat) (H : Hp) (v : Value) : Prop := ∃ y : Value, v = .tuple ⟨[.int .i64 r.1, y]⟩ ∧ errR r.2 y
theorem R_3_60.mono {r : Int × Bool} {m n : Nat} {H B : Hp} {v : Value} (hm : m ≤ n) (h : Abv n H B) (k : R_3_60 r n H v) : R_3_60 r m B v := k
def R_9_25 (r : (List UInt8) × Int) (n : Nat) (H : Hp) (v : Value) : Prop := v = .tuple ⟨[.string (bs r.1), .int .i64 r.2]⟩
theorem R_9_25.mono {r : (List UInt8) × Int} {m n : Nat} {H B : Hp} {v : Value} (hm : m ≤ n) (h : Abv n H B) (k : R_9_25 r n H v) : R_9_25 r m B v := by
  exact k
def R_3_4 (r : Int × Bool) (n : Nat) (H : Hp) (v : Value) : Prop := v = .tuple ⟨[.int .i64 r.1, .bool r.2]⟩
theorem R_3_4.mono {r : Int × Bool} {m n : Nat} {H B : Hp} {v : Value} (hm : m ≤ n) (h : Abv n H B) (k : R_3_4 r n H v) : R_3_4 r m B v := by
  exact k
def R_23_25 (r : Sight × Int) (n : Nat) (H : Hp) (v : Value) : Prop := v = .tuple ⟨[.agg ⟨[.int .i64 r.1.Floor, .int .i64 r.1.Panel, .bool r.1.Out]⟩, .int .i64 r.2]⟩
theorem R_23_25.mono {r : Sight × Int} {m n : Nat} {H B : Hp} {v : Value} (hm : m ≤ n) (h : Abv n H B) (k : R_23_25 r n H v) : R_23_25 r m B v := by
  exact k
end Go.Proofs.YtenddpplfdgcfaaDoor
