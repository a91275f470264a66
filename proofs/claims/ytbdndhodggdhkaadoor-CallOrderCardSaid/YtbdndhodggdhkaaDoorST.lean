import Derived.Test.YtbdndhodggdhkaaDoorChecked
import Derived.Test.YtbdndhodggdhkaaDoorD62
set_option linter.unusedVariables false
set_option linter.unusedSimpArgs false
namespace Go.Proofs.YtbdndhodggdhkaaDoor
open Go Go.Det Go.RowKit
theorem gmix : Tryd.prog.follows .mixedOrders = true := by kernel_rfl
structure CallT where
  Kind : Int
  Floor : Int
  Car : Int
  At : Int
  deriving DecidableEq
def CallT.cs (x : CallT) : List Value := [.int .i64 x.Kind, .int .i64 x.Floor, .int .i64 x.Car, .int .i64 x.At]
def CallTC : Cod CallT := .flat 4 CallT.cs fun _ => rfl
structure Key where
  kind : Int
  floor : Int
  car : Int
  deriving DecidableEq
def Key.cs (x : Key) : List Value := [.int .i64 x.kind, .int .i64 x.floor, .int .i64 x.car]
def KeyC : Cod Key := .flat 3 Key.cs fun _ => rfl
theorem u53 : Tryd.prog.underlying 53 = some (.slice 3) := by kernel_rfl
theorem u69 : Tryd.prog.underlying 69 = some (.slice 9) := by kernel_rfl
theorem u87 : Tryd.prog.underlying 87 = some (.slice 5) := by kernel_rfl
theorem sz3 : sizeD Tryd.prog 3 = some 1 := by kernel_rfl
theorem by3 : bytesD Tryd.prog 3 = some 8 := by kernel_rfl
theorem ag3 : isAggD Tryd.prog 3 = some false := by kernel_rfl
theorem sz5 : sizeD Tryd.prog 5 = some 1 := by kernel_rfl
theorem by5 : bytesD Tryd.prog 5 = some 1 := by kernel_rfl
theorem ag5 : isAggD Tryd.prog 5 = some false := by kernel_rfl
theorem sz9 : sizeD Tryd.prog 9 = some 1 := by kernel_rfl
theorem by9 : bytesD Tryd.prog 9 = some 16 := by kernel_rfl
theorem ag9 : isAggD Tryd.prog 9 = some false := by kernel_rfl
theorem sz53 : sizeD Tryd.prog 53 = some 1 := by kernel_rfl
theorem by53 : bytesD Tryd.prog 53 = some 24 := by kernel_rfl
theorem ag53 : isAggD Tryd.prog 53 = some false := by kernel_rfl
theorem sz69 : sizeD Tryd.prog 69 = some 1 := by kernel_rfl
theorem by69 : bytesD Tryd.prog 69 = some 24 := by kernel_rfl
theorem ag69 : isAggD Tryd.prog 69 = some false := by kernel_rfl
theorem sz87 : sizeD Tryd.prog 87 = some 1 := by kernel_rfl
theorem by87 : bytesD Tryd.prog 87 = some 24 := by kernel_rfl
theorem ag87 : isAggD Tryd.prog 87 = some false := by kernel_rfl
theorem el53 {c : Call} (h : c.argTypes = #[53, 53]) : Elem Tryd.prog c 53 3 1 8 := ⟨by rw [h]; rfl, ⟨53, _, by rw [h]; rfl, u53, by intro k; simp⟩, u53, sz3, by3, ⟨(zeroD Tryd.prog 3).getD undef, by kernel_rfl, by kernel_rfl⟩, by decide⟩
theorem el69 {c : Call} (h : c.argTypes = #[69, 69]) : Elem Tryd.prog c 69 9 1 16 := ⟨by rw [h]; rfl, ⟨69, _, by rw [h]; rfl, u69, by intro k; simp⟩, u69, sz9, by9, ⟨(zeroD Tryd.prog 9).getD undef, by kernel_rfl, by kernel_rfl⟩, by decide⟩
theorem el87 {c : Call} (h : c.argTypes = #[87, 87]) : Elem Tryd.prog c 87 5 1 1 := ⟨by rw [h]; rfl, ⟨87, _, by rw [h]; rfl, u87, by intro k; simp⟩, u87, sz5, by5, ⟨(zeroD Tryd.prog 5).getD undef, by kernel_rfl, by kernel_rfl⟩, by decide⟩
theorem u8_5 : Tryd.prog.underlying 5 = some (.int .u8) := by kernel_rfl
theorem ui73 : Tryd.prog.underlying 73 = some (.interface ((match Tryd.prog.underlying 73 with | some (.interface w) => w | _ => #[]))) := by kernel_rfl
theorem us9 : Tryd.prog.underlying 9 = some .string := by kernel_rfl
theorem gd31 : Tryd.prog.eqGuardType Tryd.prog.depth 31 = false := by kernel_rfl
theorem eq31 (x0 : Int) (x1 : Int) (x2 : Int) (x3 : Int) (y0 : Int) (y1 : Int) (y2 : Int) (y3 : Int) : eqT Tryd.prog 20 31 (.agg ⟨[.int .i64 x0, .int .i64 x1, .int .i64 x2, .int .i64 x3]⟩) (.agg ⟨[.int .i64 y0, .int .i64 y1, .int .i64 y2, .int .i64 y3]⟩) = some (decide ((CallT.mk x0 x1 x2 x3) = (CallT.mk y0 y1 y2 y3))) := by
  have h : eqT Tryd.prog 20 31 (.agg ⟨[.int .i64 x0, .int .i64 x1, .int .i64 x2, .int .i64 x3]⟩) (.agg ⟨[.int .i64 y0, .int .i64 y1, .int .i64 y2, .int .i64 y3]⟩) = some (x0 == y0 && (x1 == y1 && (x2 == y2 && (x3 == y3 && true)))) := by kernel_rfl
  rw [h, Option.some.injEq, Bool.eq_iff_iff]; simp
theorem gd66 : Tryd.prog.eqGuardType Tryd.prog.depth 66 = false := by kernel_rfl
theorem eq66 (x0 : Int) (x1 : Int) (x2 : Int) (y0 : Int) (y1 : Int) (y2 : Int) : eqT Tryd.prog 20 66 (.agg ⟨[.int .i64 x0, .int .i64 x1, .int .i64 x2]⟩) (.agg ⟨[.int .i64 y0, .int .i64 y1, .int .i64 y2]⟩) = some (decide ((Key.mk x0 x1 x2) = (Key.mk y0 y1 y2))) := by
  have h : eqT Tryd.prog 20 66 (.agg ⟨[.int .i64 x0, .int .i64 x1, .int .i64 x2]⟩) (.agg ⟨[.int .i64 y0, .int .i64 y1, .int .i64 y2]⟩) = some (x0 == y0 && (x1 == y1 && (x2 == y2 && true))) := by kernel_rfl
  rw [h, Option.some.injEq, Bool.eq_iff_iff]; simp
def R_4 (r : Bool) (n : Nat) (H : Hp) (v : Value) : Prop := v = .bool r
theorem R_4.mono {r : Bool} {m n : Nat} {H B : Hp} {v : Value} (hm : m ≤ n) (h : Abv n H B) (k : R_4 r n H v) : R_4 r m B v := by
  exact k
def R_3_73 (r : Int × Bool) (n : Nat) (H : Hp) (v : Value) : Prop := ∃ y : Value, v = .tuple ⟨[.int .i64 r.1, y]⟩ ∧ errR r.2 y
theorem R_3_73.mono {r : Int × Bool} {m n : Nat} {H B : Hp} {v : Value} (hm : m ≤ n) (h : Abv n H B) (k : R_3_73 r n H v) : R_3_73 r m B v := k
def R_9 (r : List UInt8) (n : Nat) (H : Hp) (v : Value) : Prop := v = .string (bs r)
theorem R_9.mono {r : List UInt8} {m n : Nat} {H B : Hp} {v : Value} (hm : m ≤ n) (h : Abv n H B) (k : R_9 r n H v) : R_9 r m B v := by
  exact k
def R_3 (r : Int) (n : Nat) (H : Hp) (v : Value) : Prop := v = .int .i64 r
theorem R_3.mono {r : Int} {m n : Nat} {H B : Hp} {v : Value} (hm : m ≤ n) (h : Abv n H B) (k : R_3 r n H v) : R_3 r m B v := by
  exact k
def R_31 (r : CallT) (n : Nat) (H : Hp) (v : Value) : Prop := v = .agg ⟨[.int .i64 r.Kind, .int .i64 r.Floor, .int .i64 r.Car, .int .i64 r.At]⟩
theorem R_31.mono {r : CallT} {m n : Nat} {H B : Hp} {v : Value} (hm : m ≤ n) (h : Abv n H B) (k : R_31 r n H v) : R_31 r m B v := by
  exact k
def R_66 (r : Key) (n : Nat) (H : Hp) (v : Value) : Prop := v = .agg ⟨[.int .i64 r.kind, .int .i64 r.floor, .int .i64 r.car]⟩
theorem R_66.mono {r : Key} {m n : Nat} {H B : Hp} {v : Value} (hm : m ≤ n) (h : Abv n H B) (k : R_66 r n H v) : R_66 r m B v := by
  exact k
def R_25 (r : Int) (n : Nat) (H : Hp) (v : Value) : Prop := v = .int .i64 r
theorem R_25.mono {r : Int} {m n : Nat} {H B : Hp} {v : Value} (hm : m ≤ n) (h : Abv n H B) (k : R_25 r n H v) : R_25 r m B v := by
  exact k
def R_9_25 (r : (List UInt8) × Int) (n : Nat) (H : Hp) (v : Value) : Prop := v = .tuple ⟨[.string (bs r.1), .int .i64 r.2]⟩
theorem R_9_25.mono {r : (List UInt8) × Int} {m n : Nat} {H B : Hp} {v : Value} (hm : m ≤ n) (h : Abv n H B) (k : R_9_25 r n H v) : R_9_25 r m B v := by
  exact k
def R_9_69 (r : (List UInt8) × (List (List UInt8))) (n : Nat) (H : Hp) (v : Value) : Prop := ∃ (a1_0 : Option Addr) (c1_0 : Nat), v = .tuple ⟨[.string (bs r.1), .slice a1_0 r.2.length c1_0]⟩ ∧ SlF n H strC a1_0 c1_0 r.2
theorem R_9_69.mono {r : (List UInt8) × (List (List UInt8))} {m n : Nat} {H B : Hp} {v : Value} (hm : m ≤ n) (h : Abv n H B) (k : R_9_69 r n H v) : R_9_69 r m B v := by
  obtain ⟨a1_0, c1_0, e, f0⟩ := k; exact ⟨_, _, e, f0.mono hm h⟩
def R_31_25 (r : CallT × Int) (n : Nat) (H : Hp) (v : Value) : Prop := v = .tuple ⟨[.agg ⟨[.int .i64 r.1.Kind, .int .i64 r.1.Floor, .int .i64 r.1.Car, .int .i64 r.1.At]⟩, .int .i64 r.2]⟩
theorem R_31_25.mono {r : CallT × Int} {m n : Nat} {H B : Hp} {v : Value} (hm : m ≤ n) (h : Abv n H B) (k : R_31_25 r n H v) : R_31_25 r m B v := by
  exact k
def R_4_25 (r : Bool × Int) (n : Nat) (H : Hp) (v : Value) : Prop := v = .tuple ⟨[.bool r.1, .int .i64 r.2]⟩
theorem R_4_25.mono {r : Bool × Int} {m n : Nat} {H B : Hp} {v : Value} (hm : m ≤ n) (h : Abv n H B) (k : R_4_25 r n H v) : R_4_25 r m B v := by
  exact k
def R_3_25 (r : Int × Int) (n : Nat) (H : Hp) (v : Value) : Prop := v = .tuple ⟨[.int .i64 r.1, .int .i64 r.2]⟩
theorem R_3_25.mono {r : Int × Int} {m n : Nat} {H B : Hp} {v : Value} (hm : m ≤ n) (h : Abv n H B) (k : R_3_25 r n H v) : R_3_25 r m B v := by
  exact k
def R_3_9_4 (r : Int × (List UInt8) × Bool) (n : Nat) (H : Hp) (v : Value) : Prop := v = .tuple ⟨[.int .i64 r.1, .string (bs r.2.1), .bool r.2.2]⟩
theorem R_3_9_4.mono {r : Int × (List UInt8) × Bool} {m n : Nat} {H B : Hp} {v : Value} (hm : m ≤ n) (h : Abv n H B) (k : R_3_9_4 r n H v) : R_3_9_4 r m B v := by
  exact k
end Go.Proofs.YtbdndhodggdhkaaDoor
