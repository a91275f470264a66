import Derived.Test.YtenddpplfdgcfaaDoorChecked
import Derived.Test.YtenddpplfdgcfaaDoorD61
set_option linter.unusedVariables false
set_option linter.unusedSimpArgs false
namespace Go.Proofs.YtenddpplfdgcfaaDoor
open Go Go.Det Go.RowKit
theorem gmix : Tryd.prog.follows .mixedOrders = true := by kernel_rfl
structure Sight where
  Floor : Int
  Panel : Int
  Out : Bool
  deriving DecidableEq
def Sight.cs (x : Sight) : List Value := [.int .i64 x.Floor, .int .i64 x.Panel, .bool x.Out]
def SightC : Cod Sight := .flat 3 Sight.cs fun _ => rfl
structure Shown where
  Domain : Int
  Service : Bool
  Faulted : Bool
  Homing : Bool
  At : Int
  Panel : Int
  deriving DecidableEq
def Shown.cs (x : Shown) : List Value := [.int .i64 x.Domain, .bool x.Service, .bool x.Faulted, .bool x.Homing, .int .i64 x.At, .int .i64 x.Panel]
def ShownC : Cod Shown := .flat 6 Shown.cs fun _ => rfl
theorem u31 : Tryd.prog.underlying 31 = some (.slice 3) := by kernel_rfl
theorem u42 : Tryd.prog.underlying 42 = some (.slice 9) := by kernel_rfl
theorem u52 : Tryd.prog.underlying 52 = some (.slice 23) := by kernel_rfl
theorem u55 : Tryd.prog.underlying 55 = some (.slice 33) := by kernel_rfl
theorem u76 : Tryd.prog.underlying 76 = some (.slice 81) := by kernel_rfl
theorem sz3 : sizeD Tryd.prog 3 = some 1 := by kernel_rfl
theorem by3 : bytesD Tryd.prog 3 = some 8 := by kernel_rfl
theorem ag3 : isAggD Tryd.prog 3 = some false := by kernel_rfl
theorem sz9 : sizeD Tryd.prog 9 = some 1 := by kernel_rfl
theorem by9 : bytesD Tryd.prog 9 = some 16 := by kernel_rfl
theorem ag9 : isAggD Tryd.prog 9 = some false := by kernel_rfl
theorem sz23 : sizeD Tryd.prog 23 = some 3 := by kernel_rfl
theorem by23 : bytesD Tryd.prog 23 = some 24 := by kernel_rfl
theorem ag23 : isAggD Tryd.prog 23 = some true := by kernel_rfl
theorem sz31 : sizeD Tryd.prog 31 = some 1 := by kernel_rfl
theorem by31 : bytesD Tryd.prog 31 = some 24 := by kernel_rfl
theorem ag31 : isAggD Tryd.prog 31 = some false := by kernel_rfl
theorem sz33 : sizeD Tryd.prog 33 = some 6 := by kernel_rfl
theorem by33 : bytesD Tryd.prog 33 = some 32 := by kernel_rfl
theorem ag33 : isAggD Tryd.prog 33 = some true := by kernel_rfl
theorem sz42 : sizeD Tryd.prog 42 = some 1 := by kernel_rfl
theorem by42 : bytesD Tryd.prog 42 = some 24 := by kernel_rfl
theorem ag42 : isAggD Tryd.prog 42 = some false := by kernel_rfl
theorem sz52 : sizeD Tryd.prog 52 = some 1 := by kernel_rfl
theorem by52 : bytesD Tryd.prog 52 = some 24 := by kernel_rfl
theorem ag52 : isAggD Tryd.prog 52 = some false := by kernel_rfl
theorem sz55 : sizeD Tryd.prog 55 = some 1 := by kernel_rfl
theorem by55 : bytesD Tryd.prog 55 = some 24 := by kernel_rfl
theorem ag55 : isAggD Tryd.prog 55 = some false := by kernel_rfl
theorem sz76 : sizeD Tryd.prog 76 = some 1 := by kernel_rfl
theorem by76 : bytesD Tryd.prog 76 = some 24 := by kernel_rfl
theorem ag76 : isAggD Tryd.prog 76 = some false := by kernel_rfl
theorem sz81 : sizeD Tryd.prog 81 = some 2 := by kernel_rfl
theorem by81 : bytesD Tryd.prog 81 = some 16 := by kernel_rfl
theorem ag81 : isAggD Tryd.prog 81 = some true := by kernel_rfl
theorem el31 {c : Call} (h : c.argTypes = #[31, 31]) : Elem Tryd.prog c 31 3 1 8 := ⟨by rw [h]; rfl, ⟨31, _, by rw [h]; rfl, u31, by intro k; simp⟩, u31, sz3, by3, ⟨(zeroD Tryd.prog 3).getD undef, by kernel_rfl, by kernel_rfl⟩, by decide⟩
theorem el42 {c : Call} (h : c.argTypes = #[42, 42]) : Elem Tryd.prog c 42 9 1 16 := ⟨by rw [h]; rfl, ⟨42, _, by rw [h]; rfl, u42, by intro k; simp⟩, u42, sz9, by9, ⟨(zeroD Tryd.prog 9).getD undef, by kernel_rfl, by kernel_rfl⟩, by decide⟩
theorem el52 {c : Call} (h : c.argTypes = #[52, 52]) : Elem Tryd.prog c 52 23 3 24 := ⟨by rw [h]; rfl, ⟨52, _, by rw [h]; rfl, u52, by intro k; simp⟩, u52, sz23, by23, ⟨(zeroD Tryd.prog 23).getD undef, by kernel_rfl, by kernel_rfl⟩, by decide⟩
theorem el55 {c : Call} (h : c.argTypes = #[55, 55]) : Elem Tryd.prog c 55 33 6 32 := ⟨by rw [h]; rfl, ⟨55, _, by rw [h]; rfl, u55, by intro k; simp⟩, u55, sz33, by33, ⟨(zeroD Tryd.prog 33).getD undef, by kernel_rfl, by kernel_rfl⟩, by decide⟩
theorem el76 {c : Call} (h : c.argTypes = #[76, 76]) : Elem Tryd.prog c 76 81 2 16 := ⟨by rw [h]; rfl, ⟨76, _, by rw [h]; rfl, u76, by intro k; simp⟩, u76, sz81, by81, ⟨(zeroD Tryd.prog 81).getD undef, by kernel_rfl, by kernel_rfl⟩, by decide⟩
theorem ui60 : Tryd.prog.underlying 60 = some (.interface ((match Tryd.prog.underlying 60 with | some (.interface w) => w | _ => #[]))) := by kernel_rfl
theorem us9 : Tryd.prog.underlying 9 = some .string := by kernel_rfl
theorem gd23 : Tryd.prog.eqGuardType Tryd.prog.depth 23 = false := by kernel_rfl
theorem eq23 (x0 : Int) (x1 : Int) (x2 : Bool) (y0 : Int) (y1 : Int) (y2 : Bool) : eqT Tryd.prog 20 23 (.agg ⟨[.int .i64 x0, .int .i64 x1, .bool x2]⟩) (.agg ⟨[.int .i64 y0, .int .i64 y1, .bool y2]⟩) = some (decide ((Sight.mk x0 x1 x2) = (Sight.mk y0 y1 y2))) := by
  have h : eqT Tryd.prog 20 23 (.agg ⟨[.int .i64 x0, .int .i64 x1, .bool x2]⟩) (.agg ⟨[.int .i64 y0, .int .i64 y1, .bool y2]⟩) = some (x0 == y0 && (x1 == y1 && (x2 == y2 && true))) := by kernel_rfl
  rw [h, Option.some.injEq, Bool.eq_iff_iff]; simp
def R_4 (r : Bool) (n : Nat) (H : Hp) (v : Value) : Prop := v = .bool r
theorem R_4.mono {r : Bool} {m n : Nat} {H B : Hp} {v : Value} (hm : m ≤ n) (h : Abv n H B) (k : R_4 r n H v) : R_4 r m B v := by
  exact k
def R_9 (r : List UInt8) (n : Nat) (H : Hp) (v : Value) : Prop := v = .string (bs r)
theorem R_9.mono {r : List UInt8} {m n : Nat} {H B : Hp} {v : Value} (hm : m ≤ n) (h : Abv n H B) (k : R_9 r n H v) : R_9 r m B v := by
  exact k
def R_9_9_4 (r : (List UInt8) × (List UInt8) × Bool) (n : Nat) (H : Hp) (v : Value) : Prop := v = .tuple ⟨[.string (bs r.1), .string (bs r.2.1), .bool r.2.2]⟩
theorem R_9_9_4.mono {r : (List UInt8) × (List UInt8) × Bool} {m n : Nat} {H B : Hp} {v : Value} (hm : m ≤ n) (h : Abv n H B) (k : R_9_9_4 r n H v) : R_9_9_4 r m B v := by
  exact k
def R_3_60 (r : Int × Bool) (n : Nat) (H : Hp) (v : Value) : Prop := ∃ y : Value, v = .tuple ⟨[.int .i64 r.1, y]⟩ ∧ errR r.2 y
theorem R_3_60.mono {r : Int × Bool} {m n : Nat} {H B : Hp} {v : Value} (hm : m ≤ n) (h : Abv n H B) (k : R_3_60 r n H v) : R_3_60 r m B v := k
def R_9_25 (r : (List UInt8) × Int) (n : Nat) (H : Hp) (v : Value) : Prop := v = .tuple ⟨[.string (bs r.1), .int .i64 r.2]⟩
theorem R_9_25.mono {r : (List UInt8) × Int} {m n : Nat} {H B : Hp} {v : Value} (hm : m ≤ n) (h : Abv n H B) (k : R_9_25 r n H v) : R_9_25 r m B v := by
  exact k
def R_3_4 (r : Int × Bool) (n : Nat) (H : Hp) (v : Value) : Prop := v = .tuple ⟨[.int .i64 r.1, .bool r.2]⟩
theorem R_3_4.mono {r : Int × Bool} {m n : Nat} {H B : Hp} {v : Value} (hm : m ≤ n) (h : Abv n H B) (k : R_3_4 r n H v) : R_3_4 r m B v := by
  exact k
def R_23_25 (r : Sight × Int) (n : Nat) (H : Hp) (v : Value) : Prop := v = .tuple ⟨[.agg ⟨[.int .i64 r.1.Floor, .int .i64 r.1.Panel, .bool r.1.Out]⟩, .int .i64 r.2]⟩
theorem R_23_25.mono {r : Sight × Int} {m n : Nat} {H B : Hp} {v : Value} (hm : m ≤ n) (h : Abv n H B) (k : R_23_25 r n H v) : R_23_25 r m B v := by
  exact k
def R_3 (r : Int) (n : Nat) (H : Hp) (v : Value) : Prop := v = .int .i64 r
theorem R_3.mono {r : Int} {m n : Nat} {H B : Hp} {v : Value} (hm : m ≤ n) (h : Abv n H B) (k : R_3 r n H v) : R_3 r m B v := by
  exact k
def R_31_33 (r : (List Int) × Shown) (n : Nat) (H : Hp) (v : Value) : Prop := ∃ (a0_0 : Option Addr) (c0_0 : Nat), v = .tuple ⟨[.slice a0_0 r.1.length c0_0, .agg ⟨[.int .i64 r.2.Domain, .bool r.2.Service, .bool r.2.Faulted, .bool r.2.Homing, .int .i64 r.2.At, .int .i64 r.2.Panel]⟩]⟩ ∧ SlF n H intC a0_0 c0_0 r.1
theorem R_31_33.mono {r : (List Int) × Shown} {m n : Nat} {H B : Hp} {v : Value} (hm : m ≤ n) (h : Abv n H B) (k : R_31_33 r n H v) : R_31_33 r m B v := by
  obtain ⟨a0_0, c0_0, e, f0⟩ := k; exact ⟨_, _, e, f0.mono hm h⟩
def R_25_3 (r : Int × Int) (n : Nat) (H : Hp) (v : Value) : Prop := v = .tuple ⟨[.int .i64 r.1, .int .i64 r.2]⟩
theorem R_25_3.mono {r : Int × Int} {m n : Nat} {H B : Hp} {v : Value} (hm : m ≤ n) (h : Abv n H B) (k : R_25_3 r n H v) : R_25_3 r m B v := by
  exact k
def R_31_25 (r : (List Int) × Int) (n : Nat) (H : Hp) (v : Value) : Prop := ∃ (a0_0 : Option Addr) (c0_0 : Nat), v = .tuple ⟨[.slice a0_0 r.1.length c0_0, .int .i64 r.2]⟩ ∧ SlF n H intC a0_0 c0_0 r.1
theorem R_31_25.mono {r : (List Int) × Int} {m n : Nat} {H B : Hp} {v : Value} (hm : m ≤ n) (h : Abv n H B) (k : R_31_25 r n H v) : R_31_25 r m B v := by
  obtain ⟨a0_0, c0_0, e, f0⟩ := k; exact ⟨_, _, e, f0.mono hm h⟩
def R_3_25 (r : Int × Int) (n : Nat) (H : Hp) (v : Value) : Prop := v = .tuple ⟨[.int .i64 r.1, .int .i64 r.2]⟩
theorem R_3_25.mono {r : Int × Int} {m n : Nat} {H B : Hp} {v : Value} (hm : m ≤ n) (h : Abv n H B) (k : R_3_25 r n H v) : R_3_25 r m B v := by
  exact k
def R_25 (r : Int) (n : Nat) (H : Hp) (v : Value) : Prop := v = .int .i64 r
theorem R_25.mono {r : Int} {m n : Nat} {H B : Hp} {v : Value} (hm : m ≤ n) (h : Abv n H B) (k : R_25 r n H v) : R_25 r m B v := by
  exact k
def R_23 (r : Sight) (n : Nat) (H : Hp) (v : Value) : Prop := v = .agg ⟨[.int .i64 r.Floor, .int .i64 r.Panel, .bool r.Out]⟩
theorem R_23.mono {r : Sight} {m n : Nat} {H B : Hp} {v : Value} (hm : m ≤ n) (h : Abv n H B) (k : R_23 r n H v) : R_23 r m B v := by
  exact k
def R_52_25 (r : (List Sight) × Int) (n : Nat) (H : Hp) (v : Value) : Prop := ∃ (a0_0 : Option Addr) (c0_0 : Nat), v = .tuple ⟨[.slice a0_0 r.1.length c0_0, .int .i64 r.2]⟩ ∧ SlF n H SightC a0_0 c0_0 r.1
theorem R_52_25.mono {r : (List Sight) × Int} {m n : Nat} {H B : Hp} {v : Value} (hm : m ≤ n) (h : Abv n H B) (k : R_52_25 r n H v) : R_52_25 r m B v := by
  obtain ⟨a0_0, c0_0, e, f0⟩ := k; exact ⟨_, _, e, f0.mono hm h⟩
def R_33 (r : Shown) (n : Nat) (H : Hp) (v : Value) : Prop := v = .agg ⟨[.int .i64 r.Domain, .bool r.Service, .bool r.Faulted, .bool r.Homing, .int .i64 r.At, .int .i64 r.Panel]⟩
theorem R_33.mono {r : Shown} {m n : Nat} {H B : Hp} {v : Value} (hm : m ≤ n) (h : Abv n H B) (k : R_33 r n H v) : R_33 r m B v := by
  exact k
def R_31 (r : List Int) (n : Nat) (H : Hp) (v : Value) : Prop := ∃ (a0_0 : Option Addr) (c0_0 : Nat), v = .slice a0_0 r.length c0_0 ∧ SlF n H intC a0_0 c0_0 r
theorem R_31.mono {r : List Int} {m n : Nat} {H B : Hp} {v : Value} (hm : m ≤ n) (h : Abv n H B) (k : R_31 r n H v) : R_31 r m B v := by
  obtain ⟨a0_0, c0_0, e, f0⟩ := k; exact ⟨_, _, e, f0.mono hm h⟩
end Go.Proofs.YtenddpplfdgcfaaDoor
