import Derived.Test.YtcephcgnfmcdhaaDoorChecked
import Derived.Test.YtcephcgnfmcdhaaDoorD57
set_option linter.unusedVariables false
set_option linter.unusedSimpArgs false
namespace Go.Proofs.YtcephcgnfmcdhaaDoor
open Go Go.Det Go.RowKit
theorem gmix : Tryd.prog.follows .mixedOrders = true := by kernel_rfl
structure T47 where
  c0 : Int
  c1 : Int
  deriving DecidableEq
def T47.cs (x : T47) : List Value := [.int .i64 x.c0, .int .i64 x.c1]
def T47C : Cod T47 := .flat 2 T47.cs fun _ => rfl
theorem u40 : Tryd.prog.underlying 40 = some (.slice 3) := by kernel_rfl
theorem u43 : Tryd.prog.underlying 43 = some (.slice 47) := by kernel_rfl
theorem u52 : Tryd.prog.underlying 52 = some (.slice 9) := by kernel_rfl
theorem u66 : Tryd.prog.underlying 66 = some (.slice 5) := by kernel_rfl
theorem sz3 : sizeD Tryd.prog 3 = some 1 := by kernel_rfl
theorem by3 : bytesD Tryd.prog 3 = some 8 := by kernel_rfl
theorem ag3 : isAggD Tryd.prog 3 = some false := by kernel_rfl
theorem sz5 : sizeD Tryd.prog 5 = some 1 := by kernel_rfl
theorem by5 : bytesD Tryd.prog 5 = some 1 := by kernel_rfl
theorem ag5 : isAggD Tryd.prog 5 = some false := by kernel_rfl
theorem sz9 : sizeD Tryd.prog 9 = some 1 := by kernel_rfl
theorem by9 : bytesD Tryd.prog 9 = some 16 := by kernel_rfl
theorem ag9 : isAggD Tryd.prog 9 = some false := by kernel_rfl
theorem sz40 : sizeD Tryd.prog 40 = some 1 := by kernel_rfl
theorem by40 : bytesD Tryd.prog 40 = some 24 := by kernel_rfl
theorem ag40 : isAggD Tryd.prog 40 = some false := by kernel_rfl
theorem sz43 : sizeD Tryd.prog 43 = some 1 := by kernel_rfl
theorem by43 : bytesD Tryd.prog 43 = some 24 := by kernel_rfl
theorem ag43 : isAggD Tryd.prog 43 = some false := by kernel_rfl
theorem sz47 : sizeD Tryd.prog 47 = some 2 := by kernel_rfl
theorem by47 : bytesD Tryd.prog 47 = some 16 := by kernel_rfl
theorem ag47 : isAggD Tryd.prog 47 = some true := by kernel_rfl
theorem sz52 : sizeD Tryd.prog 52 = some 1 := by kernel_rfl
theorem by52 : bytesD Tryd.prog 52 = some 24 := by kernel_rfl
theorem ag52 : isAggD Tryd.prog 52 = some false := by kernel_rfl
theorem sz66 : sizeD Tryd.prog 66 = some 1 := by kernel_rfl
theorem by66 : bytesD Tryd.prog 66 = some 24 := by kernel_rfl
theorem ag66 : isAggD Tryd.prog 66 = some false := by kernel_rfl
theorem el40 {c : Call} (h : c.argTypes = #[40, 40]) : Elem Tryd.prog c 40 3 1 8 := ⟨by rw [h]; rfl, ⟨40, _, by rw [h]; rfl, u40, by intro k; simp⟩, u40, sz3, by3, ⟨(zeroD Tryd.prog 3).getD undef, by kernel_rfl, by kernel_rfl⟩, by decide⟩
theorem el43 {c : Call} (h : c.argTypes = #[43, 43]) : Elem Tryd.prog c 43 47 2 16 := ⟨by rw [h]; rfl, ⟨43, _, by rw [h]; rfl, u43, by intro k; simp⟩, u43, sz47, by47, ⟨(zeroD Tryd.prog 47).getD undef, by kernel_rfl, by kernel_rfl⟩, by decide⟩
theorem el52 {c : Call} (h : c.argTypes = #[52, 52]) : Elem Tryd.prog c 52 9 1 16 := ⟨by rw [h]; rfl, ⟨52, _, by rw [h]; rfl, u52, by intro k; simp⟩, u52, sz9, by9, ⟨(zeroD Tryd.prog 9).getD undef, by kernel_rfl, by kernel_rfl⟩, by decide⟩
theorem el66 {c : Call} (h : c.argTypes = #[66, 66]) : Elem Tryd.prog c 66 5 1 1 := ⟨by rw [h]; rfl, ⟨66, _, by rw [h]; rfl, u66, by intro k; simp⟩, u66, sz5, by5, ⟨(zeroD Tryd.prog 5).getD undef, by kernel_rfl, by kernel_rfl⟩, by decide⟩
theorem u8_5 : Tryd.prog.underlying 5 = some (.int .u8) := by kernel_rfl
theorem us9 : Tryd.prog.underlying 9 = some .string := by kernel_rfl
theorem ua47 : Tryd.prog.underlying 47 = some (.array 2 3) := by kernel_rfl
theorem gd47 : Tryd.prog.eqGuardType Tryd.prog.depth 47 = false := by kernel_rfl
theorem eq47 (x0 : Int) (x1 : Int) (y0 : Int) (y1 : Int) : eqT Tryd.prog 20 47 (.agg ⟨[.int .i64 x0, .int .i64 x1]⟩) (.agg ⟨[.int .i64 y0, .int .i64 y1]⟩) = some (decide ((T47.mk x0 x1) = (T47.mk y0 y1))) := by
  have h : eqT Tryd.prog 20 47 (.agg ⟨[.int .i64 x0, .int .i64 x1]⟩) (.agg ⟨[.int .i64 y0, .int .i64 y1]⟩) = some (x0 == y0 && (x1 == y1 && true)) := by kernel_rfl
  rw [h, Option.some.injEq, Bool.eq_iff_iff]; simp
def R_3 (r : Int) (n : Nat) (H : Hp) (v : Value) : Prop := v = .int .i64 r
theorem R_3.mono {r : Int} {m n : Nat} {H B : Hp} {v : Value} (hm : m ≤ n) (h : Abv n H B) (k : R_3 r n H v) : R_3 r m B v := by
  exact k
def R_9 (r : List UInt8) (n : Nat) (H : Hp) (v : Value) : Prop := v = .string (bs r)
theorem R_9.mono {r : List UInt8} {m n : Nat} {H B : Hp} {v : Value} (hm : m ≤ n) (h : Abv n H B) (k : R_9 r n H v) : R_9 r m B v := by
  exact k
def R_52 (r : List (List UInt8)) (n : Nat) (H : Hp) (v : Value) : Prop := ∃ (a0_0 : Option Addr) (c0_0 : Nat), v = .slice a0_0 r.length c0_0 ∧ SlF n H strC a0_0 c0_0 r
theorem R_52.mono {r : List (List UInt8)} {m n : Nat} {H B : Hp} {v : Value} (hm : m ≤ n) (h : Abv n H B) (k : R_52 r n H v) : R_52 r m B v := by
  obtain ⟨a0_0, c0_0, e, f0⟩ := k; exact ⟨_, _, e, f0.mono hm h⟩
def R_9_9_4 (r : (List UInt8) × (List UInt8) × Bool) (n : Nat) (H : Hp) (v : Value) : Prop := v = .tuple ⟨[.string (bs r.1), .string (bs r.2.1), .bool r.2.2]⟩
theorem R_9_9_4.mono {r : (List UInt8) × (List UInt8) × Bool} {m n : Nat} {H B : Hp} {v : Value} (hm : m ≤ n) (h : Abv n H B) (k : R_9_9_4 r n H v) : R_9_9_4 r m B v := by
  exact k
def R_40 (r : List Int) (n : Nat) (H : Hp) (v : Value) : Prop := ∃ (a0_0 : Option Addr) (c0_0 : Nat), v = .slice a0_0 r.length c0_0 ∧ SlF n H intC a0_0 c0_0 r
theorem R_40.mono {r : List Int} {m n : Nat} {H B : Hp} {v : Value} (hm : m ≤ n) (h : Abv n H B) (k : R_40 r n H v) : R_40 r m B v := by
  obtain ⟨a0_0, c0_0, e, f0⟩ := k; exact ⟨_, _, e, f0.mono hm h⟩
def R_4 (r : Bool) (n : Nat) (H : Hp) (v : Value) : Prop := v = .bool r
theorem R_4.mono {r : Bool} {m n : Nat} {H B : Hp} {v : Value} (hm : m ≤ n) (h : Abv n H B) (k : R_4 r n H v) : R_4 r m B v := by
  exact k
def R_22 (r : Int) (n : Nat) (H : Hp) (v : Value) : Prop := v = .int .u64 r
theorem R_22.mono {r : Int} {m n : Nat} {H B : Hp} {v : Value} (hm : m ≤ n) (h : Abv n H B) (k : R_22 r n H v) : R_22 r m B v := by
  exact k
def R_22_24 (r : Int × Int) (n : Nat) (H : Hp) (v : Value) : Prop := v = .tuple ⟨[.int .u64 r.1, .int .i64 r.2]⟩
theorem R_22_24.mono {r : Int × Int} {m n : Nat} {H B : Hp} {v : Value} (hm : m ≤ n) (h : Abv n H B) (k : R_22_24 r n H v) : R_22_24 r m B v := by
  exact k
def R_3_24 (r : Int × Int) (n : Nat) (H : Hp) (v : Value) : Prop := v = .tuple ⟨[.int .i64 r.1, .int .i64 r.2]⟩
theorem R_3_24.mono {r : Int × Int} {m n : Nat} {H B : Hp} {v : Value} (hm : m ≤ n) (h : Abv n H B) (k : R_3_24 r n H v) : R_3_24 r m B v := by
  exact k
def R_3_4 (r : Int × Bool) (n : Nat) (H : Hp) (v : Value) : Prop := v = .tuple ⟨[.int .i64 r.1, .bool r.2]⟩
theorem R_3_4.mono {r : Int × Bool} {m n : Nat} {H B : Hp} {v : Value} (hm : m ≤ n) (h : Abv n H B) (k : R_3_4 r n H v) : R_3_4 r m B v := by
  exact k
def R_43_4 (r : (List T47) × Bool) (n : Nat) (H : Hp) (v : Value) : Prop := ∃ (a0_0 : Option Addr) (c0_0 : Nat), v = .tuple ⟨[.slice a0_0 r.1.length c0_0, .bool r.2]⟩ ∧ SlF n H T47C a0_0 c0_0 r.1
theorem R_43_4.mono {r : (List T47) × Bool} {m n : Nat} {H B : Hp} {v : Value} (hm : m ≤ n) (h : Abv n H B) (k : R_43_4 r n H v) : R_43_4 r m B v := by
  obtain ⟨a0_0, c0_0, e, f0⟩ := k; exact ⟨_, _, e, f0.mono hm h⟩
def R_3_3 (r : Int × Int) (n : Nat) (H : Hp) (v : Value) : Prop := v = .tuple ⟨[.int .i64 r.1, .int .i64 r.2]⟩
theorem R_3_3.mono {r : Int × Int} {m n : Nat} {H B : Hp} {v : Value} (hm : m ≤ n) (h : Abv n H B) (k : R_3_3 r n H v) : R_3_3 r m B v := by
  exact k
end Go.Proofs.YtcephcgnfmcdhaaDoor
