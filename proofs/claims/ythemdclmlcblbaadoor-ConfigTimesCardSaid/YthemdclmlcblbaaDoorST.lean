import Derived.Test.YthemdclmlcblbaaDoorChecked
import Derived.Test.YthemdclmlcblbaaDoorD68
import Derived.Test.YthemdclmlcblbaaDoorD62
import Derived.Shelf.Spec.TrailingZeros
set_option linter.unusedVariables false
set_option linter.unusedSimpArgs false
namespace Go.Proofs.YthemdclmlcblbaaDoor
open Go Go.Det Go.RowKit
theorem gmix : Tryd.prog.follows .mixedOrders = true := by kernel_rfl
structure Config where
  Floors : Int
  Gaps : List Int
  Cars : Int
  Speed : Int
  Brake : Int
  Tol : Int
  Width : Int
  Dwell : Int
  Retries : Int
  Empty : Int
  Full : Int
  Trips : Int
  Slots : Int
  Rota : List (List Int)
  Rules_0_Mask : Int
  Rules_0_Home : Int
  Rules_0_Calls : Int
  Rules_1_Mask : Int
  Rules_1_Home : Int
  Rules_1_Calls : Int
  Rules_2_Mask : Int
  Rules_2_Home : Int
  Rules_2_Calls : Int
  Keys : List Int
  Life : Int
  deriving DecidableEq
def ConfigC : Cod Config := { sz := 25, rep := fun n H cs x => ∃ (a_0 : Option Addr) (c_0 : Nat) (a_1 : Option Addr) (c_1 : Nat) (a_2 : Option Addr) (c_2 : Nat), cs = [.int .i64 x.Floors, .slice a_0 x.Gaps.length c_0, .int .i64 x.Cars, .int .i64 x.Speed, .int .i64 x.Brake, .int .i64 x.Tol, .int .i64 x.Width, .int .i64 x.Dwell, .int .i64 x.Retries, .int .i64 x.Empty, .int .i64 x.Full, .int .i64 x.Trips, .int .i64 x.Slots, .slice a_1 x.Rota.length c_1, .int .u64 x.Rules_0_Mask, .int .i64 x.Rules_0_Home, .int .i64 x.Rules_0_Calls, .int .u64 x.Rules_1_Mask, .int .i64 x.Rules_1_Home, .int .i64 x.Rules_1_Calls, .int .u64 x.Rules_2_Mask, .int .i64 x.Rules_2_Home, .int .i64 x.Rules_2_Calls, .slice a_2 x.Keys.length c_2, .int .i64 x.Life] ∧ SlF n H intC a_0 c_0 x.Gaps ∧ SlF n H (slC intC) a_1 c_1 x.Rota ∧ SlF n H intC a_2 c_2 x.Keys, len := (by rintro n H cs x ⟨a_0, c_0, a_1, c_1, a_2, c_2, e, f0, f1, f2⟩; rw [e]; rfl), mono := (by rintro m n H H' cs x hm h ⟨a_0, c_0, a_1, c_1, a_2, c_2, e, f0, f1, f2⟩; exact ⟨_, _, _, _, _, _, e, f0.mono hm h, f1.mono hm h, f2.mono hm h⟩) }
structure DoorRule where
  Width : Int
  Dwell : Int
  Retries : Int
  deriving DecidableEq
def DoorRule.cs (x : DoorRule) : List Value := [.int .i64 x.Width, .int .i64 x.Dwell, .int .i64 x.Retries]
def DoorRuleC : Cod DoorRule := .flat 3 DoorRule.cs fun _ => rfl
structure Times where
  Move : Int
  Door : Int
  Trip : Int
  Slot : Int
  Cycle : Int
  deriving DecidableEq
def Times.cs (x : Times) : List Value := [.int .i64 x.Move, .int .i64 x.Door, .int .i64 x.Trip, .int .i64 x.Slot, .int .i64 x.Cycle]
def TimesC : Cod Times := .flat 5 Times.cs fun _ => rfl
structure RuleT where
  Mask : Int
  Home : Int
  Calls : Int
  deriving DecidableEq
def RuleT.cs (x : RuleT) : List Value := [.int .u64 x.Mask, .int .i64 x.Home, .int .i64 x.Calls]
def RuleTC : Cod RuleT := .flat 3 RuleT.cs fun _ => rfl
structure T27 where
  c0_Mask : Int
  c0_Home : Int
  c0_Calls : Int
  c1_Mask : Int
  c1_Home : Int
  c1_Calls : Int
  c2_Mask : Int
  c2_Home : Int
  c2_Calls : Int
  deriving DecidableEq
def T27.cs (x : T27) : List Value := [.int .u64 x.c0_Mask, .int .i64 x.c0_Home, .int .i64 x.c0_Calls, .int .u64 x.c1_Mask, .int .i64 x.c1_Home, .int .i64 x.c1_Calls, .int .u64 x.c2_Mask, .int .i64 x.c2_Home, .int .i64 x.c2_Calls]
def T27C : Cod T27 := .flat 9 T27.cs fun _ => rfl
theorem u22 : Tryd.prog.underlying 22 = some (.slice 3) := by kernel_rfl
theorem u23 : Tryd.prog.underlying 23 = some (.slice 22) := by kernel_rfl
theorem u55 : Tryd.prog.underlying 55 = some (.slice 60) := by kernel_rfl
theorem sz3 : sizeD Tryd.prog 3 = some 1 := by kernel_rfl
theorem by3 : bytesD Tryd.prog 3 = some 8 := by kernel_rfl
theorem ag3 : isAggD Tryd.prog 3 = some false := by kernel_rfl
theorem sz22 : sizeD Tryd.prog 22 = some 1 := by kernel_rfl
theorem by22 : bytesD Tryd.prog 22 = some 24 := by kernel_rfl
theorem ag22 : isAggD Tryd.prog 22 = some false := by kernel_rfl
theorem sz23 : sizeD Tryd.prog 23 = some 1 := by kernel_rfl
theorem by23 : bytesD Tryd.prog 23 = some 24 := by kernel_rfl
theorem ag23 : isAggD Tryd.prog 23 = some false := by kernel_rfl
theorem sz24 : sizeD Tryd.prog 24 = some 1 := by kernel_rfl
theorem by24 : bytesD Tryd.prog 24 = some 8 := by kernel_rfl
theorem ag24 : isAggD Tryd.prog 24 = some false := by kernel_rfl
theorem sz26 : sizeD Tryd.prog 26 = some 3 := by kernel_rfl
theorem by26 : bytesD Tryd.prog 26 = some 24 := by kernel_rfl
theorem ag26 : isAggD Tryd.prog 26 = some true := by kernel_rfl
theorem sz55 : sizeD Tryd.prog 55 = some 1 := by kernel_rfl
theorem by55 : bytesD Tryd.prog 55 = some 24 := by kernel_rfl
theorem ag55 : isAggD Tryd.prog 55 = some false := by kernel_rfl
theorem sz60 : sizeD Tryd.prog 60 = some 4 := by kernel_rfl
theorem by60 : bytesD Tryd.prog 60 = some 40 := by kernel_rfl
theorem ag60 : isAggD Tryd.prog 60 = some true := by kernel_rfl
theorem el22 {c : Call} (h : c.argTypes = #[22, 22]) : Elem Tryd.prog c 22 3 1 8 := ⟨by rw [h]; rfl, ⟨22, _, by rw [h]; rfl, u22, by intro k; simp⟩, u22, sz3, by3, ⟨(zeroD Tryd.prog 3).getD undef, by kernel_rfl, by kernel_rfl⟩, by decide⟩
theorem el23 {c : Call} (h : c.argTypes = #[23, 23]) : Elem Tryd.prog c 23 22 1 24 := ⟨by rw [h]; rfl, ⟨23, _, by rw [h]; rfl, u23, by intro k; simp⟩, u23, sz22, by22, ⟨(zeroD Tryd.prog 22).getD undef, by kernel_rfl, by kernel_rfl⟩, by decide⟩
theorem el55 {c : Call} (h : c.argTypes = #[55, 55]) : Elem Tryd.prog c 55 60 4 40 := ⟨by rw [h]; rfl, ⟨55, _, by rw [h]; rfl, u55, by intro k; simp⟩, u55, sz60, by60, ⟨(zeroD Tryd.prog 60).getD undef, by kernel_rfl, by kernel_rfl⟩, by decide⟩
theorem ua27 : Tryd.prog.underlying 27 = some (.array 3 26) := by kernel_rfl
theorem gd27 : Tryd.prog.eqGuardType Tryd.prog.depth 27 = false := by kernel_rfl
theorem eq27 (x0 : Int) (x1 : Int) (x2 : Int) (x3 : Int) (x4 : Int) (x5 : Int) (x6 : Int) (x7 : Int) (x8 : Int) (y0 : Int) (y1 : Int) (y2 : Int) (y3 : Int) (y4 : Int) (y5 : Int) (y6 : Int) (y7 : Int) (y8 : Int) : eqT Tryd.prog 20 27 (.agg ⟨[.int .u64 x0, .int .i64 x1, .int .i64 x2, .int .u64 x3, .int .i64 x4, .int .i64 x5, .int .u64 x6, .int .i64 x7, .int .i64 x8]⟩) (.agg ⟨[.int .u64 y0, .int .i64 y1, .int .i64 y2, .int .u64 y3, .int .i64 y4, .int .i64 y5, .int .u64 y6, .int .i64 y7, .int .i64 y8]⟩) = some (decide ((T27.mk x0 x1 x2 x3 x4 x5 x6 x7 x8) = (T27.mk y0 y1 y2 y3 y4 y5 y6 y7 y8))) := by
  have h : eqT Tryd.prog 20 27 (.agg ⟨[.int .u64 x0, .int .i64 x1, .int .i64 x2, .int .u64 x3, .int .i64 x4, .int .i64 x5, .int .u64 x6, .int .i64 x7, .int .i64 x8]⟩) (.agg ⟨[.int .u64 y0, .int .i64 y1, .int .i64 y2, .int .u64 y3, .int .i64 y4, .int .i64 y5, .int .u64 y6, .int .i64 y7, .int .i64 y8]⟩) = some ((x0 == y0 && (x1 == y1 && (x2 == y2 && true))) && ((x3 == y3 && (x4 == y4 && (x5 == y5 && true))) && ((x6 == y6 && (x7 == y7 && (x8 == y8 && true))) && true))) := by kernel_rfl
  rw [h, Option.some.injEq, Bool.eq_iff_iff]; simp [and_assoc]
theorem gd34 : Tryd.prog.eqGuardType Tryd.prog.depth 34 = false := by kernel_rfl
theorem eq34 (x0 : Int) (x1 : Int) (x2 : Int) (x3 : Int) (x4 : Int) (y0 : Int) (y1 : Int) (y2 : Int) (y3 : Int) (y4 : Int) : eqT Tryd.prog 20 34 (.agg ⟨[.int .i64 x0, .int .i64 x1, .int .i64 x2, .int .i64 x3, .int .i64 x4]⟩) (.agg ⟨[.int .i64 y0, .int .i64 y1, .int .i64 y2, .int .i64 y3, .int .i64 y4]⟩) = some (decide ((Times.mk x0 x1 x2 x3 x4) = (Times.mk y0 y1 y2 y3 y4))) := by
  have h : eqT Tryd.prog 20 34 (.agg ⟨[.int .i64 x0, .int .i64 x1, .int .i64 x2, .int .i64 x3, .int .i64 x4]⟩) (.agg ⟨[.int .i64 y0, .int .i64 y1, .int .i64 y2, .int .i64 y3, .int .i64 y4]⟩) = some (x0 == y0 && (x1 == y1 && (x2 == y2 && (x3 == y3 && (x4 == y4 && true))))) := by kernel_rfl
  rw [h, Option.some.injEq, Bool.eq_iff_iff]; simp [and_assoc]
def R_4 (r : Bool) (n : Nat) (H : Hp) (v : Value) : Prop := v = .bool r
theorem R_4.mono {r : Bool} {m n : Nat} {H B : Hp} {v : Value} (hm : m ≤ n) (h : Abv n H B) (k : R_4 r n H v) : R_4 r m B v := by
  exact k
def R_3 (r : Int) (n : Nat) (H : Hp) (v : Value) : Prop := v = .int .i64 r
theorem R_3.mono {r : Int} {m n : Nat} {H B : Hp} {v : Value} (hm : m ≤ n) (h : Abv n H B) (k : R_3 r n H v) : R_3 r m B v := by
  exact k
def R_24 (r : Int) (n : Nat) (H : Hp) (v : Value) : Prop := v = .int .u64 r
theorem R_24.mono {r : Int} {m n : Nat} {H B : Hp} {v : Value} (hm : m ≤ n) (h : Abv n H B) (k : R_24 r n H v) : R_24 r m B v := by
  exact k
def R_24_35 (r : Int × Int) (n : Nat) (H : Hp) (v : Value) : Prop := v = .tuple ⟨[.int .u64 r.1, .int .i64 r.2]⟩
theorem R_24_35.mono {r : Int × Int} {m n : Nat} {H B : Hp} {v : Value} (hm : m ≤ n) (h : Abv n H B) (k : R_24_35 r n H v) : R_24_35 r m B v := by
  exact k
def R_35 (r : Int) (n : Nat) (H : Hp) (v : Value) : Prop := v = .int .i64 r
theorem R_35.mono {r : Int} {m n : Nat} {H B : Hp} {v : Value} (hm : m ≤ n) (h : Abv n H B) (k : R_35 r n H v) : R_35 r m B v := by
  exact k
def R_35_3 (r : Int × Int) (n : Nat) (H : Hp) (v : Value) : Prop := v = .tuple ⟨[.int .i64 r.1, .int .i64 r.2]⟩
theorem R_35_3.mono {r : Int × Int} {m n : Nat} {H B : Hp} {v : Value} (hm : m ≤ n) (h : Abv n H B) (k : R_35_3 r n H v) : R_35_3 r m B v := by
  exact k
def R_22_35 (r : (List Int) × Int) (n : Nat) (H : Hp) (v : Value) : Prop := ∃ (a0_0 : Option Addr) (c0_0 : Nat), v = .tuple ⟨[.slice a0_0 r.1.length c0_0, .int .i64 r.2]⟩ ∧ SlF n H intC a0_0 c0_0 r.1
theorem R_22_35.mono {r : (List Int) × Int} {m n : Nat} {H B : Hp} {v : Value} (hm : m ≤ n) (h : Abv n H B) (k : R_22_35 r n H v) : R_22_35 r m B v := by
  obtain ⟨a0_0, c0_0, e, f0⟩ := k; exact ⟨_, _, e, f0.mono hm h⟩
def R_3_35 (r : Int × Int) (n : Nat) (H : Hp) (v : Value) : Prop := v = .tuple ⟨[.int .i64 r.1, .int .i64 r.2]⟩
theorem R_3_35.mono {r : Int × Int} {m n : Nat} {H B : Hp} {v : Value} (hm : m ≤ n) (h : Abv n H B) (k : R_3_35 r n H v) : R_3_35 r m B v := by
  exact k
def R_3_4 (r : Int × Bool) (n : Nat) (H : Hp) (v : Value) : Prop := v = .tuple ⟨[.int .i64 r.1, .bool r.2]⟩
theorem R_3_4.mono {r : Int × Bool} {m n : Nat} {H B : Hp} {v : Value} (hm : m ≤ n) (h : Abv n H B) (k : R_3_4 r n H v) : R_3_4 r m B v := by
  exact k
def R_3_3 (r : Int × Int) (n : Nat) (H : Hp) (v : Value) : Prop := v = .tuple ⟨[.int .i64 r.1, .int .i64 r.2]⟩
theorem R_3_3.mono {r : Int × Int} {m n : Nat} {H B : Hp} {v : Value} (hm : m ≤ n) (h : Abv n H B) (k : R_3_3 r n H v) : R_3_3 r m B v := by
  exact k
def R_34_35 (r : Times × Int) (n : Nat) (H : Hp) (v : Value) : Prop := v = .tuple ⟨[.agg ⟨[.int .i64 r.1.Move, .int .i64 r.1.Door, .int .i64 r.1.Trip, .int .i64 r.1.Slot, .int .i64 r.1.Cycle]⟩, .int .i64 r.2]⟩
theorem R_34_35.mono {r : Times × Int} {m n : Nat} {H B : Hp} {v : Value} (hm : m ≤ n) (h : Abv n H B) (k : R_34_35 r n H v) : R_34_35 r m B v := by
  exact k
def R_22 (r : List Int) (n : Nat) (H : Hp) (v : Value) : Prop := ∃ (a0_0 : Option Addr) (c0_0 : Nat), v = .slice a0_0 r.length c0_0 ∧ SlF n H intC a0_0 c0_0 r
theorem R_22.mono {r : List Int} {m n : Nat} {H B : Hp} {v : Value} (hm : m ≤ n) (h : Abv n H B) (k : R_22 r n H v) : R_22 r m B v := by
  obtain ⟨a0_0, c0_0, e, f0⟩ := k; exact ⟨_, _, e, f0.mono hm h⟩
def R_29 (r : Config) (n : Nat) (H : Hp) (v : Value) : Prop := ∃ (a0_0 : Option Addr) (c0_0 : Nat) (a0_1 : Option Addr) (c0_1 : Nat) (a0_2 : Option Addr) (c0_2 : Nat), v = .agg ⟨[.int .i64 r.Floors, .slice a0_0 r.Gaps.length c0_0, .int .i64 r.Cars, .int .i64 r.Speed, .int .i64 r.Brake, .int .i64 r.Tol, .int .i64 r.Width, .int .i64 r.Dwell, .int .i64 r.Retries, .int .i64 r.Empty, .int .i64 r.Full, .int .i64 r.Trips, .int .i64 r.Slots, .slice a0_1 r.Rota.length c0_1, .int .u64 r.Rules_0_Mask, .int .i64 r.Rules_0_Home, .int .i64 r.Rules_0_Calls, .int .u64 r.Rules_1_Mask, .int .i64 r.Rules_1_Home, .int .i64 r.Rules_1_Calls, .int .u64 r.Rules_2_Mask, .int .i64 r.Rules_2_Home, .int .i64 r.Rules_2_Calls, .slice a0_2 r.Keys.length c0_2, .int .i64 r.Life]⟩ ∧ SlF n H intC a0_0 c0_0 r.Gaps ∧ SlF n H (slC intC) a0_1 c0_1 r.Rota ∧ SlF n H intC a0_2 c0_2 r.Keys
theorem R_29.mono {r : Config} {m n : Nat} {H B : Hp} {v : Value} (hm : m ≤ n) (h : Abv n H B) (k : R_29 r n H v) : R_29 r m B v := by
  obtain ⟨a0_0, c0_0, a0_1, c0_1, a0_2, c0_2, e, f0, f1, f2⟩ := k; exact ⟨_, _, _, _, _, _, e, f0.mono hm h, f1.mono hm h, f2.mono hm h⟩
def R_26_22_35 (r : RuleT × (List Int) × Int) (n : Nat) (H : Hp) (v : Value) : Prop := ∃ (a1_0 : Option Addr) (c1_0 : Nat), v = .tuple ⟨[.agg ⟨[.int .u64 r.1.Mask, .int .i64 r.1.Home, .int .i64 r.1.Calls]⟩, .slice a1_0 r.2.1.length c1_0, .int .i64 r.2.2]⟩ ∧ SlF n H intC a1_0 c1_0 r.2.1
theorem R_26_22_35.mono {r : RuleT × (List Int) × Int} {m n : Nat} {H B : Hp} {v : Value} (hm : m ≤ n) (h : Abv n H B) (k : R_26_22_35 r n H v) : R_26_22_35 r m B v := by
  obtain ⟨a1_0, c1_0, e, f0⟩ := k; exact ⟨_, _, e, f0.mono hm h⟩
end Go.Proofs.YthemdclmlcblbaaDoor

set_option linter.unusedVariables false
namespace Go.Proofs.YthemdclmlcblbaaDoor
open Go Go.Det Go.RowKit
/-! What is checked of the chapter's examples, by a run of the abstract machine in the kernel -/
theorem seatOk : (seatCells.all fun p => Nat.blt p.1 Tryd.prog.globals.size) = true := by kernel_rfl
theorem seatFl : seatFlat = true := by kernel_rfl
theorem awake_run : (callE Tryd.prog (evC2 Tryd.prog 2000) 5 [] (HG Tryd.prog.globals.size)).map (fun p => p.1) = some (.ret (.bool true)) := by kernel_rfl
def f5 : Option Bool := some true
theorem f5_ok {H : Hp} {r : Bool} (hp : f5 = some r) : SCall Tryd.prog 5 [] H (Ret fun v H' => Ext H H' ∧ R_4 r H.next H' v) := by
  obtain rfl := Option.some.inj hp
  exact (SCall.closed2 2000 seatFl seatOk awake_run rfl rfl H).mono fun _ _ ⟨v, h1, h2, h3⟩ => ⟨v, h1, by subst h2 h3; exact ⟨Ext.refl _, rfl⟩⟩
/-! The library's own -/
theorem SCall.flatR {P : Program} {f : FuncId} {args : List Value} {v : Value} {R : Value → Hp → Prop} {H : Hp} (h : SCall P f args H (Ret fun v' H' => H' = H ∧ v' = v)) (hR : ∀ H, R v H) : SCall P f args H (Ret fun v' H' => Ext H H' ∧ R v' H') :=
  h.mono fun _ _ ⟨_, h1, h2, h3⟩ => by subst h2 h3; exact ⟨_, h1, Ext.refl _, hR _⟩
def Tryd.lays729_ren : Go.Shelf.Ren := ⟨fun | 29 => 62 | n => n, fun | 0 => 0 | 3 => 3 | 4 => 4 | 5 => 5 | 22 => 24 | 25 => 73 | 54 => 92 | n => n, fun | 1 => 0 | n => n⟩
theorem Tryd.lays729 : Go.Proofs.Lays7.n29 Tryd.prog Tryd.lays729_ren := {
  mixed := by kernel_rfl
  f29 := Tryd.func62.trans (congrArg some (by kernel_rfl))
  t0 := Tryd.underlying0
  a0 := Tryd.isAgg0
  z0 := Tryd.sizeOf0
  v0 := Tryd.zeroValue0
  i0 := by kernel_rfl
  t3 := Tryd.underlying3
  a3 := Tryd.isAgg3
  z3 := Tryd.sizeOf3
  v3 := Tryd.zeroValue3
  i3 := by kernel_rfl
  t4 := Tryd.underlying4
  a4 := Tryd.isAgg4
  z4 := Tryd.sizeOf4
  v4 := Tryd.zeroValue4
  i4 := by kernel_rfl
  t5 := Tryd.underlying5
  a5 := Tryd.isAgg5
  z5 := Tryd.sizeOf5
  v5 := Tryd.zeroValue5
  i5 := by kernel_rfl
  t22 := Tryd.underlying24
  a22 := Tryd.isAgg24
  z22 := Tryd.sizeOf24
  v22 := Tryd.zeroValue24
  i22 := by kernel_rfl
  t25 := Tryd.underlying73
  a25 := Tryd.isAgg73
  z25 := Tryd.sizeOf73
  v25 := Tryd.zeroValue73
  i25 := by kernel_rfl
  t54 := Tryd.underlying92
  a54 := Tryd.isAgg92
  z54 := Tryd.sizeOf92
  g1 := by kernel_rfl
}
def f62 (x0 : Int) : Option Int := if 0 ≤ x0 ∧ x0 < 18446744073709551616 then some ((Lib.ctz 64 x0.toNat : Nat) : Int) else none
theorem f62_ok {H : Hp} {x0 : Int} {r : Int} (hp : f62 x0 = some r) : SCall Tryd.prog 62 [.int .u64 x0] H (Ret fun v H' => Ext H H' ∧ R_3 r H.next H' v) := by
  unfold f62 at hp
  split at hp
  case isFalse => cases hp
  case isTrue h =>
    cases hp
    refine SCall.flatR (v := .int .i64 ((Lib.ctz 64 x0.toNat : Nat) : Int)) (SCall.ofCallsL (fun w hL => ?_) rfl rfl H) (fun _ => rfl)
    have hx : x0 = ((x0.toNat : Nat) : Int) := by omega
    have c := Any7.bits_TrailingZeros64 Tryd.lays729 x0.toNat (by omega) w (fun _ j hj => hL.cell (g := 0) (List.mem_cons_self ..) j _ (by
      rw [List.getElem?_map, List.getD_eq_getElem?_getD]
      rw [List.getElem?_eq_getElem hj]; rfl))
    rw [← hx] at c
    exact c.mono fun e w' ⟨h1, h2⟩ => ⟨h1, h2 ▸ Below.refl _ _⟩
end Go.Proofs.YthemdclmlcblbaaDoor
