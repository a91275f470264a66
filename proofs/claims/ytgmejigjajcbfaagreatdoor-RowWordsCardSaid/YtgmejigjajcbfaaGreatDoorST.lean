import Derived.Test.YtgmejigjajcbfaaGreatDoorChecked
import Derived.Test.YtgmejigjajcbfaaGreatDoorD66
import Derived.Test.YtgmejigjajcbfaaGreatDoorD63
set_option linter.unusedVariables false
set_option linter.unusedSimpArgs false
namespace Go.Proofs.YtgmejigjajcbfaaGreatDoor
open Go Go.Det Go.RowKit
theorem gmix : Tryz.prog.follows .mixedOrders = true := by kernel_rfl
structure RowWord where
  At : Int
  Kind : Int
  Name : List UInt8
  N : Int
  deriving DecidableEq
def RowWord.cs (x : RowWord) : List Value := [.int .i64 x.At, .int .i64 x.Kind, .string (bs x.Name), .int .i64 x.N]
def RowWordC : Cod RowWord := .flat 4 RowWord.cs fun _ => rfl
theorem u37 : Tryz.prog.underlying 37 = some (.slice 9) := by kernel_rfl
theorem sz9 : sizeD Tryz.prog 9 = some 1 := by kernel_rfl
theorem by9 : bytesD Tryz.prog 9 = some 16 := by kernel_rfl
theorem ag9 : isAggD Tryz.prog 9 = some false := by kernel_rfl
theorem sz37 : sizeD Tryz.prog 37 = some 1 := by kernel_rfl
theorem by37 : bytesD Tryz.prog 37 = some 24 := by kernel_rfl
theorem ag37 : isAggD Tryz.prog 37 = some false := by kernel_rfl
theorem el37 {c : Call} (h : c.argTypes = #[37, 37]) : Elem Tryz.prog c 37 9 1 16 := ⟨by rw [h]; rfl, ⟨37, _, by rw [h]; rfl, u37, by intro k; simp⟩, u37, sz9, by9, ⟨(zeroD Tryz.prog 9).getD undef, by kernel_rfl, by kernel_rfl⟩, by decide⟩
theorem us9 : Tryz.prog.underlying 9 = some .string := by kernel_rfl
def R_4 (r : Bool) (n : Nat) (H : Hp) (v : Value) : Prop := v = .bool r
theorem R_4.mono {r : Bool} {m n : Nat} {H B : Hp} {v : Value} (hm : m ≤ n) (h : Abv n H B) (k : R_4 r n H v) : R_4 r m B v := by
  exact k
def R_24 (r : Int) (n : Nat) (H : Hp) (v : Value) : Prop := v = .int .i64 r
theorem R_24.mono {r : Int} {m n : Nat} {H B : Hp} {v : Value} (hm : m ≤ n) (h : Abv n H B) (k : R_24 r n H v) : R_24 r m B v := by
  exact k
def R_3_24 (r : Int × Int) (n : Nat) (H : Hp) (v : Value) : Prop := v = .tuple ⟨[.int .i64 r.1, .int .i64 r.2]⟩
theorem R_3_24.mono {r : Int × Int} {m n : Nat} {H B : Hp} {v : Value} (hm : m ≤ n) (h : Abv n H B) (k : R_3_24 r n H v) : R_3_24 r m B v := by
  exact k
def R_3 (r : Int) (n : Nat) (H : Hp) (v : Value) : Prop := v = .int .i64 r
theorem R_3.mono {r : Int} {m n : Nat} {H B : Hp} {v : Value} (hm : m ≤ n) (h : Abv n H B) (k : R_3 r n H v) : R_3 r m B v := by
  exact k
end Go.Proofs.YtgmejigjajcbfaaGreatDoor

set_option linter.unusedVariables false
namespace Go.Proofs.YtgmejigjajcbfaaGreatDoor
open Go Go.Det Go.RowKit
/-! What is checked of the chapter's examples, by a run of the abstract machine in the kernel -/
theorem seatOk : (seatCells.all fun p => Nat.blt p.1 Tryz.prog.globals.size) = true := by kernel_rfl
theorem seatFl : seatFlat = true := by kernel_rfl
theorem awake_run : (callE Tryz.prog (evC2 Tryz.prog 2000) 8 [] (HG Tryz.prog.globals.size)).map (fun p => p.1) = some (.ret (.bool true)) := by kernel_rfl
def f8 : Option Bool := some true
theorem f8_ok {H : Hp} {r : Bool} (hp : f8 = some r) : SCall Tryz.prog 8 [] H (Ret fun v H' => Ext H H' ∧ R_4 r H.next H' v) := by
  obtain rfl := Option.some.inj hp
  exact (SCall.closed2 2000 seatFl seatOk awake_run rfl rfl H).mono fun _ _ ⟨v, h1, h2, h3⟩ => ⟨v, h1, by subst h2 h3; exact ⟨Ext.refl _, rfl⟩⟩
end Go.Proofs.YtgmejigjajcbfaaGreatDoor
