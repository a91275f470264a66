import Derived.Test.YtppedainpmjbmaaGreatDoorChecked
import Derived.Test.YtppedainpmjbmaaGreatDoorD68
import Derived.Test.YtppedainpmjbmaaGreatDoorSA
set_option linter.unusedVariables false
set_option linter.unusedSimpArgs false
namespace Go.Proofs.YtppedainpmjbmaaGreatDoor
open Go Go.Det Go.RowKit
theorem gmix : Tryz.prog.follows .mixedOrders = true := by kernel_rfl
structure Reply where
  Port : Int
  Code : Int
  deriving DecidableEq
def Reply.cs (x : Reply) : List Value := [.int .i64 x.Port, .int .i64 x.Code]
def ReplyC : Cod Reply := .flat 2 Reply.cs fun _ => rfl
structure Sight where
  Floor : Int
  Panel : Int
  Out : Bool
  deriving DecidableEq
def Sight.cs (x : Sight) : List Value := [.int .i64 x.Floor, .int .i64 x.Panel, .bool x.Out]
def SightC : Cod Sight := .flat 3 Sight.cs fun _ => rfl
structure ViewT where
  Tick : Int
  Replies : List Reply
  Sights : List Sight
  Up : Int
  Down : Int
  Word : Int
  deriving DecidableEq
def ViewTC : Cod ViewT := { sz := 6, rep := fun n H cs x => ∃ (a_0 : Option Addr) (c_0 : Nat) (a_1 : Option Addr) (c_1 : Nat), cs = [.int .i64 x.Tick, .slice a_0 x.Replies.length c_0, .slice a_1 x.Sights.length c_1, .int .u64 x.Up, .int .u64 x.Down, .int .i64 x.Word] ∧ SlF n H ReplyC a_0 c_0 x.Replies ∧ SlF n H SightC a_1 c_1 x.Sights, len := (by rintro n H cs x ⟨a_0, c_0, a_1, c_1, e, f0, f1⟩; rw [e]; rfl), mono := (by rintro m n H H' cs x hm h ⟨a_0, c_0, a_1, c_1, e, f0, f1⟩; exact ⟨_, _, _, _, e, f0.mono hm h, f1.mono hm h⟩) }
structure Part where
  From : Int
  To : Int
  deriving DecidableEq
def Part.cs (x : Part) : List Value := [.int .i64 x.From, .int .i64 x.To]
def PartC : Cod Part := .flat 2 Part.cs fun _ => rfl
theorem u23 : Tryz.prog.underlying 23 = some (.slice 48) := by kernel_rfl
theorem u44 : Tryz.prog.underlying 44 = some (.slice 87) := by kernel_rfl
theorem u45 : Tryz.prog.underlying 45 = some (.slice 84) := by kernel_rfl
theorem u101 : Tryz.prog.underlying 101 = some (.slice 23) := by kernel_rfl
theorem sz3 : sizeD Tryz.prog 3 = some 1 := by kernel_rfl
theorem by3 : bytesD Tryz.prog 3 = some 8 := by kernel_rfl
theorem ag3 : isAggD Tryz.prog 3 = some false := by kernel_rfl
theorem sz23 : sizeD Tryz.prog 23 = some 1 := by kernel_rfl
theorem by23 : bytesD Tryz.prog 23 = some 24 := by kernel_rfl
theorem ag23 : isAggD Tryz.prog 23 = some false := by kernel_rfl
theorem sz44 : sizeD Tryz.prog 44 = some 1 := by kernel_rfl
theorem by44 : bytesD Tryz.prog 44 = some 24 := by kernel_rfl
theorem ag44 : isAggD Tryz.prog 44 = some false := by kernel_rfl
theorem sz45 : sizeD Tryz.prog 45 = some 1 := by kernel_rfl
theorem by45 : bytesD Tryz.prog 45 = some 24 := by kernel_rfl
theorem ag45 : isAggD Tryz.prog 45 = some false := by kernel_rfl
theorem sz48 : sizeD Tryz.prog 48 = some 6 := by kernel_rfl
theorem by48 : bytesD Tryz.prog 48 = some 80 := by kernel_rfl
theorem ag48 : isAggD Tryz.prog 48 = some true := by kernel_rfl
theorem sz84 : sizeD Tryz.prog 84 = some 3 := by kernel_rfl
theorem by84 : bytesD Tryz.prog 84 = some 24 := by kernel_rfl
theorem ag84 : isAggD Tryz.prog 84 = some true := by kernel_rfl
theorem sz87 : sizeD Tryz.prog 87 = some 2 := by kernel_rfl
theorem by87 : bytesD Tryz.prog 87 = some 16 := by kernel_rfl
theorem ag87 : isAggD Tryz.prog 87 = some true := by kernel_rfl
theorem sz101 : sizeD Tryz.prog 101 = some 1 := by kernel_rfl
theorem by101 : bytesD Tryz.prog 101 = some 24 := by kernel_rfl
theorem ag101 : isAggD Tryz.prog 101 = some false := by kernel_rfl
theorem el23 {c : Call} (h : c.argTypes = #[23, 23]) : Elem Tryz.prog c 23 48 6 80 := ⟨by rw [h]; rfl, ⟨23, _, by rw [h]; rfl, u23, by intro k; simp⟩, u23, sz48, by48, ⟨(zeroD Tryz.prog 48).getD undef, by kernel_rfl, by kernel_rfl⟩, by decide⟩
theorem el44 {c : Call} (h : c.argTypes = #[44, 44]) : Elem Tryz.prog c 44 87 2 16 := ⟨by rw [h]; rfl, ⟨44, _, by rw [h]; rfl, u44, by intro k; simp⟩, u44, sz87, by87, ⟨(zeroD Tryz.prog 87).getD undef, by kernel_rfl, by kernel_rfl⟩, by decide⟩
theorem el45 {c : Call} (h : c.argTypes = #[45, 45]) : Elem Tryz.prog c 45 84 3 24 := ⟨by rw [h]; rfl, ⟨45, _, by rw [h]; rfl, u45, by intro k; simp⟩, u45, sz84, by84, ⟨(zeroD Tryz.prog 84).getD undef, by kernel_rfl, by kernel_rfl⟩, by decide⟩
theorem el101 {c : Call} (h : c.argTypes = #[101, 101]) : Elem Tryz.prog c 101 23 1 24 := ⟨by rw [h]; rfl, ⟨101, _, by rw [h]; rfl, u101, by intro k; simp⟩, u101, sz23, by23, ⟨(zeroD Tryz.prog 23).getD undef, by kernel_rfl, by kernel_rfl⟩, by decide⟩
theorem gd84 : Tryz.prog.eqGuardType Tryz.prog.depth 84 = false := by kernel_rfl
theorem eq84 (x0 : Int) (x1 : Int) (x2 : Bool) (y0 : Int) (y1 : Int) (y2 : Bool) : eqT Tryz.prog 20 84 (.agg ⟨[.int .i64 x0, .int .i64 x1, .bool x2]⟩) (.agg ⟨[.int .i64 y0, .int .i64 y1, .bool y2]⟩) = some (decide ((Sight.mk x0 x1 x2) = (Sight.mk y0 y1 y2))) := by
  have h : eqT Tryz.prog 20 84 (.agg ⟨[.int .i64 x0, .int .i64 x1, .bool x2]⟩) (.agg ⟨[.int .i64 y0, .int .i64 y1, .bool y2]⟩) = some (x0 == y0 && (x1 == y1 && (x2 == y2 && true))) := by kernel_rfl
  rw [h, Option.some.injEq, Bool.eq_iff_iff]; simp [and_assoc]
theorem gd87 : Tryz.prog.eqGuardType Tryz.prog.depth 87 = false := by kernel_rfl
theorem eq87 (x0 : Int) (x1 : Int) (y0 : Int) (y1 : Int) : eqT Tryz.prog 20 87 (.agg ⟨[.int .i64 x0, .int .i64 x1]⟩) (.agg ⟨[.int .i64 y0, .int .i64 y1]⟩) = some (decide ((Reply.mk x0 x1) = (Reply.mk y0 y1))) := by
  have h : eqT Tryz.prog 20 87 (.agg ⟨[.int .i64 x0, .int .i64 x1]⟩) (.agg ⟨[.int .i64 y0, .int .i64 y1]⟩) = some (x0 == y0 && (x1 == y1 && true)) := by kernel_rfl
  rw [h, Option.some.injEq, Bool.eq_iff_iff]; simp [and_assoc]
def R_4 (r : Bool) (n : Nat) (H : Hp) (v : Value) : Prop := v = .bool r
theorem R_4.mono {r : Bool} {m n : Nat} {H B : Hp} {v : Value} (hm : m ≤ n) (h : Abv n H B) (k : R_4 r n H v) : R_4 r m B v := by
  exact k
def R_44 (r : List Reply) (n : Nat) (H : Hp) (v : Value) : Prop := ∃ (a0_0 : Option Addr) (c0_0 : Nat), v = .slice a0_0 r.length c0_0 ∧ SlF n H ReplyC a0_0 c0_0 r
theorem R_44.mono {r : List Reply} {m n : Nat} {H B : Hp} {v : Value} (hm : m ≤ n) (h : Abv n H B) (k : R_44 r n H v) : R_44 r m B v := by
  obtain ⟨a0_0, c0_0, e, f0⟩ := k; exact ⟨_, _, e, f0.mono hm h⟩
def R_45 (r : List Sight) (n : Nat) (H : Hp) (v : Value) : Prop := ∃ (a0_0 : Option Addr) (c0_0 : Nat), v = .slice a0_0 r.length c0_0 ∧ SlF n H SightC a0_0 c0_0 r
theorem R_45.mono {r : List Sight} {m n : Nat} {H B : Hp} {v : Value} (hm : m ≤ n) (h : Abv n H B) (k : R_45 r n H v) : R_45 r m B v := by
  obtain ⟨a0_0, c0_0, e, f0⟩ := k; exact ⟨_, _, e, f0.mono hm h⟩
def R_23 (r : List ViewT) (n : Nat) (H : Hp) (v : Value) : Prop := ∃ (a0_0 : Option Addr) (c0_0 : Nat), v = .slice a0_0 r.length c0_0 ∧ SlF n H ViewTC a0_0 c0_0 r
theorem R_23.mono {r : List ViewT} {m n : Nat} {H B : Hp} {v : Value} (hm : m ≤ n) (h : Abv n H B) (k : R_23 r n H v) : R_23 r m B v := by
  obtain ⟨a0_0, c0_0, e, f0⟩ := k; exact ⟨_, _, e, f0.mono hm h⟩
def R_24_3 (r : Int × Int) (n : Nat) (H : Hp) (v : Value) : Prop := v = .tuple ⟨[.int .i64 r.1, .int .i64 r.2]⟩
theorem R_24_3.mono {r : Int × Int} {m n : Nat} {H B : Hp} {v : Value} (hm : m ≤ n) (h : Abv n H B) (k : R_24_3 r n H v) : R_24_3 r m B v := by
  exact k
def R_3_24 (r : Int × Int) (n : Nat) (H : Hp) (v : Value) : Prop := v = .tuple ⟨[.int .i64 r.1, .int .i64 r.2]⟩
theorem R_3_24.mono {r : Int × Int} {m n : Nat} {H B : Hp} {v : Value} (hm : m ≤ n) (h : Abv n H B) (k : R_3_24 r n H v) : R_3_24 r m B v := by
  exact k
def R_24 (r : Int) (n : Nat) (H : Hp) (v : Value) : Prop := v = .int .i64 r
theorem R_24.mono {r : Int} {m n : Nat} {H B : Hp} {v : Value} (hm : m ≤ n) (h : Abv n H B) (k : R_24 r n H v) : R_24 r m B v := by
  exact k
def R_3 (r : Int) (n : Nat) (H : Hp) (v : Value) : Prop := v = .int .i64 r
theorem R_3.mono {r : Int} {m n : Nat} {H B : Hp} {v : Value} (hm : m ≤ n) (h : Abv n H B) (k : R_3 r n H v) : R_3 r m B v := by
  exact k
def R_4_24 (r : Bool × Int) (n : Nat) (H : Hp) (v : Value) : Prop := v = .tuple ⟨[.bool r.1, .int .i64 r.2]⟩
theorem R_4_24.mono {r : Bool × Int} {m n : Nat} {H B : Hp} {v : Value} (hm : m ≤ n) (h : Abv n H B) (k : R_4_24 r n H v) : R_4_24 r m B v := by
  exact k
def R_48 (r : ViewT) (n : Nat) (H : Hp) (v : Value) : Prop := ∃ (a0_0 : Option Addr) (c0_0 : Nat) (a0_1 : Option Addr) (c0_1 : Nat), v = .agg ⟨[.int .i64 r.Tick, .slice a0_0 r.Replies.length c0_0, .slice a0_1 r.Sights.length c0_1, .int .u64 r.Up, .int .u64 r.Down, .int .i64 r.Word]⟩ ∧ SlF n H ReplyC a0_0 c0_0 r.Replies ∧ SlF n H SightC a0_1 c0_1 r.Sights
theorem R_48.mono {r : ViewT} {m n : Nat} {H B : Hp} {v : Value} (hm : m ≤ n) (h : Abv n H B) (k : R_48 r n H v) : R_48 r m B v := by
  obtain ⟨a0_0, c0_0, a0_1, c0_1, e, f0, f1⟩ := k; exact ⟨_, _, _, _, e, f0.mono hm h, f1.mono hm h⟩
def R_23_24 (r : (List ViewT) × Int) (n : Nat) (H : Hp) (v : Value) : Prop := ∃ (a0_0 : Option Addr) (c0_0 : Nat), v = .tuple ⟨[.slice a0_0 r.1.length c0_0, .int .i64 r.2]⟩ ∧ SlF n H ViewTC a0_0 c0_0 r.1
theorem R_23_24.mono {r : (List ViewT) × Int} {m n : Nat} {H B : Hp} {v : Value} (hm : m ≤ n) (h : Abv n H B) (k : R_23_24 r n H v) : R_23_24 r m B v := by
  obtain ⟨a0_0, c0_0, e, f0⟩ := k; exact ⟨_, _, e, f0.mono hm h⟩
end Go.Proofs.YtppedainpmjbmaaGreatDoor

set_option linter.unusedVariables false
set_option linter.unusedSimpArgs false
namespace Go.Proofs.YtppedainpmjbmaaGreatDoor
open Go Go.Det Go.RowKit
def f11 : Option Bool := some true
theorem f11_ok {H : Hp} {r : Bool} (hp : f11 = some r) : SCall Tryz.prog 11 [] H (Ret fun v H' => Ext H H' ∧ R_4 r H.next H' v) := by
  obtain rfl := Option.some.inj hp
  exact (awake_ok H).mono fun _ _ ⟨v, h1, h2, h3⟩ => ⟨v, h1, by subst h2 h3; exact ⟨Ext.refl _, rfl⟩⟩
noncomputable section
/-! 106 none -/
def f106n : Option (List Reply) :=
  some ([])
set_option maxHeartbeats 40000000 in
set_option maxRecDepth 20000 in
theorem f106n_ok {H : Hp} {r : List Reply} (hp : f106n = some r) :
    SCall Tryz.prog 106 [.slice none 0 0] H (Ret fun v H' => Ext H H' ∧ R_44 r H.next H' v) := by
  unfold f106n at hp
  replace hp := topS hp
  refine SCall.g Tryz.func106 rfl rfl rfl rfl rfl (l := [(0, .v (.slice none 0 0))]) (fun _ => rfl) (fun B abB => ?_)
  refine WJ.cv 208 (b := true) (H0 := ⟨.nil, 0, 0⟩) rfl rfl rfl rfl rfl rfl (opD_slN rfl rfl rfl u44) rfl ?_
  obtain rfl := endS (show some _ = some r from hp)
  exact WJ.rt 206 rfl rfl rfl (fun ids H' fr => ⟨fr.ext0, ⟨_, _, rfl, SlF.nil⟩⟩)
/-! 106 some -/
def f106s (x0 : List Reply) : Option (List Reply) :=
  (apd 16 ([] : List Reply) x0).bind fun l7 =>
  some l7
set_option maxHeartbeats 40000000 in
set_option maxRecDepth 20000 in
theorem f106s_ok {H : Hp} {a_x0 : Addr} {c_x0 : Nat} {x0 : List Reply} {r : List Reply} (g_x0 : SlF 0 H ReplyC (some a_x0) c_x0 x0) (hp : f106s x0 = some r) :
    SCall Tryz.prog 106 [.slice (some a_x0) x0.length c_x0] H (Ret fun v H' => Ext H H' ∧ R_44 r H.next H' v) := by
  unfold f106s at hp
  replace hp := topS hp
  refine SCall.g Tryz.func106 rfl rfl rfl rfl rfl (l := [(0, .v (.slice (some a_x0) x0.length c_x0))]) (fun _ => rfl) (fun B abB => ?_)
  refine WJ.cv 208 (b := false) (H0 := ⟨.nil, 0, 0⟩) rfl rfl rfl rfl rfl rfl (opD_slS rfl rfl rfl u44) rfl ?_
  refine WJ.bs (cs := encL Reply.cs ([] : List Reply)) (sz := 2) (pl := []) 205 rfl rfl rfl rfl rfl (fun _ _ => rfl) (fun _ => by rfl) rfl rfl ?_
  intro b5
  refine ⟨_, rfl, ?_⟩
  obtain ⟨l7, e7, hp⟩ := bindS hp
  obtain ⟨bd7, rfl⟩ := apd_some e7
  refine WJ.ap (L := ([] : List Reply)) (L2 := x0) 201 0 rfl rfl rfl rfl rfl rfl rfl rfl (el44 rfl) rfl (fun _ => rfl) (fun _ => rfl) rfl (fun ids H' fr => (g_x0.mono (Nat.zero_le _) fr.ext0.abv).srcF) bd7 ?_
  intro a7 c7
  refine ⟨_, rfl, ?_⟩
  obtain rfl := endS (show some _ = some r from hp)
  exact WJ.rt 202 rfl rfl rfl (fun ids H' fr => ⟨fr.ext0, ⟨_, _, rfl, (fr.slOwn (j := 0) rfl rfl (Nat.le_refl _))⟩⟩)
def f106 (x0 : List Reply) : Option (List Reply) := f106s x0
theorem f106_ok {H : Hp} {a_x0 : Option Addr} {c_x0 : Nat} {x0 : List Reply} {r : List Reply} (g_x0 : SlF 0 H ReplyC a_x0 c_x0 x0) (hp : f106 x0 = some r) :
    SCall Tryz.prog 106 [.slice a_x0 x0.length c_x0] H (Ret fun v H' => Ext H H' ∧ R_44 r H.next H' v) := by
  cases a_x0 with
  | some a => exact f106s_ok g_x0 hp
  | none =>
    obtain ⟨rfl, rfl⟩ := g_x0.none_inv
    obtain rfl : [] = r := Option.some.inj hp
    exact f106n_ok rfl
/-! 107 none -/
def f107n : Option (List Sight) :=
  some ([])
set_option maxHeartbeats 40000000 in
set_option maxRecDepth 20000 in
theorem f107n_ok {H : Hp} {r : List Sight} (hp : f107n = some r) :
    SCall Tryz.prog 107 [.slice none 0 0] H (Ret fun v H' => Ext H H' ∧ R_45 r H.next H' v) := by
  unfold f107n at hp
  replace hp := topS hp
  refine SCall.g Tryz.func107 rfl rfl rfl rfl rfl (l := [(0, .v (.slice none 0 0))]) (fun _ => rfl) (fun B abB => ?_)
  refine WJ.cv 208 (b := true) (H0 := ⟨.nil, 0, 0⟩) rfl rfl rfl rfl rfl rfl (opD_slN rfl rfl rfl u45) rfl ?_
  obtain rfl := endS (show some _ = some r from hp)
  exact WJ.rt 206 rfl rfl rfl (fun ids H' fr => ⟨fr.ext0, ⟨_, _, rfl, SlF.nil⟩⟩)
/-! 107 some -/
def f107s (x0 : List Sight) : Option (List Sight) :=
  (apd 24 ([] : List Sight) x0).bind fun l7 =>
  some l7
set_option maxHeartbeats 40000000 in
set_option maxRecDepth 20000 in
theorem f107s_ok {H : Hp} {a_x0 : Addr} {c_x0 : Nat} {x0 : List Sight} {r : List Sight} (g_x0 : SlF 0 H SightC (some a_x0) c_x0 x0) (hp : f107s x0 = some r) :
    SCall Tryz.prog 107 [.slice (some a_x0) x0.length c_x0] H (Ret fun v H' => Ext H H' ∧ R_45 r H.next H' v) := by
  unfold f107s at hp
  replace hp := topS hp
  refine SCall.g Tryz.func107 rfl rfl rfl rfl rfl (l := [(0, .v (.slice (some a_x0) x0.length c_x0))]) (fun _ => rfl) (fun B abB => ?_)
  refine WJ.cv 208 (b := false) (H0 := ⟨.nil, 0, 0⟩) rfl rfl rfl rfl rfl rfl (opD_slS rfl rfl rfl u45) rfl ?_
  refine WJ.bs (cs := encL Sight.cs ([] : List Sight)) (sz := 3) (pl := []) 205 rfl rfl rfl rfl rfl (fun _ _ => rfl) (fun _ => by rfl) rfl rfl ?_
  intro b5
  refine ⟨_, rfl, ?_⟩
  obtain ⟨l7, e7, hp⟩ := bindS hp
  obtain ⟨bd7, rfl⟩ := apd_some e7
  refine WJ.ap (L := ([] : List Sight)) (L2 := x0) 201 0 rfl rfl rfl rfl rfl rfl rfl rfl (el45 rfl) rfl (fun _ => rfl) (fun _ => rfl) rfl (fun ids H' fr => (g_x0.mono (Nat.zero_le _) fr.ext0.abv).srcF) bd7 ?_
  intro a7 c7
  refine ⟨_, rfl, ?_⟩
  obtain rfl := endS (show some _ = some r from hp)
  exact WJ.rt 202 rfl rfl rfl (fun ids H' fr => ⟨fr.ext0, ⟨_, _, rfl, (fr.slOwn (j := 0) rfl rfl (Nat.le_refl _))⟩⟩)
def f107 (x0 : List Sight) : Option (List Sight) := f107s x0
theorem f107_ok {H : Hp} {a_x0 : Option Addr} {c_x0 : Nat} {x0 : List Sight} {r : List Sight} (g_x0 : SlF 0 H SightC a_x0 c_x0 x0) (hp : f107 x0 = some r) :
    SCall Tryz.prog 107 [.slice a_x0 x0.length c_x0] H (Ret fun v H' => Ext H H' ∧ R_45 r H.next H' v) := by
  cases a_x0 with
  | some a => exact f107s_ok g_x0 hp
  | none =>
    obtain ⟨rfl, rfl⟩ := g_x0.none_inv
    obtain rfl : [] = r := Option.some.inj hp
    exact f107n_ok rfl
end
end Go.Proofs.YtppedainpmjbmaaGreatDoor
