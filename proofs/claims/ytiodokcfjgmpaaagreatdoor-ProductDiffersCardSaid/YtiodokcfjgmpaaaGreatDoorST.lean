import Derived.Test.YtiodokcfjgmpaaaGreatDoorChecked
import Derived.Test.YtiodokcfjgmpaaaGreatDoorD68
import Derived.Test.YtiodokcfjgmpaaaGreatDoorSK
set_option linter.unusedVariables false
set_option linter.unusedSimpArgs false
namespace Go.Proofs.YtiodokcfjgmpaaaGreatDoor
open Go Go.Det Go.RowKit
theorem gmix : Tryz.prog.follows .mixedOrders = true := by kernel_rfl
structure Reply where
  Port : Int
  Code : Int
  deriving DecidableEq
def Reply.cs (x : Reply) : List Value := [.int .i64 x.Port, .int .i64 x.Code]
def ReplyC : Cod Reply := .flat 2 Reply.cs fun _ => rfl
structure Sight where
  Floor : Int
  Panel : Int
  Out : Bool
  deriving DecidableEq
def Sight.cs (x : Sight) : List Value := [.int .i64 x.Floor, .int .i64 x.Panel, .bool x.Out]
def SightC : Cod Sight := .flat 3 Sight.cs fun _ => rfl
structure ViewT where
  Tick : Int
  Replies : List Reply
  Sights : List Sight
  Up : Int
  Down : Int
  Word : Int
  deriving DecidableEq
def ViewTC : Cod ViewT := { sz := 6, rep := fun n H cs x => ∃ (a_0 : Option Addr) (c_0 : Nat) (a_1 : Option Addr) (c_1 : Nat), cs = [.int .i64 x.Tick, .slice a_0 x.Replies.length c_0, .slice a_1 x.Sights.length c_1, .int .u64 x.Up, .int .u64 x.Down, .int .i64 x.Word] ∧ SlF n H ReplyC a_0 c_0 x.Replies ∧ SlF n H SightC a_1 c_1 x.Sights, len := (by rintro n H cs x ⟨a_0, c_0, a_1, c_1, e, f0, f1⟩; rw [e]; rfl), mono := (by rintro m n H H' cs x hm h ⟨a_0, c_0, a_1, c_1, e, f0, f1⟩; exact ⟨_, _, _, _, e, f0.mono hm h, f1.mono hm h⟩) }
theorem u52 : Tryz.prog.underlying 52 = some (.slice 56) := by kernel_rfl
theorem u53 : Tryz.prog.underlying 53 = some (.slice 116) := by kernel_rfl
theorem u54 : Tryz.prog.underlying 54 = some (.slice 119) := by kernel_rfl
theorem sz52 : sizeD Tryz.prog 52 = some 1 := by kernel_rfl
theorem by52 : bytesD Tryz.prog 52 = some 24 := by kernel_rfl
theorem ag52 : isAggD Tryz.prog 52 = some false := by kernel_rfl
theorem sz53 : sizeD Tryz.prog 53 = some 1 := by kernel_rfl
theorem by53 : bytesD Tryz.prog 53 = some 24 := by kernel_rfl
theorem ag53 : isAggD Tryz.prog 53 = some false := by kernel_rfl
theorem sz54 : sizeD Tryz.prog 54 = some 1 := by kernel_rfl
theorem by54 : bytesD Tryz.prog 54 = some 24 := by kernel_rfl
theorem ag54 : isAggD Tryz.prog 54 = some false := by kernel_rfl
theorem sz56 : sizeD Tryz.prog 56 = some 6 := by kernel_rfl
theorem by56 : bytesD Tryz.prog 56 = some 80 := by kernel_rfl
theorem ag56 : isAggD Tryz.prog 56 = some true := by kernel_rfl
theorem sz116 : sizeD Tryz.prog 116 = some 2 := by kernel_rfl
theorem by116 : bytesD Tryz.prog 116 = some 16 := by kernel_rfl
theorem ag116 : isAggD Tryz.prog 116 = some true := by kernel_rfl
theorem sz119 : sizeD Tryz.prog 119 = some 3 := by kernel_rfl
theorem by119 : bytesD Tryz.prog 119 = some 24 := by kernel_rfl
theorem ag119 : isAggD Tryz.prog 119 = some true := by kernel_rfl
theorem el52 {c : Call} (h : c.argTypes = #[52, 52]) : Elem Tryz.prog c 52 56 6 80 := ⟨by rw [h]; rfl, ⟨52, _, by rw [h]; rfl, u52, by intro k; simp⟩, u52, sz56, by56, ⟨(zeroD Tryz.prog 56).getD undef, by kernel_rfl, by kernel_rfl⟩, by decide⟩
theorem el53 {c : Call} (h : c.argTypes = #[53, 53]) : Elem Tryz.prog c 53 116 2 16 := ⟨by rw [h]; rfl, ⟨53, _, by rw [h]; rfl, u53, by intro k; simp⟩, u53, sz116, by116, ⟨(zeroD Tryz.prog 116).getD undef, by kernel_rfl, by kernel_rfl⟩, by decide⟩
theorem el54 {c : Call} (h : c.argTypes = #[54, 54]) : Elem Tryz.prog c 54 119 3 24 := ⟨by rw [h]; rfl, ⟨54, _, by rw [h]; rfl, u54, by intro k; simp⟩, u54, sz119, by119, ⟨(zeroD Tryz.prog 119).getD undef, by kernel_rfl, by kernel_rfl⟩, by decide⟩
theorem gd116 : Tryz.prog.eqGuardType Tryz.prog.depth 116 = false := by kernel_rfl
theorem eq116 (x0 : Int) (x1 : Int) (y0 : Int) (y1 : Int) : eqT Tryz.prog 20 116 (.agg ⟨[.int .i64 x0, .int .i64 x1]⟩) (.agg ⟨[.int .i64 y0, .int .i64 y1]⟩) = some (decide ((Reply.mk x0 x1) = (Reply.mk y0 y1))) := by
  have h : eqT Tryz.prog 20 116 (.agg ⟨[.int .i64 x0, .int .i64 x1]⟩) (.agg ⟨[.int .i64 y0, .int .i64 y1]⟩) = some (x0 == y0 && (x1 == y1 && true)) := by kernel_rfl
  rw [h, Option.some.injEq, Bool.eq_iff_iff]; simp [and_assoc]
theorem gd119 : Tryz.prog.eqGuardType Tryz.prog.depth 119 = false := by kernel_rfl
theorem eq119 (x0 : Int) (x1 : Int) (x2 : Bool) (y0 : Int) (y1 : Int) (y2 : Bool) : eqT Tryz.prog 20 119 (.agg ⟨[.int .i64 x0, .int .i64 x1, .bool x2]⟩) (.agg ⟨[.int .i64 y0, .int .i64 y1, .bool y2]⟩) = some (decide ((Sight.mk x0 x1 x2) = (Sight.mk y0 y1 y2))) := by
  have h : eqT Tryz.prog 20 119 (.agg ⟨[.int .i64 x0, .int .i64 x1, .bool x2]⟩) (.agg ⟨[.int .i64 y0, .int .i64 y1, .bool y2]⟩) = some (x0 == y0 && (x1 == y1 && (x2 == y2 && true))) := by kernel_rfl
  rw [h, Option.some.injEq, Bool.eq_iff_iff]; simp [and_assoc]
def R_4 (r : Bool) (n : Nat) (H : Hp) (v : Value) : Prop := v = .bool r
theorem R_4.mono {r : Bool} {m n : Nat} {H B : Hp} {v : Value} (hm : m ≤ n) (h : Abv n H B) (k : R_4 r n H v) : R_4 r m B v := by
  exact k
def R_3 (r : Int) (n : Nat) (H : Hp) (v : Value) : Prop := v = .int .i64 r
theorem R_3.mono {r : Int} {m n : Nat} {H B : Hp} {v : Value} (hm : m ≤ n) (h : Abv n H B) (k : R_3 r n H v) : R_3 r m B v := by
  exact k
end Go.Proofs.YtiodokcfjgmpaaaGreatDoor

set_option linter.unusedVariables false
set_option linter.unusedSimpArgs false
namespace Go.Proofs.YtiodokcfjgmpaaaGreatDoor
open Go Go.Det Go.RowKit
def f7 : Option Bool := some true
theorem f7_ok {H : Hp} {r : Bool} (hp : f7 = some r) : SCall Tryz.prog 7 [] H (Ret fun v H' => Ext H H' ∧ R_4 r H.next H' v) := by
  obtain rfl := Option.some.inj hp
  exact (root_ok H).mono fun _ _ ⟨v, h1, h2, h3⟩ => ⟨v, h1, by subst h2 h3; exact ⟨Ext.refl _, rfl⟩⟩
end Go.Proofs.YtiodokcfjgmpaaaGreatDoor

set_option linter.unusedVariables false
set_option linter.unusedSimpArgs false
namespace Go.Proofs.YtiodokcfjgmpaaaGreatDoor
open Go Go.Det Go.RowKit
noncomputable section
/-! 66 slices.Equal[[]tipstaff/api.Reply,tipstaff/api.Reply] -/
def f66_l1 (x0 : List Reply) (x1 : List Reply) : Nat → Int → Option ((Unit) ⊕ (Bool))
  | 0, _ => none
  | n + 1, x13 =>
    (some (decide (x13 < (x0.length : Int)))).bind fun t14 =>
    if t14 then
      (rd x0 x13).bind fun t18 =>
      (rd x1 x13).bind fun t22 =>
      if t18 = t22 then
        f66_l1 x0 x1 n (IntKind.i64.wrap (x13 + 1))
      else
        some (Sum.inr (false : Bool))
    else
      some (Sum.inl ())

def f66 (k : Nat) (x0 : List Reply) (x1 : List Reply) : Option Bool :=
  if (x0.length : Int) = (x1.length : Int) then
    (f66_l1 x0 x1 k 0).bind fun s => match s with
      | .inl _ => 
        some true
      | .inr st => some st
  else
    some false
set_option maxHeartbeats 40000000 in
set_option maxRecDepth 20000 in
theorem f66_ok {k : Nat} {H : Hp} {a_x0 : Option Addr} {c_x0 : Nat} {a_x1 : Option Addr} {c_x1 : Nat} {x0 : List Reply} {x1 : List Reply} {r : Bool} (g_x0 : SlF 0 H ReplyC a_x0 c_x0 x0) (g_x1 : SlF 0 H ReplyC a_x1 c_x1 x1) (hp : f66 k x0 x1 = some r) :
    SCall Tryz.prog 66 [.slice a_x0 x0.length c_x0, .slice a_x1 x1.length c_x1] H (Ret fun v H' => Ext H H' ∧ R_4 r H.next H' v) := by
  unfold f66 at hp
  replace hp := topS hp
  refine SCall.g Tryz.func66 rfl rfl rfl rfl rfl (l := [(0, .v (.slice a_x0 x0.length c_x0)), (1, .v (.slice a_x1 x1.length c_x1))]) (fun _ => rfl) (fun B abB => ?_)
  refine WJ.cn 211 hp rfl rfl rfl rfl rfl rfl rfl rfl rfl (fun hc10 hp => ?_) (fun hc10 hp => ?_)
  · obtain rfl := endS (show some _ = some r from hp)
    exact WJ.rt 206 rfl rfl rfl (fun ids H' fr => ⟨fr.ext0, rfl⟩)
  · refine WJ.adv 11 rfl ?_
    obtain ⟨K1, hK1, hp⟩ : ∃ K, K = _ ∧ Option.bind _ K = some r := ⟨_, rfl, cutS hp⟩
    refine WJ.cut 2 (α := Unit) (fun y => []) (fun y => []) (fun y => []) (fun y => B) (fun y => K1 (Sum.inl ()) = some r) ?_ (fun j1 => ?_)
    · rintro u hp
      subst hK1
      show WJ _ _ _ B [] _ _ ⟨[], [], true, 0⟩
      obtain rfl := endS (show some _ = some r from hp)
      exact WJ.rt 204 rfl rfl rfl (fun ids H' fr => ⟨fr.ext0, rfl⟩)
    · refine WJ.lp 200 (α := Nat × Int) (fun y => [(0, .v (.slice a_x0 x0.length c_x0)), (1, .v (.slice a_x1 x1.length c_x1)), (12, .v (.int .i64 ((x0.length : Nat) : Int))), (13, .v (.int .i64 y.2))]) (fun y => []) (fun y => []) (fun y => B) (fun y => y.1) (fun y => Option.bind (f66_l1 x0 x1 y.1 y.2) K1 = some r) (k, 0) rfl hp (by exact ⟨rfl, rfl, rfl, rfl, trivial⟩) rfl rfl rfl ?_
      rintro ⟨n, x13⟩ hp ih1
      show WJ _ _ _ B [] _ _ ⟨[(0, .v (.slice a_x0 x0.length c_x0)), (1, .v (.slice a_x1 x1.length c_x1)), (12, .v (.int .i64 ((x0.length : Nat) : Int))), (13, .v (.int .i64 x13))], [], true, 0⟩
      replace hp : Option.bind (f66_l1 x0 x1 n x13) K1 = some r := hp
      cases n with
      | zero => rw [f66_l1] at hp; exact (noS hp).elim
      | succ n =>
        rw [f66_l1] at hp
        obtain ⟨t14, e14, hp⟩ := bindS hp
        refine WJ.cv 202 (b := t14) (H0 := ⟨.nil, 0, 0⟩) rfl rfl rfl rfl rfl rfl (by rw [← endS e14]; exact rfl) rfl ?_
        cases t14
        · replace hp := (itS hp).2 Bool.false_ne_true
          exact WJ.goto 4 (j1 () hp) rfl rfl (by exact trivial) rfl rfl rfl
        · replace hp := (itS hp).1 rfl
          refine WJ.dr 212 rfl gmix (by kernel_rfl) (by kernel_rfl) rfl ?_
          obtain ⟨⟨t18_Port, t18_Code⟩, e18, hp⟩ := bindS hp
          obtain ⟨b18, o18, cs18, i18, rfl, p18⟩ := g_x0.at e18 u53 sz116
          refine WD.hd (v := .pointer (some ⟨b18, o18, none⟩)) rfl rfl rfl rfl (fun _ _ _ _ _ => side_no) (fun ids H' fr => opD_indexAddr rfl (evV_eq _ _ _ _ _ rfl) (evV_eq _ _ _ _ _ rfl) (i18 _)) rfl ?_
          refine WD.hd (v := .agg ⟨[.int .i64 t18_Port, .int .i64 t18_Code]⟩) rfl rfl rfl rfl (fun _ _ _ _ _ => side_no) (fun ids H' fr => opD_load rfl (evV_eq _ _ _ _ _ rfl) ((p18.mono (Nat.zero_le _) fr.ext0.abv).loadN (d := 0) ag116 sz116 rfl rfl)) rfl ?_
          obtain ⟨⟨t22_Port, t22_Code⟩, e22, hp⟩ := bindS hp
          obtain ⟨b22, o22, cs22, i22, rfl, p22⟩ := g_x1.at e22 u53 sz116
          refine WD.hd (v := .pointer (some ⟨b22, o22, none⟩)) rfl rfl rfl rfl (fun _ _ _ _ _ => side_no) (fun ids H' fr => opD_indexAddr rfl (evV_eq _ _ _ _ _ rfl) (evV_eq _ _ _ _ _ rfl) (i22 _)) rfl ?_
          refine WD.hd (v := .agg ⟨[.int .i64 t22_Port, .int .i64 t22_Code]⟩) rfl rfl rfl rfl (fun _ _ _ _ _ => side_no) (fun ids H' fr => opD_load rfl (evV_eq _ _ _ _ _ rfl) ((p22.mono (Nat.zero_le _) fr.ext0.abv).loadN (d := 0) ag116 sz116 rfl rfl)) rfl ?_
          refine WD.cn hp rfl rfl rfl rfl rfl rfl (opD_neS rfl rfl rfl rfl gd116 (eq116 t18_Port t18_Code t22_Port t22_Code)) rfl rfl (fun hc24 hp => ?_) (fun hc24 hp => ?_)
          · refine WD.done rfl ?_
            subst hK1
            obtain rfl := endS (show some _ = some r from hp)
            exact WJ.rt 205 rfl rfl rfl (fun ids H' fr => ⟨fr.ext0, rfl⟩)
          · refine WD.done rfl ?_
            exact WJ.ag 207 rfl (by exact ⟨rfl, rfl, rfl, rfl, trivial⟩) rfl rfl rfl (ih1 (n, IntKind.i64.wrap (x13 + 1)) hp (Nat.lt_succ_self _))
/-! 67 slices.Equal[[]tipstaff/api.Sight,tipstaff/api.Sight] -/
def f67_l1 (x0 : List Sight) (x1 : List Sight) : Nat → Int → Option ((Unit) ⊕ (Bool))
  | 0, _ => none
  | n + 1, x13 =>
    (some (decide (x13 < (x0.length : Int)))).bind fun t14 =>
    if t14 then
      (rd x0 x13).bind fun t18 =>
      (rd x1 x13).bind fun t22 =>
      if t18 = t22 then
        f67_l1 x0 x1 n (IntKind.i64.wrap (x13 + 1))
      else
        some (Sum.inr (false : Bool))
    else
      some (Sum.inl ())

def f67 (k : Nat) (x0 : List Sight) (x1 : List Sight) : Option Bool :=
  if (x0.length : Int) = (x1.length : Int) then
    (f67_l1 x0 x1 k 0).bind fun s => match s with
      | .inl _ => 
        some true
      | .inr st => some st
  else
    some false
set_option maxHeartbeats 40000000 in
set_option maxRecDepth 20000 in
theorem f67_ok {k : Nat} {H : Hp} {a_x0 : Option Addr} {c_x0 : Nat} {a_x1 : Option Addr} {c_x1 : Nat} {x0 : List Sight} {x1 : List Sight} {r : Bool} (g_x0 : SlF 0 H SightC a_x0 c_x0 x0) (g_x1 : SlF 0 H SightC a_x1 c_x1 x1) (hp : f67 k x0 x1 = some r) :
    SCall Tryz.prog 67 [.slice a_x0 x0.length c_x0, .slice a_x1 x1.length c_x1] H (Ret fun v H' => Ext H H' ∧ R_4 r H.next H' v) := by
  unfold f67 at hp
  replace hp := topS hp
  refine SCall.g Tryz.func67 rfl rfl rfl rfl rfl (l := [(0, .v (.slice a_x0 x0.length c_x0)), (1, .v (.slice a_x1 x1.length c_x1))]) (fun _ => rfl) (fun B abB => ?_)
  refine WJ.cn 211 hp rfl rfl rfl rfl rfl rfl rfl rfl rfl (fun hc10 hp => ?_) (fun hc10 hp => ?_)
  · obtain rfl := endS (show some _ = some r from hp)
    exact WJ.rt 206 rfl rfl rfl (fun ids H' fr => ⟨fr.ext0, rfl⟩)
  · refine WJ.adv 11 rfl ?_
    obtain ⟨K2, hK2, hp⟩ : ∃ K, K = _ ∧ Option.bind _ K = some r := ⟨_, rfl, cutS hp⟩
    refine WJ.cut 2 (α := Unit) (fun y => []) (fun y => []) (fun y => []) (fun y => B) (fun y => K2 (Sum.inl ()) = some r) ?_ (fun j2 => ?_)
    · rintro u hp
      subst hK2
      show WJ _ _ _ B [] _ _ ⟨[], [], true, 0⟩
      obtain rfl := endS (show some _ = some r from hp)
      exact WJ.rt 204 rfl rfl rfl (fun ids H' fr => ⟨fr.ext0, rfl⟩)
    · refine WJ.lp 200 (α := Nat × Int) (fun y => [(0, .v (.slice a_x0 x0.length c_x0)), (1, .v (.slice a_x1 x1.length c_x1)), (12, .v (.int .i64 ((x0.length : Nat) : Int))), (13, .v (.int .i64 y.2))]) (fun y => []) (fun y => []) (fun y => B) (fun y => y.1) (fun y => Option.bind (f67_l1 x0 x1 y.1 y.2) K2 = some r) (k, 0) rfl hp (by exact ⟨rfl, rfl, rfl, rfl, trivial⟩) rfl rfl rfl ?_
      rintro ⟨n, x13⟩ hp ih2
      show WJ _ _ _ B [] _ _ ⟨[(0, .v (.slice a_x0 x0.length c_x0)), (1, .v (.slice a_x1 x1.length c_x1)), (12, .v (.int .i64 ((x0.length : Nat) : Int))), (13, .v (.int .i64 x13))], [], true, 0⟩
      replace hp : Option.bind (f67_l1 x0 x1 n x13) K2 = some r := hp
      cases n with
      | zero => rw [f67_l1] at hp; exact (noS hp).elim
      | succ n =>
        rw [f67_l1] at hp
        obtain ⟨t14, e14, hp⟩ := bindS hp
        refine WJ.cv 202 (b := t14) (H0 := ⟨.nil, 0, 0⟩) rfl rfl rfl rfl rfl rfl (by rw [← endS e14]; exact rfl) rfl ?_
        cases t14
        · replace hp := (itS hp).2 Bool.false_ne_true
          exact WJ.goto 4 (j2 () hp) rfl rfl (by exact trivial) rfl rfl rfl
        · replace hp := (itS hp).1 rfl
          refine WJ.dr 212 rfl gmix (by kernel_rfl) (by kernel_rfl) rfl ?_
          obtain ⟨⟨t18_Floor, t18_Panel, t18_Out⟩, e18, hp⟩ := bindS hp
          obtain ⟨b18, o18, cs18, i18, rfl, p18⟩ := g_x0.at e18 u54 sz119
          refine WD.hd (v := .pointer (some ⟨b18, o18, none⟩)) rfl rfl rfl rfl (fun _ _ _ _ _ => side_no) (fun ids H' fr => opD_indexAddr rfl (evV_eq _ _ _ _ _ rfl) (evV_eq _ _ _ _ _ rfl) (i18 _)) rfl ?_
          refine WD.hd (v := .agg ⟨[.int .i64 t18_Floor, .int .i64 t18_Panel, .bool t18_Out]⟩) rfl rfl rfl rfl (fun _ _ _ _ _ => side_no) (fun ids H' fr => opD_load rfl (evV_eq _ _ _ _ _ rfl) ((p18.mono (Nat.zero_le _) fr.ext0.abv).loadN (d := 0) ag119 sz119 rfl rfl)) rfl ?_
          obtain ⟨⟨t22_Floor, t22_Panel, t22_Out⟩, e22, hp⟩ := bindS hp
          obtain ⟨b22, o22, cs22, i22, rfl, p22⟩ := g_x1.at e22 u54 sz119
          refine WD.hd (v := .pointer (some ⟨b22, o22, none⟩)) rfl rfl rfl rfl (fun _ _ _ _ _ => side_no) (fun ids H' fr => opD_indexAddr rfl (evV_eq _ _ _ _ _ rfl) (evV_eq _ _ _ _ _ rfl) (i22 _)) rfl ?_
          refine WD.hd (v := .agg ⟨[.int .i64 t22_Floor, .int .i64 t22_Panel, .bool t22_Out]⟩) rfl rfl rfl rfl (fun _ _ _ _ _ => side_no) (fun ids H' fr => opD_load rfl (evV_eq _ _ _ _ _ rfl) ((p22.mono (Nat.zero_le _) fr.ext0.abv).loadN (d := 0) ag119 sz119 rfl rfl)) rfl ?_
          refine WD.cn hp rfl rfl rfl rfl rfl rfl (opD_neS rfl rfl rfl rfl gd119 (eq119 t18_Floor t18_Panel t18_Out t22_Floor t22_Panel t22_Out)) rfl rfl (fun hc24 hp => ?_) (fun hc24 hp => ?_)
          · refine WD.done rfl ?_
            subst hK2
            obtain rfl := endS (show some _ = some r from hp)
            exact WJ.rt 205 rfl rfl rfl (fun ids H' fr => ⟨fr.ext0, rfl⟩)
          · refine WD.done rfl ?_
            exact WJ.ag 207 rfl (by exact ⟨rfl, rfl, rfl, rfl, trivial⟩) rfl rfl rfl (ih2 (n, IntKind.i64.wrap (x13 + 1)) hp (Nat.lt_succ_self _))
/-! 42 tipstaff/product.same -/
def f42 (k : Nat) (x0 : ViewT) (x1 : ViewT) : Option Bool :=
  if x0.Tick = x1.Tick then
    if x0.Up = x1.Up then
      if x0.Down = x1.Down then
        if x0.Word = x1.Word then
          (f66 k x0.Replies x1.Replies).bind fun t36 =>
          if t36 then
            (f67 k x0.Sights x1.Sights).bind fun t43 =>
            some t43
          else
            some false
        else
          some false
      else
        some false
    else
      some false
  else
    some false
set_option maxHeartbeats 40000000 in
set_option maxRecDepth 20000 in
theorem f42_ok {k : Nat} {H : Hp} {a_x0_Replies : Option Addr} {c_x0_Replies : Nat} {a_x0_Sights : Option Addr} {c_x0_Sights : Nat} {a_x1_Replies : Option Addr} {c_x1_Replies : Nat} {a_x1_Sights : Option Addr} {c_x1_Sights : Nat} {x0 : ViewT} {x1 : ViewT} {r : Bool} (g_x0_Replies : SlF 0 H ReplyC a_x0_Replies c_x0_Replies x0.Replies) (g_x0_Sights : SlF 0 H SightC a_x0_Sights c_x0_Sights x0.Sights) (g_x1_Replies : SlF 0 H ReplyC a_x1_Replies c_x1_Replies x1.Replies) (g_x1_Sights : SlF 0 H SightC a_x1_Sights c_x1_Sights x1.Sights) (hp : f42 k x0 x1 = some r) :
    SCall Tryz.prog 42 [.agg ⟨[.int .i64 x0.Tick, .slice a_x0_Replies x0.Replies.length c_x0_Replies, .slice a_x0_Sights x0.Sights.length c_x0_Sights, .int .u64 x0.Up, .int .u64 x0.Down, .int .i64 x0.Word]⟩, .agg ⟨[.int .i64 x1.Tick, .slice a_x1_Replies x1.Replies.length c_x1_Replies, .slice a_x1_Sights x1.Sights.length c_x1_Sights, .int .u64 x1.Up, .int .u64 x1.Down, .int .i64 x1.Word]⟩] H (Ret fun v H' => Ext H H' ∧ R_4 r H.next H' v) := by
  obtain ⟨x0_Tick, x0_Replies, x0_Sights, x0_Up, x0_Down, x0_Word⟩ := x0
  obtain ⟨x1_Tick, x1_Replies, x1_Sights, x1_Up, x1_Down, x1_Word⟩ := x1
  unfold f42 at hp
  replace hp := topS hp
  refine SCall.g Tryz.func42 rfl rfl rfl rfl rfl (l := [(0, .v (.agg ⟨[.int .i64 x0_Tick, .slice a_x0_Replies x0_Replies.length c_x0_Replies, .slice a_x0_Sights x0_Sights.length c_x0_Sights, .int .u64 x0_Up, .int .u64 x0_Down, .int .i64 x0_Word]⟩)), (1, .v (.agg ⟨[.int .i64 x1_Tick, .slice a_x1_Replies x1_Replies.length c_x1_Replies, .slice a_x1_Sights x1_Sights.length c_x1_Sights, .int .u64 x1_Up, .int .u64 x1_Down, .int .i64 x1_Word]⟩))]) (fun _ => rfl) (fun B abB => ?_)
  refine WJ.ci 212 hp rfl rfl rfl rfl rfl rfl rfl rfl rfl (fun hc9 hp => ?_) (fun hc9 hp => ?_)
  · refine WJ.ci 205 hp rfl rfl rfl rfl rfl rfl rfl rfl rfl (fun hc15 hp => ?_) (fun hc15 hp => ?_)
    · refine WJ.ci 206 hp rfl rfl rfl rfl rfl rfl rfl rfl rfl (fun hc22 hp => ?_) (fun hc22 hp => ?_)
      · refine WJ.ci 206 hp rfl rfl rfl rfl rfl rfl rfl rfl rfl (fun hc29 hp => ?_) (fun hc29 hp => ?_)
        · obtain ⟨t36, e36, hp⟩ := bindS hp
          refine WJ.cl 206 (R := R_4 t36) (fun hm h k => R_4.mono hm h k) rfl (fun ids H' fr => f66_ok (g_x0_Replies.mono (Nat.zero_le _) fr.ext0.abv) (g_x1_Replies.mono (Nat.zero_le _) fr.ext0.abv) e36) ?_
          rintro v B1 ⟨abB1, ivB1⟩ rfl
          refine ⟨_, rfl, ?_⟩
          cases t36
          · replace hp := (itS hp).2 Bool.false_ne_true
            obtain rfl := endS (show some _ = some r from hp)
            exact WJ.rt 210 rfl rfl rfl (fun ids H' fr => ⟨fr.ext0, rfl⟩)
          · replace hp := (itS hp).1 rfl
            obtain ⟨t43, e43, hp⟩ := bindS hp
            refine WJ.cl 206 (R := R_4 t43) (fun hm h k => R_4.mono hm h k) rfl (fun ids H' fr => f67_ok (g_x0_Sights.mono (Nat.zero_le _) fr.ext0.abv) (g_x1_Sights.mono (Nat.zero_le _) fr.ext0.abv) e43) ?_
            rintro v B2 ⟨abB2, ivB2⟩ rfl
            refine ⟨_, rfl, ?_⟩
            obtain rfl := endS (show some _ = some r from hp)
            exact WJ.rt 203 rfl rfl rfl (fun ids H' fr => ⟨fr.ext0, rfl⟩)
        · obtain rfl := endS (show some _ = some r from hp)
          exact WJ.rt 217 rfl rfl rfl (fun ids H' fr => ⟨fr.ext0, rfl⟩)
      · obtain rfl := endS (show some _ = some r from hp)
        exact WJ.rt 224 rfl rfl rfl (fun ids H' fr => ⟨fr.ext0, rfl⟩)
    · obtain rfl := endS (show some _ = some r from hp)
      exact WJ.rt 231 rfl rfl rfl (fun ids H' fr => ⟨fr.ext0, rfl⟩)
  · obtain rfl := endS (show some _ = some r from hp)
    exact WJ.rt 237 rfl rfl rfl (fun ids H' fr => ⟨fr.ext0, rfl⟩)
/-! 20 tipstaff/product.Differ -/
def f20_l1 (k : Nat) (x0 : List ViewT) (x1 : List ViewT) : Nat → Int → Option ((Unit) ⊕ (Int))
  | 0, _ => none
  | n + 1, x11 =>
    (some (decide (x11 < (gmax (x0.length : Int) (x1.length : Int))))).bind fun t12 =>
    if t12 then
      if x11 ≥ (x0.length : Int) then
        some (Sum.inr (x11 : Int))
      else
        if x11 ≥ (x1.length : Int) then
          some (Sum.inr (x11 : Int))
        else
          (rd x0 x11).bind fun t27 =>
          (rd x1 x11).bind fun t31 =>
          (f42 k t27 t31).bind fun t33 =>
          if t33 then
            f20_l1 k x0 x1 n (IntKind.i64.wrap (x11 + 1))
          else
            some (Sum.inr (x11 : Int))
    else
      some (Sum.inl ())

def f20 (k : Nat) (x0 : List ViewT) (x1 : List ViewT) : Option Int :=
  (f20_l1 k x0 x1 k 0).bind fun s => match s with
    | .inl _ => 
      some (-1)
    | .inr st => some st
set_option maxHeartbeats 40000000 in
set_option maxRecDepth 20000 in
theorem f20_ok {k : Nat} {H : Hp} {a_x0 : Option Addr} {c_x0 : Nat} {a_x1 : Option Addr} {c_x1 : Nat} {x0 : List ViewT} {x1 : List ViewT} {r : Int} (g_x0 : SlF 0 H ViewTC a_x0 c_x0 x0) (g_x1 : SlF 0 H ViewTC a_x1 c_x1 x1) (hp : f20 k x0 x1 = some r) :
    SCall Tryz.prog 20 [.slice a_x0 x0.length c_x0, .slice a_x1 x1.length c_x1] H (Ret fun v H' => Ext H H' ∧ R_3 r H.next H' v) := by
  unfold f20 at hp
  replace hp := topS hp
  refine SCall.g Tryz.func20 rfl rfl rfl rfl rfl (l := [(0, .v (.slice a_x0 x0.length c_x0)), (1, .v (.slice a_x1 x1.length c_x1))]) (fun _ => rfl) (fun B abB => ?_)
  refine WJ.hd (v := .int .i64 (gmax ((x0.length : Nat) : Int) ((x1.length : Nat) : Int))) 211 rfl rfl rfl rfl (fun ids H' fr => opD_max rfl rfl rfl (evV_eq (v := .v (.int .i64 ((x0.length : Nat) : Int))) _ _ _ _ _ rfl) (evV_eq (v := .v (.int .i64 ((x1.length : Nat) : Int))) _ _ _ _ _ rfl)) rfl ?_
  refine WJ.adv 3 rfl ?_
  obtain ⟨K3, hK3, hp⟩ : ∃ K, K = _ ∧ Option.bind _ K = some r := ⟨_, rfl, cutS hp⟩
  refine WJ.cut 2 (α := Hp) (fun y => []) (fun y => []) (fun y => []) (fun y => y) (fun y => K3 (Sum.inl ()) = some r) ?_ (fun j3 => ?_)
  · rintro B3 hp
    subst hK3
    show WJ _ _ _ B3 [] _ _ ⟨[], [], true, 0⟩
    obtain rfl := endS (show some _ = some r from hp)
    exact WJ.rt 204 rfl rfl rfl (fun ids H' fr => ⟨fr.ext0, rfl⟩)
  · refine WJ.lp 200 (α := Nat × Int × Hp) (fun y => [(0, .v (.slice a_x0 x0.length c_x0)), (1, .v (.slice a_x1 x1.length c_x1)), (10, .v (.int .i64 (gmax ((x0.length : Nat) : Int) ((x1.length : Nat) : Int)))), (11, .v (.int .i64 y.2.1))]) (fun y => []) (fun y => []) (fun y => y.2.2) (fun y => y.1) (fun y => Option.bind (f20_l1 k x0 x1 y.1 y.2.1) K3 = some r) (k, 0, B) rfl hp (by exact ⟨rfl, rfl, rfl, rfl, trivial⟩) rfl rfl rfl ?_
    rintro ⟨n, x11, B1⟩ hp ih3
    show WJ _ _ _ B1 [] _ _ ⟨[(0, .v (.slice a_x0 x0.length c_x0)), (1, .v (.slice a_x1 x1.length c_x1)), (10, .v (.int .i64 (gmax ((x0.length : Nat) : Int) ((x1.length : Nat) : Int)))), (11, .v (.int .i64 x11))], [], true, 0⟩
    replace hp : Option.bind (f20_l1 k x0 x1 n x11) K3 = some r := hp
    cases n with
    | zero => rw [f20_l1] at hp; exact (noS hp).elim
    | succ n =>
      rw [f20_l1] at hp
      obtain ⟨t12, e12, hp⟩ := bindS hp
      refine WJ.cv 202 (b := t12) (H0 := ⟨.nil, 0, 0⟩) rfl rfl rfl rfl rfl rfl (by rw [← endS e12]; exact rfl) rfl ?_
      cases t12
      · replace hp := (itS hp).2 Bool.false_ne_true
        exact WJ.goto 4 (j3 B1 hp) rfl rfl (by exact trivial) rfl rfl rfl
      · replace hp := (itS hp).1 rfl
        refine WJ.dr 212 rfl gmix (by kernel_rfl) (by kernel_rfl) rfl ?_
        refine WD.ci hp rfl rfl rfl rfl rfl rfl rfl rfl rfl (fun hc17 hp => ?_) (fun hc17 hp => ?_)
        · refine WD.done rfl ?_
          subst hK3
          obtain rfl := endS (show some _ = some r from hp)
          exact WJ.rt 206 rfl rfl rfl (fun ids H' fr => ⟨fr.ext0, rfl⟩)
        · refine WD.ci hp rfl rfl rfl rfl rfl rfl rfl rfl rfl (fun hc22 hp => ?_) (fun hc22 hp => ?_)
          · refine WD.done rfl ?_
            subst hK3
            obtain rfl := endS (show some _ = some r from hp)
            exact WJ.rt 206 rfl rfl rfl (fun ids H' fr => ⟨fr.ext0, rfl⟩)
          · obtain ⟨⟨t27_Tick, t27_Replies, t27_Sights, t27_Up, t27_Down, t27_Word⟩, e27, hp⟩ := bindS hp
            obtain ⟨b27, o27, cs27, i27, ⟨a_t27_Replies, c_t27_Replies, a_t27_Sights, c_t27_Sights, rfl, g_t27_Replies, g_t27_Sights⟩, p27⟩ := g_x0.at e27 u52 sz56
            refine WD.hd (v := .pointer (some ⟨b27, o27, none⟩)) rfl rfl rfl rfl (fun _ _ _ _ _ => side_no) (fun ids H' fr => opD_indexAddr rfl (evV_eq _ _ _ _ _ rfl) (evV_eq _ _ _ _ _ rfl) (i27 _)) rfl ?_
            refine WD.hd (v := .agg ⟨[.int .i64 t27_Tick, .slice a_t27_Replies t27_Replies.length c_t27_Replies, .slice a_t27_Sights t27_Sights.length c_t27_Sights, .int .u64 t27_Up, .int .u64 t27_Down, .int .i64 t27_Word]⟩) rfl rfl rfl rfl (fun _ _ _ _ _ => side_no) (fun ids H' fr => opD_load rfl (evV_eq _ _ _ _ _ rfl) ((p27.mono (Nat.zero_le _) fr.ext0.abv).loadN (d := 0) ag56 sz56 rfl rfl)) rfl ?_
            obtain ⟨⟨t31_Tick, t31_Replies, t31_Sights, t31_Up, t31_Down, t31_Word⟩, e31, hp⟩ := bindS hp
            obtain ⟨b31, o31, cs31, i31, ⟨a_t31_Replies, c_t31_Replies, a_t31_Sights, c_t31_Sights, rfl, g_t31_Replies, g_t31_Sights⟩, p31⟩ := g_x1.at e31 u52 sz56
            refine WD.hd (v := .pointer (some ⟨b31, o31, none⟩)) rfl rfl rfl rfl (fun _ _ _ _ _ => side_no) (fun ids H' fr => opD_indexAddr rfl (evV_eq _ _ _ _ _ rfl) (evV_eq _ _ _ _ _ rfl) (i31 _)) rfl ?_
            refine WD.hd (v := .agg ⟨[.int .i64 t31_Tick, .slice a_t31_Replies t31_Replies.length c_t31_Replies, .slice a_t31_Sights t31_Sights.length c_t31_Sights, .int .u64 t31_Up, .int .u64 t31_Down, .int .i64 t31_Word]⟩) rfl rfl rfl rfl (fun _ _ _ _ _ => side_no) (fun ids H' fr => opD_load rfl (evV_eq _ _ _ _ _ rfl) ((p31.mono (Nat.zero_le _) fr.ext0.abv).loadN (d := 0) ag56 sz56 rfl rfl)) rfl ?_
            obtain ⟨t33, e33, hp⟩ := bindS hp
            refine WD.cl (R := R_4 t33) (fun hm h k => R_4.mono hm h k) rfl (fun ids H' fr => f42_ok (x0 := (ViewT.mk t27_Tick t27_Replies t27_Sights t27_Up t27_Down t27_Word)) (x1 := (ViewT.mk t31_Tick t31_Replies t31_Sights t31_Up t31_Down t31_Word)) (g_t27_Replies.mono (Nat.zero_le _) fr.ext0.abv) (g_t27_Sights.mono (Nat.zero_le _) fr.ext0.abv) (g_t31_Replies.mono (Nat.zero_le _) fr.ext0.abv) (g_t31_Sights.mono (Nat.zero_le _) fr.ext0.abv) e33) ?_
            rintro v B2 ⟨abB2, ivB2⟩ rfl
            refine ⟨_, rfl, ?_⟩
            cases t33
            · replace hp := (itS hp).2 Bool.false_ne_true
              refine WD.done rfl ?_
              subst hK3
              obtain rfl := endS (show some _ = some r from hp)
              exact WJ.rt 206 rfl rfl rfl (fun ids H' fr => ⟨fr.ext0, rfl⟩)
            · replace hp := (itS hp).1 rfl
              refine WD.done rfl ?_
              exact WJ.ag 207 rfl (by exact ⟨rfl, rfl, rfl, rfl, trivial⟩) rfl rfl rfl (ih3 (n, IntKind.i64.wrap (x11 + 1), B2) hp (Nat.lt_succ_self _))
/-! 43 tipstaff/tipstaffref39.same -/
def f43_l2 (x0_Sights : List Sight) (x1_Sights : List Sight) : Nat → Int → Option ((Bool) ⊕ (Unit))
  | 0, _ => none
  | n + 1, x6 =>
    if x6 < (x0_Sights.length : Int) then
      (rd x0_Sights x6).bind fun t79 =>
      (rd x1_Sights x6).bind fun t84 =>
      if t79 = t84 then
        f43_l2 x0_Sights x1_Sights n (IntKind.i64.wrap (x6 + 1))
      else
        some (Sum.inl (false : Bool))
    else
      some (Sum.inr ())

def f43_l1 (x0_Replies : List Reply) (x1_Replies : List Reply) : Nat → Int → Option ((Bool) ⊕ (Unit))
  | 0, _ => none
  | n + 1, x5 =>
    if x5 < (x0_Replies.length : Int) then
      (rd x0_Replies x5).bind fun t61 =>
      (rd x1_Replies x5).bind fun t66 =>
      if t61 = t66 then
        f43_l1 x0_Replies x1_Replies n (IntKind.i64.wrap (x5 + 1))
      else
        some (Sum.inl (false : Bool))
    else
      some (Sum.inr ())

def f43 (k : Nat) (x0 : ViewT) (x1 : ViewT) : Option Bool :=
  if x0.Tick = x1.Tick then
    if x0.Up = x1.Up then
      if x0.Down = x1.Down then
        if x0.Word = x1.Word then
          if (x0.Replies.length : Int) = (x1.Replies.length : Int) then
            if (x0.Sights.length : Int) = (x1.Sights.length : Int) then
              (f43_l1 x0.Replies x1.Replies k 0).bind fun s => match s with
                | .inl st => some st
                | .inr _ => 
                  (f43_l2 x0.Sights x1.Sights k 0).bind fun s => match s with
                    | .inl st => some st
                    | .inr _ => 
                      some true
            else
              some false
          else
            some false
        else
          some false
      else
        some false
    else
      some false
  else
    some false
set_option maxHeartbeats 40000000 in
set_option maxRecDepth 20000 in
theorem f43_ok {k : Nat} {H : Hp} {a_x0_Replies : Option Addr} {c_x0_Replies : Nat} {a_x0_Sights : Option Addr} {c_x0_Sights : Nat} {a_x1_Replies : Option Addr} {c_x1_Replies : Nat} {a_x1_Sights : Option Addr} {c_x1_Sights : Nat} {x0 : ViewT} {x1 : ViewT} {r : Bool} (g_x0_Replies : SlF 0 H ReplyC a_x0_Replies c_x0_Replies x0.Replies) (g_x0_Sights : SlF 0 H SightC a_x0_Sights c_x0_Sights x0.Sights) (g_x1_Replies : SlF 0 H ReplyC a_x1_Replies c_x1_Replies x1.Replies) (g_x1_Sights : SlF 0 H SightC a_x1_Sights c_x1_Sights x1.Sights) (hp : f43 k x0 x1 = some r) :
    SCall Tryz.prog 43 [.agg ⟨[.int .i64 x0.Tick, .slice a_x0_Replies x0.Replies.length c_x0_Replies, .slice a_x0_Sights x0.Sights.length c_x0_Sights, .int .u64 x0.Up, .int .u64 x0.Down, .int .i64 x0.Word]⟩, .agg ⟨[.int .i64 x1.Tick, .slice a_x1_Replies x1.Replies.length c_x1_Replies, .slice a_x1_Sights x1.Sights.length c_x1_Sights, .int .u64 x1.Up, .int .u64 x1.Down, .int .i64 x1.Word]⟩] H (Ret fun v H' => Ext H H' ∧ R_4 r H.next H' v) := by
  obtain ⟨x0_Tick, x0_Replies, x0_Sights, x0_Up, x0_Down, x0_Word⟩ := x0
  obtain ⟨x1_Tick, x1_Replies, x1_Sights, x1_Up, x1_Down, x1_Word⟩ := x1
  unfold f43 at hp
  replace hp := topS hp
  refine SCall.g Tryz.func43 rfl rfl rfl rfl rfl (l := [(0, .v (.agg ⟨[.int .i64 x0_Tick, .slice a_x0_Replies x0_Replies.length c_x0_Replies, .slice a_x0_Sights x0_Sights.length c_x0_Sights, .int .u64 x0_Up, .int .u64 x0_Down, .int .i64 x0_Word]⟩)), (1, .v (.agg ⟨[.int .i64 x1_Tick, .slice a_x1_Replies x1_Replies.length c_x1_Replies, .slice a_x1_Sights x1_Sights.length c_x1_Sights, .int .u64 x1_Up, .int .u64 x1_Down, .int .i64 x1_Word]⟩))]) (fun _ => rfl) (fun B abB => ?_)
  refine WJ.cn 213 hp rfl rfl rfl rfl rfl rfl rfl rfl rfl (fun hc11 hp => ?_) (fun hc11 hp => ?_)
  · obtain rfl := endS (show some _ = some r from hp)
    exact WJ.rt 245 rfl rfl rfl (fun ids H' fr => ⟨fr.ext0, rfl⟩)
  · refine WJ.cn 205 hp rfl rfl rfl rfl rfl rfl rfl rfl rfl (fun hc17 hp => ?_) (fun hc17 hp => ?_)
    · obtain rfl := endS (show some _ = some r from hp)
      exact WJ.rt 239 rfl rfl rfl (fun ids H' fr => ⟨fr.ext0, rfl⟩)
    · refine WJ.cn 206 hp rfl rfl rfl rfl rfl rfl rfl rfl rfl (fun hc24 hp => ?_) (fun hc24 hp => ?_)
      · obtain rfl := endS (show some _ = some r from hp)
        exact WJ.rt 232 rfl rfl rfl (fun ids H' fr => ⟨fr.ext0, rfl⟩)
      · refine WJ.cn 206 hp rfl rfl rfl rfl rfl rfl rfl rfl rfl (fun hc31 hp => ?_) (fun hc31 hp => ?_)
        · obtain rfl := endS (show some _ = some r from hp)
          exact WJ.rt 225 rfl rfl rfl (fun ids H' fr => ⟨fr.ext0, rfl⟩)
        · refine WJ.cn 208 hp rfl rfl rfl rfl rfl rfl rfl rfl rfl (fun hc40 hp => ?_) (fun hc40 hp => ?_)
          · obtain rfl := endS (show some _ = some r from hp)
            exact WJ.rt 216 rfl rfl rfl (fun ids H' fr => ⟨fr.ext0, rfl⟩)
          · refine WJ.cn 208 hp rfl rfl rfl rfl rfl rfl rfl rfl rfl (fun hc49 hp => ?_) (fun hc49 hp => ?_)
            · obtain rfl := endS (show some _ = some r from hp)
              exact WJ.rt 207 rfl rfl rfl (fun ids H' fr => ⟨fr.ext0, rfl⟩)
            · refine WJ.adv 10 rfl ?_
              obtain ⟨K4, hK4, hp⟩ : ∃ K, K = _ ∧ Option.bind _ K = some r := ⟨_, rfl, cutS hp⟩
              refine WJ.cut 2 (α := Unit) (fun y => [(2, .p 0 0), (3, .p 1 0)]) (fun y => [[.int .i64 x0_Tick, .slice a_x0_Replies x0_Replies.length c_x0_Replies, .slice a_x0_Sights x0_Sights.length c_x0_Sights, .int .u64 x0_Up, .int .u64 x0_Down, .int .i64 x0_Word], [.int .i64 x1_Tick, .slice a_x1_Replies x1_Replies.length c_x1_Replies, .slice a_x1_Sights x1_Sights.length c_x1_Sights, .int .u64 x1_Up, .int .u64 x1_Down, .int .i64 x1_Word]]) (fun y => []) (fun y => B) (fun y => K4 (Sum.inr ()) = some r) ?_ (fun j4 => ?_)
              · rintro u hp
                subst hK4
                show WJ _ _ _ B [] _ _ ⟨[(2, .p 0 0), (3, .p 1 0)], [[.int .i64 x0_Tick, .slice a_x0_Replies x0_Replies.length c_x0_Replies, .slice a_x0_Sights x0_Sights.length c_x0_Sights, .int .u64 x0_Up, .int .u64 x0_Down, .int .i64 x0_Word], [.int .i64 x1_Tick, .slice a_x1_Replies x1_Replies.length c_x1_Replies, .slice a_x1_Sights x1_Sights.length c_x1_Sights, .int .u64 x1_Up, .int .u64 x1_Down, .int .i64 x1_Word]], true, 0⟩
                refine WJ.adv 6 rfl ?_
                obtain ⟨K5, hK5, hp⟩ : ∃ K, K = _ ∧ Option.bind _ K = some r := ⟨_, rfl, cutS hp⟩
                refine WJ.cut 2 (α := Unit) (fun y => []) (fun y => [[.int .i64 x0_Tick, .slice a_x0_Replies x0_Replies.length c_x0_Replies, .slice a_x0_Sights x0_Sights.length c_x0_Sights, .int .u64 x0_Up, .int .u64 x0_Down, .int .i64 x0_Word], [.int .i64 x1_Tick, .slice a_x1_Replies x1_Replies.length c_x1_Replies, .slice a_x1_Sights x1_Sights.length c_x1_Sights, .int .u64 x1_Up, .int .u64 x1_Down, .int .i64 x1_Word]]) (fun y => []) (fun y => B) (fun y => K5 (Sum.inr ()) = some r) ?_ (fun j5 => ?_)
                · rintro u hp
                  subst hK5
                  show WJ _ _ _ B [] _ _ ⟨[], [[.int .i64 x0_Tick, .slice a_x0_Replies x0_Replies.length c_x0_Replies, .slice a_x0_Sights x0_Sights.length c_x0_Sights, .int .u64 x0_Up, .int .u64 x0_Down, .int .i64 x0_Word], [.int .i64 x1_Tick, .slice a_x1_Replies x1_Replies.length c_x1_Replies, .slice a_x1_Sights x1_Sights.length c_x1_Sights, .int .u64 x1_Up, .int .u64 x1_Down, .int .i64 x1_Word]], true, 0⟩
                  obtain rfl := endS (show some _ = some r from hp)
                  exact WJ.rt 204 rfl rfl rfl (fun ids H' fr => ⟨fr.ext0, rfl⟩)
                · refine WJ.lp 200 (α := Nat × Int) (fun y => [(2, .p 0 0), (3, .p 1 0), (6, .v (.int .i64 y.2))]) (fun y => [[.int .i64 x0_Tick, .slice a_x0_Replies x0_Replies.length c_x0_Replies, .slice a_x0_Sights x0_Sights.length c_x0_Sights, .int .u64 x0_Up, .int .u64 x0_Down, .int .i64 x0_Word], [.int .i64 x1_Tick, .slice a_x1_Replies x1_Replies.length c_x1_Replies, .slice a_x1_Sights x1_Sights.length c_x1_Sights, .int .u64 x1_Up, .int .u64 x1_Down, .int .i64 x1_Word]]) (fun y => []) (fun y => B) (fun y => y.1) (fun y => Option.bind (f43_l2 x0_Sights x1_Sights y.1 y.2) K5 = some r) (k, 0) rfl hp (by exact ⟨rfl, rfl, rfl, trivial⟩) rfl rfl rfl ?_
                  rintro ⟨n, x6⟩ hp ih5
                  show WJ _ _ _ B [] _ _ ⟨[(2, .p 0 0), (3, .p 1 0), (6, .v (.int .i64 x6))], [[.int .i64 x0_Tick, .slice a_x0_Replies x0_Replies.length c_x0_Replies, .slice a_x0_Sights x0_Sights.length c_x0_Sights, .int .u64 x0_Up, .int .u64 x0_Down, .int .i64 x0_Word], [.int .i64 x1_Tick, .slice a_x1_Replies x1_Replies.length c_x1_Replies, .slice a_x1_Sights x1_Sights.length c_x1_Sights, .int .u64 x1_Up, .int .u64 x1_Down, .int .i64 x1_Word]], true, 0⟩
                  replace hp : Option.bind (f43_l2 x0_Sights x1_Sights n x6) K5 = some r := hp
                  cases n with
                  | zero => rw [f43_l2] at hp; exact (noS hp).elim
                  | succ n =>
                    rw [f43_l2] at hp
                    refine WJ.ci 207 hp rfl rfl rfl rfl rfl rfl rfl rfl rfl (fun hc73 hp => ?_) (fun hc73 hp => ?_)
                    · refine WJ.dr 206 rfl gmix (by kernel_rfl) (by kernel_rfl) rfl ?_
                      obtain ⟨⟨t79_Floor, t79_Panel, t79_Out⟩, e79, hp⟩ := bindS hp
                      obtain ⟨b79, o79, cs79, i79, rfl, p79⟩ := g_x0_Sights.at e79 u54 sz119
                      refine WD.hd (v := .pointer (some ⟨b79, o79, none⟩)) rfl rfl rfl rfl (fun _ _ _ _ _ => side_no) (fun ids H' fr => opD_indexAddr rfl (evV_eq _ _ _ _ _ rfl) (evV_eq _ _ _ _ _ rfl) (i79 _)) rfl ?_
                      refine WD.hd (v := .agg ⟨[.int .i64 t79_Floor, .int .i64 t79_Panel, .bool t79_Out]⟩) rfl rfl rfl rfl (fun _ _ _ _ _ => side_no) (fun ids H' fr => opD_load rfl (evV_eq _ _ _ _ _ rfl) ((p79.mono (Nat.zero_le _) fr.ext0.abv).loadN (d := 0) ag119 sz119 rfl rfl)) rfl ?_
                      obtain ⟨⟨t84_Floor, t84_Panel, t84_Out⟩, e84, hp⟩ := bindS hp
                      obtain ⟨b84, o84, cs84, i84, rfl, p84⟩ := g_x1_Sights.at e84 u54 sz119
                      refine WD.hd (v := .pointer (some ⟨b84, o84, none⟩)) rfl rfl rfl rfl (fun _ _ _ _ _ => side_no) (fun ids H' fr => opD_indexAddr rfl (evV_eq _ _ _ _ _ rfl) (evV_eq _ _ _ _ _ rfl) (i84 _)) rfl ?_
                      refine WD.hd (v := .agg ⟨[.int .i64 t84_Floor, .int .i64 t84_Panel, .bool t84_Out]⟩) rfl rfl rfl rfl (fun _ _ _ _ _ => side_no) (fun ids H' fr => opD_load rfl (evV_eq _ _ _ _ _ rfl) ((p84.mono (Nat.zero_le _) fr.ext0.abv).loadN (d := 0) ag119 sz119 rfl rfl)) rfl ?_
                      refine WD.cn hp rfl rfl rfl rfl rfl rfl (opD_neS rfl rfl rfl rfl gd119 (eq119 t79_Floor t79_Panel t79_Out t84_Floor t84_Panel t84_Out)) rfl rfl (fun hc86 hp => ?_) (fun hc86 hp => ?_)
                      · refine WD.done rfl ?_
                        subst hK5
                        obtain rfl := endS (show some _ = some r from hp)
                        exact WJ.rt 205 rfl rfl rfl (fun ids H' fr => ⟨fr.ext0, rfl⟩)
                      · refine WD.done rfl ?_
                        exact WJ.ag 208 rfl (by exact ⟨rfl, rfl, rfl, trivial⟩) rfl rfl rfl (ih5 (n, IntKind.i64.wrap (x6 + 1)) hp (Nat.lt_succ_self _))
                    · exact WJ.goto 3 (j5 () hp) rfl rfl (by exact trivial) rfl rfl rfl
              · refine WJ.lp 200 (α := Nat × Int) (fun y => [(2, .p 0 0), (3, .p 1 0), (5, .v (.int .i64 y.2))]) (fun y => [[.int .i64 x0_Tick, .slice a_x0_Replies x0_Replies.length c_x0_Replies, .slice a_x0_Sights x0_Sights.length c_x0_Sights, .int .u64 x0_Up, .int .u64 x0_Down, .int .i64 x0_Word], [.int .i64 x1_Tick, .slice a_x1_Replies x1_Replies.length c_x1_Replies, .slice a_x1_Sights x1_Sights.length c_x1_Sights, .int .u64 x1_Up, .int .u64 x1_Down, .int .i64 x1_Word]]) (fun y => []) (fun y => B) (fun y => y.1) (fun y => Option.bind (f43_l1 x0_Replies x1_Replies y.1 y.2) K4 = some r) (k, 0) rfl hp (by exact ⟨rfl, rfl, rfl, trivial⟩) rfl rfl rfl ?_
                rintro ⟨n, x5⟩ hp ih4
                show WJ _ _ _ B [] _ _ ⟨[(2, .p 0 0), (3, .p 1 0), (5, .v (.int .i64 x5))], [[.int .i64 x0_Tick, .slice a_x0_Replies x0_Replies.length c_x0_Replies, .slice a_x0_Sights x0_Sights.length c_x0_Sights, .int .u64 x0_Up, .int .u64 x0_Down, .int .i64 x0_Word], [.int .i64 x1_Tick, .slice a_x1_Replies x1_Replies.length c_x1_Replies, .slice a_x1_Sights x1_Sights.length c_x1_Sights, .int .u64 x1_Up, .int .u64 x1_Down, .int .i64 x1_Word]], true, 0⟩
                replace hp : Option.bind (f43_l1 x0_Replies x1_Replies n x5) K4 = some r := hp
                cases n with
                | zero => rw [f43_l1] at hp; exact (noS hp).elim
                | succ n =>
                  rw [f43_l1] at hp
                  refine WJ.ci 207 hp rfl rfl rfl rfl rfl rfl rfl rfl rfl (fun hc55 hp => ?_) (fun hc55 hp => ?_)
                  · refine WJ.dr 206 rfl gmix (by kernel_rfl) (by kernel_rfl) rfl ?_
                    obtain ⟨⟨t61_Port, t61_Code⟩, e61, hp⟩ := bindS hp
                    obtain ⟨b61, o61, cs61, i61, rfl, p61⟩ := g_x0_Replies.at e61 u53 sz116
                    refine WD.hd (v := .pointer (some ⟨b61, o61, none⟩)) rfl rfl rfl rfl (fun _ _ _ _ _ => side_no) (fun ids H' fr => opD_indexAddr rfl (evV_eq _ _ _ _ _ rfl) (evV_eq _ _ _ _ _ rfl) (i61 _)) rfl ?_
                    refine WD.hd (v := .agg ⟨[.int .i64 t61_Port, .int .i64 t61_Code]⟩) rfl rfl rfl rfl (fun _ _ _ _ _ => side_no) (fun ids H' fr => opD_load rfl (evV_eq _ _ _ _ _ rfl) ((p61.mono (Nat.zero_le _) fr.ext0.abv).loadN (d := 0) ag116 sz116 rfl rfl)) rfl ?_
                    obtain ⟨⟨t66_Port, t66_Code⟩, e66, hp⟩ := bindS hp
                    obtain ⟨b66, o66, cs66, i66, rfl, p66⟩ := g_x1_Replies.at e66 u53 sz116
                    refine WD.hd (v := .pointer (some ⟨b66, o66, none⟩)) rfl rfl rfl rfl (fun _ _ _ _ _ => side_no) (fun ids H' fr => opD_indexAddr rfl (evV_eq _ _ _ _ _ rfl) (evV_eq _ _ _ _ _ rfl) (i66 _)) rfl ?_
                    refine WD.hd (v := .agg ⟨[.int .i64 t66_Port, .int .i64 t66_Code]⟩) rfl rfl rfl rfl (fun _ _ _ _ _ => side_no) (fun ids H' fr => opD_load rfl (evV_eq _ _ _ _ _ rfl) ((p66.mono (Nat.zero_le _) fr.ext0.abv).loadN (d := 0) ag116 sz116 rfl rfl)) rfl ?_
                    refine WD.cn hp rfl rfl rfl rfl rfl rfl (opD_neS rfl rfl rfl rfl gd116 (eq116 t61_Port t61_Code t66_Port t66_Code)) rfl rfl (fun hc68 hp => ?_) (fun hc68 hp => ?_)
                    · refine WD.done rfl ?_
                      subst hK4
                      obtain rfl := endS (show some _ = some r from hp)
                      exact WJ.rt 205 rfl rfl rfl (fun ids H' fr => ⟨fr.ext0, rfl⟩)
                    · refine WD.done rfl ?_
                      exact WJ.ag 208 rfl (by exact ⟨rfl, rfl, rfl, trivial⟩) rfl rfl rfl (ih4 (n, IntKind.i64.wrap (x5 + 1)) hp (Nat.lt_succ_self _))
                  · exact WJ.goto 3 (j4 () hp) rfl rfl (by exact ⟨rfl, rfl, trivial⟩) rfl rfl rfl
/-! 21 tipstaff/tipstaffref39.Differ -/
def f21_l1 (k : Nat) (x0 : List ViewT) (x1 : List ViewT) : Nat → Int → Option ((Int) ⊕ (Unit))
  | 0, _ => none
  | n + 1, x5 =>
    (if x5 < (x0.length : Int) then
      some (Sum.inl ())
    else
      if x5 < (x1.length : Int) then
        some (Sum.inl ())
      else
        some (Sum.inr ())).bind fun s => match s with
      | .inl _ => 
        if x5 ≥ (x0.length : Int) then
          some (Sum.inl (x5 : Int))
        else
          if x5 ≥ (x1.length : Int) then
            some (Sum.inl (x5 : Int))
          else
            (rd x0 x5).bind fun t31 =>
            (rd x1 x5).bind fun t35 =>
            (f43 k t31 t35).bind fun t37 =>
            if t37 then
              f21_l1 k x0 x1 n (IntKind.i64.wrap (x5 + 1))
            else
              some (Sum.inl (x5 : Int))
      | .inr st => some (Sum.inr st)

def f21 (k : Nat) (x0 : List ViewT) (x1 : List ViewT) : Option Int :=
  (f21_l1 k x0 x1 k 0).bind fun s => match s with
    | .inl st => some st
    | .inr _ => 
      some (-1)
set_option maxHeartbeats 40000000 in
set_option maxRecDepth 20000 in
theorem f21_ok {k : Nat} {H : Hp} {a_x0 : Option Addr} {c_x0 : Nat} {a_x1 : Option Addr} {c_x1 : Nat} {x0 : List ViewT} {x1 : List ViewT} {r : Int} (g_x0 : SlF 0 H ViewTC a_x0 c_x0 x0) (g_x1 : SlF 0 H ViewTC a_x1 c_x1 x1) (hp : f21 k x0 x1 = some r) :
    SCall Tryz.prog 21 [.slice a_x0 x0.length c_x0, .slice a_x1 x1.length c_x1] H (Ret fun v H' => Ext H H' ∧ R_3 r H.next H' v) := by
  unfold f21 at hp
  replace hp := topS hp
  refine SCall.g Tryz.func21 rfl rfl rfl rfl rfl (l := [(0, .v (.slice a_x0 x0.length c_x0)), (1, .v (.slice a_x1 x1.length c_x1))]) (fun _ => rfl) (fun B abB => ?_)
  refine WJ.adv 10 rfl ?_
  obtain ⟨K6, hK6, hp⟩ : ∃ K, K = _ ∧ Option.bind _ K = some r := ⟨_, rfl, cutS hp⟩
  refine WJ.cut 2 (α := Hp) (fun y => []) (fun y => []) (fun y => []) (fun y => y) (fun y => K6 (Sum.inr ()) = some r) ?_ (fun j6 => ?_)
  · rintro B3 hp
    subst hK6
    show WJ _ _ _ B3 [] _ _ ⟨[], [], true, 0⟩
    obtain rfl := endS (show some _ = some r from hp)
    exact WJ.rt 204 rfl rfl rfl (fun ids H' fr => ⟨fr.ext0, rfl⟩)
  · refine WJ.lp 200 (α := Nat × Int × Hp) (fun y => [(0, .v (.slice a_x0 x0.length c_x0)), (1, .v (.slice a_x1 x1.length c_x1)), (5, .v (.int .i64 y.2.1))]) (fun y => []) (fun y => []) (fun y => y.2.2) (fun y => y.1) (fun y => Option.bind (f21_l1 k x0 x1 y.1 y.2.1) K6 = some r) (k, 0, B) rfl hp (by exact ⟨rfl, rfl, rfl, trivial⟩) rfl rfl rfl ?_
    rintro ⟨n, x5, B1⟩ hp ih6
    show WJ _ _ _ B1 [] _ _ ⟨[(0, .v (.slice a_x0 x0.length c_x0)), (1, .v (.slice a_x1 x1.length c_x1)), (5, .v (.int .i64 x5))], [], true, 0⟩
    replace hp : Option.bind (f21_l1 k x0 x1 n x5) K6 = some r := hp
    cases n with
    | zero => rw [f21_l1] at hp; exact (noS hp).elim
    | succ n =>
      rw [f21_l1] at hp
      refine WJ.adv 2 rfl ?_
      obtain ⟨K7, hK7, hp⟩ : ∃ K, K = _ ∧ Option.bind _ K = some r := ⟨_, rfl, cutS hp⟩
      refine WJ.cut 2 (α := Unit) (fun y => [(0, .v (.slice a_x0 x0.length c_x0)), (1, .v (.slice a_x1 x1.length c_x1)), (5, .v (.int .i64 x5))]) (fun y => []) (fun y => []) (fun y => B1) (fun y => K7 ((Sum.inl ())) = some r) ?_ (fun j7 => ?_)
      · rintro u hp
        subst hK7
        show WJ _ _ _ B1 [] _ _ ⟨[(0, .v (.slice a_x0 x0.length c_x0)), (1, .v (.slice a_x1 x1.length c_x1)), (5, .v (.int .i64 x5))], [], true, 0⟩
        refine WJ.dr 203 rfl gmix (by kernel_rfl) (by kernel_rfl) rfl ?_
        refine WD.ci hp rfl rfl rfl rfl rfl rfl rfl rfl rfl (fun hc21 hp => ?_) (fun hc21 hp => ?_)
        · refine WD.done rfl ?_
          subst hK6
          obtain rfl := endS (show some _ = some r from hp)
          exact WJ.rt 206 rfl rfl rfl (fun ids H' fr => ⟨fr.ext0, rfl⟩)
        · refine WD.ci hp rfl rfl rfl rfl rfl rfl rfl rfl rfl (fun hc26 hp => ?_) (fun hc26 hp => ?_)
          · refine WD.done rfl ?_
            subst hK6
            obtain rfl := endS (show some _ = some r from hp)
            exact WJ.rt 206 rfl rfl rfl (fun ids H' fr => ⟨fr.ext0, rfl⟩)
          · obtain ⟨⟨t31_Tick, t31_Replies, t31_Sights, t31_Up, t31_Down, t31_Word⟩, e31, hp⟩ := bindS hp
            obtain ⟨b31, o31, cs31, i31, ⟨a_t31_Replies, c_t31_Replies, a_t31_Sights, c_t31_Sights, rfl, g_t31_Replies, g_t31_Sights⟩, p31⟩ := g_x0.at e31 u52 sz56
            refine WD.hd (v := .pointer (some ⟨b31, o31, none⟩)) rfl rfl rfl rfl (fun _ _ _ _ _ => side_no) (fun ids H' fr => opD_indexAddr rfl (evV_eq _ _ _ _ _ rfl) (evV_eq _ _ _ _ _ rfl) (i31 _)) rfl ?_
            refine WD.hd (v := .agg ⟨[.int .i64 t31_Tick, .slice a_t31_Replies t31_Replies.length c_t31_Replies, .slice a_t31_Sights t31_Sights.length c_t31_Sights, .int .u64 t31_Up, .int .u64 t31_Down, .int .i64 t31_Word]⟩) rfl rfl rfl rfl (fun _ _ _ _ _ => side_no) (fun ids H' fr => opD_load rfl (evV_eq _ _ _ _ _ rfl) ((p31.mono (Nat.zero_le _) fr.ext0.abv).loadN (d := 0) ag56 sz56 rfl rfl)) rfl ?_
            obtain ⟨⟨t35_Tick, t35_Replies, t35_Sights, t35_Up, t35_Down, t35_Word⟩, e35, hp⟩ := bindS hp
            obtain ⟨b35, o35, cs35, i35, ⟨a_t35_Replies, c_t35_Replies, a_t35_Sights, c_t35_Sights, rfl, g_t35_Replies, g_t35_Sights⟩, p35⟩ := g_x1.at e35 u52 sz56
            refine WD.hd (v := .pointer (some ⟨b35, o35, none⟩)) rfl rfl rfl rfl (fun _ _ _ _ _ => side_no) (fun ids H' fr => opD_indexAddr rfl (evV_eq _ _ _ _ _ rfl) (evV_eq _ _ _ _ _ rfl) (i35 _)) rfl ?_
            refine WD.hd (v := .agg ⟨[.int .i64 t35_Tick, .slice a_t35_Replies t35_Replies.length c_t35_Replies, .slice a_t35_Sights t35_Sights.length c_t35_Sights, .int .u64 t35_Up, .int .u64 t35_Down, .int .i64 t35_Word]⟩) rfl rfl rfl rfl (fun _ _ _ _ _ => side_no) (fun ids H' fr => opD_load rfl (evV_eq _ _ _ _ _ rfl) ((p35.mono (Nat.zero_le _) fr.ext0.abv).loadN (d := 0) ag56 sz56 rfl rfl)) rfl ?_
            obtain ⟨t37, e37, hp⟩ := bindS hp
            refine WD.cl (R := R_4 t37) (fun hm h k => R_4.mono hm h k) rfl (fun ids H' fr => f43_ok (x0 := (ViewT.mk t31_Tick t31_Replies t31_Sights t31_Up t31_Down t31_Word)) (x1 := (ViewT.mk t35_Tick t35_Replies t35_Sights t35_Up t35_Down t35_Word)) (g_t31_Replies.mono (Nat.zero_le _) fr.ext0.abv) (g_t31_Sights.mono (Nat.zero_le _) fr.ext0.abv) (g_t35_Replies.mono (Nat.zero_le _) fr.ext0.abv) (g_t35_Sights.mono (Nat.zero_le _) fr.ext0.abv) e37) ?_
            rintro v B2 ⟨abB2, ivB2⟩ rfl
            refine ⟨_, rfl, ?_⟩
            cases t37
            · replace hp := (itS hp).2 Bool.false_ne_true
              refine WD.done rfl ?_
              subst hK6
              obtain rfl := endS (show some _ = some r from hp)
              exact WJ.rt 206 rfl rfl rfl (fun ids H' fr => ⟨fr.ext0, rfl⟩)
            · replace hp := (itS hp).1 rfl
              refine WD.done rfl ?_
              exact WJ.ag 208 rfl (by exact ⟨rfl, rfl, rfl, trivial⟩) rfl rfl rfl (ih6 (n, IntKind.i64.wrap (x5 + 1), B2) hp (Nat.lt_succ_self _))
      · refine WJ.ci 204 hp rfl rfl rfl rfl rfl rfl rfl rfl rfl (fun hc9 hp => ?_) (fun hc9 hp => ?_)
        · exact WJ.goto 9 (j7 () hp) rfl rfl (by exact ⟨rfl, rfl, rfl, trivial⟩) rfl rfl rfl
        · refine WJ.ci 204 hp rfl rfl rfl rfl rfl rfl rfl rfl rfl (fun hc14 hp => ?_) (fun hc14 hp => ?_)
          · exact WJ.goto 4 (j7 () hp) rfl rfl (by exact ⟨rfl, rfl, rfl, trivial⟩) rfl rfl rfl
          · subst hK7
            exact WJ.goto 4 (j6 B1 hp) rfl rfl (by exact trivial) rfl rfl rfl
/-! 4 tipstaff/tipstafflaw39.ProductDiffers -/
def f4_l2 (x1 : List ViewT) : Nat → Int → Option ((Bool) ⊕ (Unit))
  | 0, _ => none
  | n + 1, x6 =>
    if x6 < (x1.length : Int) then
      (rd x1 x6).bind fun t47 =>
      if (t47.Replies.length : Int) > 20 then
        (f7).bind fun t61 =>
        some (Sum.inl (t61 : Bool))
      else
        (rd x1 x6).bind fun t55 =>
        if (t55.Sights.length : Int) > 20 then
          (f7).bind fun t61 =>
          some (Sum.inl (t61 : Bool))
        else
          f4_l2 x1 n (IntKind.i64.wrap (x6 + 1))
    else
      some (Sum.inr ())

def f4_l1 (x0 : List ViewT) : Nat → Int → Option ((Bool) ⊕ (Unit))
  | 0, _ => none
  | n + 1, x5 =>
    if x5 < (x0.length : Int) then
      (rd x0 x5).bind fun t24 =>
      if (t24.Replies.length : Int) > 20 then
        (f7).bind fun t38 =>
        some (Sum.inl (t38 : Bool))
      else
        (rd x0 x5).bind fun t32 =>
        if (t32.Sights.length : Int) > 20 then
          (f7).bind fun t38 =>
          some (Sum.inl (t38 : Bool))
        else
          f4_l1 x0 n (IntKind.i64.wrap (x5 + 1))
    else
      some (Sum.inr ())

def f4 (k : Nat) (x0 : List ViewT) (x1 : List ViewT) : Option Bool :=
  if (x0.length : Int) > 100 then
    (f7).bind fun t15 =>
    some t15
  else
    if (x1.length : Int) > 100 then
      (f7).bind fun t15 =>
      some t15
    else
      (f4_l1 x0 k 0).bind fun s => match s with
        | .inl st => some st
        | .inr _ => 
          (f4_l2 x1 k 0).bind fun s => match s with
            | .inl st => some st
            | .inr _ => 
              (f20 k x0 x1).bind fun t64 =>
              (f21 k x0 x1).bind fun t67 =>
              if t64 = t67 then
                (f7).bind fun t70 =>
                some t70
              else
                some false
set_option maxHeartbeats 40000000 in
set_option maxRecDepth 20000 in
theorem f4_ok {k : Nat} {H : Hp} {a_x0 : Option Addr} {c_x0 : Nat} {a_x1 : Option Addr} {c_x1 : Nat} {x0 : List ViewT} {x1 : List ViewT} {r : Bool} (g_x0 : SlF 0 H ViewTC a_x0 c_x0 x0) (g_x1 : SlF 0 H ViewTC a_x1 c_x1 x1) (hp : f4 k x0 x1 = some r) :
    SCall Tryz.prog 4 [.slice a_x0 x0.length c_x0, .slice a_x1 x1.length c_x1] H (Ret fun v H' => Ext H H' ∧ R_4 r H.next H' v) := by
  unfold f4 at hp
  replace hp := topS hp
  refine SCall.g Tryz.func4 rfl rfl rfl rfl rfl (l := [(0, .v (.slice a_x0 x0.length c_x0)), (1, .v (.slice a_x1 x1.length c_x1))]) (fun _ => rfl) (fun B abB => ?_)
  refine WJ.ci 209 hp rfl rfl rfl rfl rfl rfl rfl rfl rfl (fun hc9 hp => ?_) (fun hc9 hp => ?_)
  · obtain ⟨t15, e15, hp⟩ := bindS hp
    refine WJ.cl 209 (R := R_4 t15) (fun hm h k => R_4.mono hm h k) rfl (fun ids H' fr => f7_ok e15) ?_
    rintro v B1 ⟨abB1, ivB1⟩ rfl
    refine ⟨_, rfl, ?_⟩
    obtain rfl := endS (show some _ = some r from hp)
    exact WJ.rt 202 rfl rfl rfl (fun ids H' fr => ⟨fr.ext0, rfl⟩)
  · refine WJ.ci 203 hp rfl rfl rfl rfl rfl rfl rfl rfl rfl (fun hc13 hp => ?_) (fun hc13 hp => ?_)
    · obtain ⟨t15, e15, hp⟩ := bindS hp
      refine WJ.cl 205 (R := R_4 t15) (fun hm h k => R_4.mono hm h k) rfl (fun ids H' fr => f7_ok e15) ?_
      rintro v B2 ⟨abB2, ivB2⟩ rfl
      refine ⟨_, rfl, ?_⟩
      obtain rfl := endS (show some _ = some r from hp)
      exact WJ.rt 202 rfl rfl rfl (fun ids H' fr => ⟨fr.ext0, rfl⟩)
    · refine WJ.adv 10 rfl ?_
      obtain ⟨K8, hK8, hp⟩ : ∃ K, K = _ ∧ Option.bind _ K = some r := ⟨_, rfl, cutS hp⟩
      refine WJ.cut 2 (α := Hp) (fun y => [(0, .v (.slice a_x0 x0.length c_x0)), (1, .v (.slice a_x1 x1.length c_x1))]) (fun y => []) (fun y => []) (fun y => y) (fun y => K8 (Sum.inr ()) = some r) ?_ (fun j8 => ?_)
      · rintro B6 hp
        subst hK8
        show WJ _ _ _ B6 [] _ _ ⟨[(0, .v (.slice a_x0 x0.length c_x0)), (1, .v (.slice a_x1 x1.length c_x1))], [], true, 0⟩
        refine WJ.adv 6 rfl ?_
        obtain ⟨K9, hK9, hp⟩ : ∃ K, K = _ ∧ Option.bind _ K = some r := ⟨_, rfl, cutS hp⟩
        refine WJ.cut 2 (α := Hp) (fun y => [(0, .v (.slice a_x0 x0.length c_x0)), (1, .v (.slice a_x1 x1.length c_x1))]) (fun y => []) (fun y => []) (fun y => y) (fun y => K9 (Sum.inr ()) = some r) ?_ (fun j9 => ?_)
        · rintro B10 hp
          subst hK9
          show WJ _ _ _ B10 [] _ _ ⟨[(0, .v (.slice a_x0 x0.length c_x0)), (1, .v (.slice a_x1 x1.length c_x1))], [], true, 0⟩
          obtain ⟨t64, e64, hp⟩ := bindS hp
          refine WJ.cl 204 (R := R_3 t64) (fun hm h k => R_3.mono hm h k) rfl (fun ids H' fr => f20_ok (g_x0.mono (Nat.zero_le _) fr.ext0.abv) (g_x1.mono (Nat.zero_le _) fr.ext0.abv) e64) ?_
          rintro v B11 ⟨abB11, ivB11⟩ rfl
          refine ⟨_, rfl, ?_⟩
          obtain ⟨t67, e67, hp⟩ := bindS hp
          refine WJ.cl 202 (R := R_3 t67) (fun hm h k => R_3.mono hm h k) rfl (fun ids H' fr => f21_ok (g_x0.mono (Nat.zero_le _) fr.ext0.abv) (g_x1.mono (Nat.zero_le _) fr.ext0.abv) e67) ?_
          rintro v B12 ⟨abB12, ivB12⟩ rfl
          refine ⟨_, rfl, ?_⟩
          refine WJ.ci 200 hp rfl rfl rfl rfl rfl rfl rfl rfl rfl (fun hc68 hp => ?_) (fun hc68 hp => ?_)
          · obtain ⟨t70, e70, hp⟩ := bindS hp
            refine WJ.cl 201 (R := R_4 t70) (fun hm h k => R_4.mono hm h k) rfl (fun ids H' fr => f7_ok e70) ?_
            rintro v B13 ⟨abB13, ivB13⟩ rfl
            refine ⟨_, rfl, ?_⟩
            obtain rfl := endS (show some _ = some r from hp)
            exact WJ.rt 203 rfl rfl rfl (fun ids H' fr => ⟨fr.ext0, rfl⟩)
          · obtain rfl := endS (show some _ = some r from hp)
            exact WJ.rt 205 rfl rfl rfl (fun ids H' fr => ⟨fr.ext0, rfl⟩)
        · refine WJ.lp 200 (α := Nat × Int × Hp) (fun y => [(0, .v (.slice a_x0 x0.length c_x0)), (1, .v (.slice a_x1 x1.length c_x1)), (6, .v (.int .i64 y.2.1))]) (fun y => []) (fun y => []) (fun y => y.2.2) (fun y => y.1) (fun y => Option.bind (f4_l2 x1 y.1 y.2.1) K9 = some r) (k, 0, B6) rfl hp (by exact ⟨rfl, rfl, rfl, trivial⟩) rfl rfl rfl ?_
          rintro ⟨n, x6, B7⟩ hp ih9
          show WJ _ _ _ B7 [] _ _ ⟨[(0, .v (.slice a_x0 x0.length c_x0)), (1, .v (.slice a_x1 x1.length c_x1)), (6, .v (.int .i64 x6))], [], true, 0⟩
          replace hp : Option.bind (f4_l2 x1 n x6) K9 = some r := hp
          cases n with
          | zero => rw [f4_l2] at hp; exact (noS hp).elim
          | succ n =>
            rw [f4_l2] at hp
            refine WJ.ci 206 hp rfl rfl rfl rfl rfl rfl rfl rfl rfl (fun hc42 hp => ?_) (fun hc42 hp => ?_)
            · obtain ⟨⟨t47_Tick, t47_Replies, t47_Sights, t47_Up, t47_Down, t47_Word⟩, e47, hp⟩ := bindS hp
              obtain ⟨b47, o47, cs47, i47, ⟨a_t47_Replies, c_t47_Replies, a_t47_Sights, c_t47_Sights, rfl, g_t47_Replies, g_t47_Sights⟩, p47⟩ := g_x1.at e47 u52 sz56
              refine WJ.hd (v := .pointer (some ⟨b47, o47, none⟩)) 209 rfl rfl rfl rfl (fun ids H' fr => opD_indexAddr rfl (evV_eq _ _ _ _ _ rfl) (evV_eq _ _ _ _ _ rfl) (i47 _)) rfl ?_
              refine WJ.hd (v := .slice a_t47_Replies t47_Replies.length c_t47_Replies) 201 rfl rfl rfl rfl (fun ids H' fr => opD_load rfl (evV_eq _ _ _ _ _ rfl) ((p47.mono (Nat.zero_le _) fr.ext0.abv).load (d := 1) ag53 rfl)) rfl ?_
              refine WJ.ci 201 hp rfl rfl rfl rfl rfl rfl rfl rfl rfl (fun hc51 hp => ?_) (fun hc51 hp => ?_)
              · obtain ⟨t61, e61, hp⟩ := bindS hp
                refine WJ.cl 213 (R := R_4 t61) (fun hm h k => R_4.mono hm h k) rfl (fun ids H' fr => f7_ok e61) ?_
                rintro v B8 ⟨abB8, ivB8⟩ rfl
                refine ⟨_, rfl, ?_⟩
                subst hK9
                obtain rfl := endS (show some _ = some r from hp)
                exact WJ.rt 202 rfl rfl rfl (fun ids H' fr => ⟨fr.ext0, rfl⟩)
              · obtain ⟨⟨t55_Tick, t55_Replies, t55_Sights, t55_Up, t55_Down, t55_Word⟩, e55, hp⟩ := bindS hp
                obtain ⟨b55, o55, cs55, i55, ⟨a_t55_Replies, c_t55_Replies, a_t55_Sights, c_t55_Sights, rfl, g_t55_Replies, g_t55_Sights⟩, p55⟩ := g_x1.at e55 u52 sz56
                refine WJ.hd (v := .pointer (some ⟨b55, o55, none⟩)) 203 rfl rfl rfl rfl (fun ids H' fr => opD_indexAddr rfl (evV_eq _ _ _ _ _ rfl) (evV_eq _ _ _ _ _ rfl) (i55 _)) rfl ?_
                refine WJ.hd (v := .slice a_t55_Sights t55_Sights.length c_t55_Sights) 201 rfl rfl rfl rfl (fun ids H' fr => opD_load rfl (evV_eq _ _ _ _ _ rfl) ((p55.mono (Nat.zero_le _) fr.ext0.abv).load (d := 2) ag54 rfl)) rfl ?_
                refine WJ.ci 201 hp rfl rfl rfl rfl rfl rfl rfl rfl rfl (fun hc59 hp => ?_) (fun hc59 hp => ?_)
                · obtain ⟨t61, e61, hp⟩ := bindS hp
                  refine WJ.cl 205 (R := R_4 t61) (fun hm h k => R_4.mono hm h k) rfl (fun ids H' fr => f7_ok e61) ?_
                  rintro v B9 ⟨abB9, ivB9⟩ rfl
                  refine ⟨_, rfl, ?_⟩
                  subst hK9
                  obtain rfl := endS (show some _ = some r from hp)
                  exact WJ.rt 202 rfl rfl rfl (fun ids H' fr => ⟨fr.ext0, rfl⟩)
                · exact WJ.ag 210 rfl (by exact ⟨rfl, rfl, rfl, trivial⟩) rfl rfl rfl (ih9 (n, IntKind.i64.wrap (x6 + 1), B7) hp (Nat.lt_succ_self _))
            · exact WJ.goto 3 (j9 B7 hp) rfl rfl (by exact ⟨rfl, rfl, trivial⟩) rfl rfl rfl
      · refine WJ.lp 200 (α := Nat × Int × Hp) (fun y => [(0, .v (.slice a_x0 x0.length c_x0)), (1, .v (.slice a_x1 x1.length c_x1)), (5, .v (.int .i64 y.2.1))]) (fun y => []) (fun y => []) (fun y => y.2.2) (fun y => y.1) (fun y => Option.bind (f4_l1 x0 y.1 y.2.1) K8 = some r) (k, 0, B) rfl hp (by exact ⟨rfl, rfl, rfl, trivial⟩) rfl rfl rfl ?_
        rintro ⟨n, x5, B3⟩ hp ih8
        show WJ _ _ _ B3 [] _ _ ⟨[(0, .v (.slice a_x0 x0.length c_x0)), (1, .v (.slice a_x1 x1.length c_x1)), (5, .v (.int .i64 x5))], [], true, 0⟩
        replace hp : Option.bind (f4_l1 x0 n x5) K8 = some r := hp
        cases n with
        | zero => rw [f4_l1] at hp; exact (noS hp).elim
        | succ n =>
          rw [f4_l1] at hp
          refine WJ.ci 206 hp rfl rfl rfl rfl rfl rfl rfl rfl rfl (fun hc19 hp => ?_) (fun hc19 hp => ?_)
          · obtain ⟨⟨t24_Tick, t24_Replies, t24_Sights, t24_Up, t24_Down, t24_Word⟩, e24, hp⟩ := bindS hp
            obtain ⟨b24, o24, cs24, i24, ⟨a_t24_Replies, c_t24_Replies, a_t24_Sights, c_t24_Sights, rfl, g_t24_Replies, g_t24_Sights⟩, p24⟩ := g_x0.at e24 u52 sz56
            refine WJ.hd (v := .pointer (some ⟨b24, o24, none⟩)) 209 rfl rfl rfl rfl (fun ids H' fr => opD_indexAddr rfl (evV_eq _ _ _ _ _ rfl) (evV_eq _ _ _ _ _ rfl) (i24 _)) rfl ?_
            refine WJ.hd (v := .slice a_t24_Replies t24_Replies.length c_t24_Replies) 201 rfl rfl rfl rfl (fun ids H' fr => opD_load rfl (evV_eq _ _ _ _ _ rfl) ((p24.mono (Nat.zero_le _) fr.ext0.abv).load (d := 1) ag53 rfl)) rfl ?_
            refine WJ.ci 201 hp rfl rfl rfl rfl rfl rfl rfl rfl rfl (fun hc28 hp => ?_) (fun hc28 hp => ?_)
            · obtain ⟨t38, e38, hp⟩ := bindS hp
              refine WJ.cl 213 (R := R_4 t38) (fun hm h k => R_4.mono hm h k) rfl (fun ids H' fr => f7_ok e38) ?_
              rintro v B4 ⟨abB4, ivB4⟩ rfl
              refine ⟨_, rfl, ?_⟩
              subst hK8
              obtain rfl := endS (show some _ = some r from hp)
              exact WJ.rt 202 rfl rfl rfl (fun ids H' fr => ⟨fr.ext0, rfl⟩)
            · obtain ⟨⟨t32_Tick, t32_Replies, t32_Sights, t32_Up, t32_Down, t32_Word⟩, e32, hp⟩ := bindS hp
              obtain ⟨b32, o32, cs32, i32, ⟨a_t32_Replies, c_t32_Replies, a_t32_Sights, c_t32_Sights, rfl, g_t32_Replies, g_t32_Sights⟩, p32⟩ := g_x0.at e32 u52 sz56
              refine WJ.hd (v := .pointer (some ⟨b32, o32, none⟩)) 203 rfl rfl rfl rfl (fun ids H' fr => opD_indexAddr rfl (evV_eq _ _ _ _ _ rfl) (evV_eq _ _ _ _ _ rfl) (i32 _)) rfl ?_
              refine WJ.hd (v := .slice a_t32_Sights t32_Sights.length c_t32_Sights) 201 rfl rfl rfl rfl (fun ids H' fr => opD_load rfl (evV_eq _ _ _ _ _ rfl) ((p32.mono (Nat.zero_le _) fr.ext0.abv).load (d := 2) ag54 rfl)) rfl ?_
              refine WJ.ci 201 hp rfl rfl rfl rfl rfl rfl rfl rfl rfl (fun hc36 hp => ?_) (fun hc36 hp => ?_)
              · obtain ⟨t38, e38, hp⟩ := bindS hp
                refine WJ.cl 205 (R := R_4 t38) (fun hm h k => R_4.mono hm h k) rfl (fun ids H' fr => f7_ok e38) ?_
                rintro v B5 ⟨abB5, ivB5⟩ rfl
                refine ⟨_, rfl, ?_⟩
                subst hK8
                obtain rfl := endS (show some _ = some r from hp)
                exact WJ.rt 202 rfl rfl rfl (fun ids H' fr => ⟨fr.ext0, rfl⟩)
              · exact WJ.ag 210 rfl (by exact ⟨rfl, rfl, rfl, trivial⟩) rfl rfl rfl (ih8 (n, IntKind.i64.wrap (x5 + 1), B3) hp (Nat.lt_succ_self _))
          · exact WJ.goto 3 (j8 B3 hp) rfl rfl (by exact ⟨rfl, rfl, trivial⟩) rfl rfl rfl
end
end Go.Proofs.YtiodokcfjgmpaaaGreatDoor
