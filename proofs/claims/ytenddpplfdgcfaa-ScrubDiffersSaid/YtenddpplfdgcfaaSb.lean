import Derived.Test.YtenddpplfdgcfaaSa
import Derived.Test.YtenddpplfdgcfaaD48
import Derived.Test.YtenddpplfdgcfaaD49
import Derived.Test.YtenddpplfdgcfaaD50
set_option linter.unusedVariables false
set_option linter.unusedSimpArgs false
namespace Go.Proofs.Ytenddpplfdgcfaa
open Go Go.Det Go.RowKit
theorem gmix : Try.prog.follows .mixedOrders = true := by kernel_rfl
def ShownC : Cod Shown := .flat 6 Shown.cs fun _ => rfl
def SightC : Cod Sight := .flat 3 Sight.cs fun _ => rfl
theorem u22 : Try.prog.underlying 22 = some (.slice 3) := by kernel_rfl
theorem u23 : Try.prog.underlying 23 = some (.slice 36) := by kernel_rfl
theorem u26 : Try.prog.underlying 26 = some (.slice 32) := by kernel_rfl
theorem sz3 : sizeD Try.prog 3 = some 1 := by kernel_rfl
theorem by3 : bytesD Try.prog 3 = some 8 := by kernel_rfl
theorem ag3 : isAggD Try.prog 3 = some false := by kernel_rfl
theorem sz22 : sizeD Try.prog 22 = some 1 := by kernel_rfl
theorem by22 : bytesD Try.prog 22 = some 24 := by kernel_rfl
theorem ag22 : isAggD Try.prog 22 = some false := by kernel_rfl
theorem sz23 : sizeD Try.prog 23 = some 1 := by kernel_rfl
theorem by23 : bytesD Try.prog 23 = some 24 := by kernel_rfl
theorem ag23 : isAggD Try.prog 23 = some false := by kernel_rfl
theorem sz26 : sizeD Try.prog 26 = some 1 := by kernel_rfl
theorem by26 : bytesD Try.prog 26 = some 24 := by kernel_rfl
theorem ag26 : isAggD Try.prog 26 = some false := by kernel_rfl
theorem sz32 : sizeD Try.prog 32 = some 3 := by kernel_rfl
theorem by32 : bytesD Try.prog 32 = some 24 := by kernel_rfl
theorem ag32 : isAggD Try.prog 32 = some true := by kernel_rfl
theorem sz36 : sizeD Try.prog 36 = some 6 := by kernel_rfl
theorem by36 : bytesD Try.prog 36 = some 32 := by kernel_rfl
theorem ag36 : isAggD Try.prog 36 = some true := by kernel_rfl
theorem el22 {c : Call} (h : c.argTypes = #[22, 22]) : Elem Try.prog c 22 3 1 8 := ⟨by rw [h]; rfl, ⟨22, _, by rw [h]; rfl, u22, by intro k; simp⟩, u22, sz3, by3, ⟨(zeroD Try.prog 3).getD undef, by kernel_rfl, by kernel_rfl⟩, by decide⟩
theorem el23 {c : Call} (h : c.argTypes = #[23, 23]) : Elem Try.prog c 23 36 6 32 := ⟨by rw [h]; rfl, ⟨23, _, by rw [h]; rfl, u23, by intro k; simp⟩, u23, sz36, by36, ⟨(zeroD Try.prog 36).getD undef, by kernel_rfl, by kernel_rfl⟩, by decide⟩
theorem el26 {c : Call} (h : c.argTypes = #[26, 26]) : Elem Try.prog c 26 32 3 24 := ⟨by rw [h]; rfl, ⟨26, _, by rw [h]; rfl, u26, by intro k; simp⟩, u26, sz32, by32, ⟨(zeroD Try.prog 32).getD undef, by kernel_rfl, by kernel_rfl⟩, by decide⟩
theorem gd32 : Try.prog.eqGuardType Try.prog.depth 32 = false := by kernel_rfl
theorem eq32 (x0 : Int) (x1 : Int) (x2 : Bool) (y0 : Int) (y1 : Int) (y2 : Bool) : eqT Try.prog 20 32 (.agg ⟨[.int .i64 x0, .int .i64 x1, .bool x2]⟩) (.agg ⟨[.int .i64 y0, .int .i64 y1, .bool y2]⟩) = some (decide ((Sight.mk x0 x1 x2) = (Sight.mk y0 y1 y2))) := by
  have h : eqT Try.prog 20 32 (.agg ⟨[.int .i64 x0, .int .i64 x1, .bool x2]⟩) (.agg ⟨[.int .i64 y0, .int .i64 y1, .bool y2]⟩) = some (x0 == y0 && (x1 == y1 && (x2 == y2 && true))) := by kernel_rfl
  rw [h, Option.some.injEq, Bool.eq_iff_iff]; simp
def R_27 (r : Int) (n : Nat) (H : Hp) (v : Value) : Prop := v = .int .i64 r
theorem R_27.mono {r : Int} {m n : Nat} {H B : Hp} {v : Value} (hm : m ≤ n) (h : Abv n H B) (k : R_27 r n H v) : R_27 r m B v := by
  exact k
def R_27_3 (r : Int × Int) (n : Nat) (H : Hp) (v : Value) : Prop := v = .tuple ⟨[.int .i64 r.1, .int .i64 r.2]⟩
theorem R_27_3.mono {r : Int × Int} {m n : Nat} {H B : Hp} {v : Value} (hm : m ≤ n) (h : Abv n H B) (k : R_27_3 r n H v) : R_27_3 r m B v := by
  exact k
def R_32 (r : Sight) (n : Nat) (H : Hp) (v : Value) : Prop := v = .agg ⟨[.int .i64 r.floor, .int .i64 r.panel, .bool r.out]⟩
theorem R_32.mono {r : Sight} {m n : Nat} {H B : Hp} {v : Value} (hm : m ≤ n) (h : Abv n H B) (k : R_32 r n H v) : R_32 r m B v := by
  exact k
def R_22 (r : List Int) (n : Nat) (H : Hp) (v : Value) : Prop := ∃ (a0_0 : Option Addr) (c0_0 : Nat), v = .slice a0_0 r.length c0_0 ∧ SlF n H intC a0_0 c0_0 r
theorem R_22.mono {r : List Int} {m n : Nat} {H B : Hp} {v : Value} (hm : m ≤ n) (h : Abv n H B) (k : R_22 r n H v) : R_22 r m B v := by
  obtain ⟨a0_0, c0_0, e, f0⟩ := k; exact ⟨_, _, e, f0.mono hm h⟩
def R_4 (r : Bool) (n : Nat) (H : Hp) (v : Value) : Prop := v = .bool r
theorem R_4.mono {r : Bool} {m n : Nat} {H B : Hp} {v : Value} (hm : m ≤ n) (h : Abv n H B) (k : R_4 r n H v) : R_4 r m B v := by
  exact k
def R_26_27 (r : (List Sight) × Int) (n : Nat) (H : Hp) (v : Value) : Prop := ∃ (a0_0 : Option Addr) (c0_0 : Nat), v = .tuple ⟨[.slice a0_0 r.1.length c0_0, .int .i64 r.2]⟩ ∧ SlF n H SightC a0_0 c0_0 r.1
theorem R_26_27.mono {r : (List Sight) × Int} {m n : Nat} {H B : Hp} {v : Value} (hm : m ≤ n) (h : Abv n H B) (k : R_26_27 r n H v) : R_26_27 r m B v := by
  obtain ⟨a0_0, c0_0, e, f0⟩ := k; exact ⟨_, _, e, f0.mono hm h⟩
def R_3_27 (r : Int × Int) (n : Nat) (H : Hp) (v : Value) : Prop := v = .tuple ⟨[.int .i64 r.1, .int .i64 r.2]⟩
theorem R_3_27.mono {r : Int × Int} {m n : Nat} {H B : Hp} {v : Value} (hm : m ≤ n) (h : Abv n H B) (k : R_3_27 r n H v) : R_3_27 r m B v := by
  exact k
def R_3 (r : Int) (n : Nat) (H : Hp) (v : Value) : Prop := v = .int .i64 r
theorem R_3.mono {r : Int} {m n : Nat} {H B : Hp} {v : Value} (hm : m ≤ n) (h : Abv n H B) (k : R_3 r n H v) : R_3 r m B v := by
  exact k
def R_32_27 (r : Sight × Int) (n : Nat) (H : Hp) (v : Value) : Prop := v = .tuple ⟨[.agg ⟨[.int .i64 r.1.floor, .int .i64 r.1.panel, .bool r.1.out]⟩, .int .i64 r.2]⟩
theorem R_32_27.mono {r : Sight × Int} {m n : Nat} {H B : Hp} {v : Value} (hm : m ≤ n) (h : Abv n H B) (k : R_32_27 r n H v) : R_32_27 r m B v := by
  exact k
def R_22_36 (r : (List Int) × Shown) (n : Nat) (H : Hp) (v : Value) : Prop := ∃ (a0_0 : Option Addr) (c0_0 : Nat), v = .tuple ⟨[.slice a0_0 r.1.length c0_0, .agg ⟨[.int .i64 r.2.d, .bool r.2.sv, .bool r.2.fa, .bool r.2.ho, .int .i64 r.2.at_, .int .i64 r.2.pa]⟩]⟩ ∧ SlF n H intC a0_0 c0_0 r.1
theorem R_22_36.mono {r : (List Int) × Shown} {m n : Nat} {H B : Hp} {v : Value} (hm : m ≤ n) (h : Abv n H B) (k : R_22_36 r n H v) : R_22_36 r m B v := by
  obtain ⟨a0_0, c0_0, e, f0⟩ := k; exact ⟨_, _, e, f0.mono hm h⟩
def R_4_27 (r : Bool × Int) (n : Nat) (H : Hp) (v : Value) : Prop := v = .tuple ⟨[.bool r.1, .int .i64 r.2]⟩
theorem R_4_27.mono {r : Bool × Int} {m n : Nat} {H B : Hp} {v : Value} (hm : m ≤ n) (h : Abv n H B) (k : R_4_27 r n H v) : R_4_27 r m B v := by
  exact k
end Go.Proofs.Ytenddpplfdgcfaa

namespace Go.Proofs.Ytenddpplfdgcfaa
open Go Go.Det Go.RowKit

theorem SlF.ints {H : Hp} {a : Option Addr} {c : Nat} {l : List Int} (h : SlF 0 H intC a c l) : Ints H a c l := by
  have := SlF.sl h
  rwa [encL_int] at this

def f25 (l : List Int) : Option (Int × Int) := some (checkS l)
theorem f25_ok {H : Hp} {a : Option Addr} {c : Nat} {l : List Int} {r : Int × Int} (g : SlF 0 H intC a c l) (hp : f25 l = some r) :
    SCall Try.prog 25 [.slice a l.length c] H (Ret fun v H' => Ext H H' ∧ R_27_3 r H.next H' v) := by
  obtain rfl := Option.some.inj hp
  exact shaftCheck_ok (SlF.ints g)
def f14 (l : List Int) (x : Shown) : Option Int := some (carS l x)
theorem f14_ok {H : Hp} {a : Option Addr} {c : Nat} {x0 : List Int} {x1 : Shown} {r : Int} (g : SlF 0 H intC a c x0) (hp : f14 x0 x1 = some r) :
    SCall Try.prog 14 [.slice a x0.length c, .agg ⟨Shown.cs x1⟩] H (Ret fun v H' => Ext H H' ∧ R_27 r H.next H' v) := by
  obtain rfl := Option.some.inj hp
  exact carCheck_ok (SlF.ints g) x1

/-- The floor next to a place. -/
noncomputable def floorS (l : List Int) (pos : Int) : Int := open Classical in if placedS l pos = 0 then (if h : ∃ f, floorIs l pos f then h.choose else 0) else 0
theorem floorIs.only {l : List Int} {pos f g : Int} (h : floorIs l pos f) (k : floorIs l pos g) : f = g := by
  obtain ⟨m, h1, rfl⟩ := h
  obtain ⟨n, k1, rfl⟩ := k
  rw [Low.only h1 k1]
theorem floorS_is {l : List Int} {pos f : Int} (hp : placedS l pos = 0) (h : floorIs l pos f) : floorS l pos = f := by
  unfold floorS
  rw [if_pos hp, dif_pos ⟨f, h⟩]
  exact floorIs.only (Exists.choose_spec (⟨f, h⟩ : ∃ f, floorIs l pos f)) h
noncomputable def showS (l : List Int) (d : Int) (x : Shown) : Sight :=
  if x.d ≠ d then ⟨-1, 0, false⟩ else if x.sv = false then ⟨-1, 0, true⟩ else if x.fa = true then ⟨-1, x.pa, true⟩ else if x.ho = true then ⟨-1, 0, false⟩ else ⟨floorS l x.at_, x.pa, false⟩

theorem f48_ok {H : Hp} {a : Option Addr} {c p : Nat} {l : List Int} (hl : Ints H a c l) (hp : H.get p = some (.cells .fix [.slice a l.length c])) (hlt : p < H.next) (x : Shown) :
    SCall Try.prog 48 [x.val, .pointer (some ⟨p, 0, none⟩)] H (Ret fun v H' => Ext H H' ∧ v = (Sight.mk (floorS l x.at_) x.pa false).val) := by
  refine SCall.v Try.func48 rfl rfl rfl rfl rfl (l := [(0, .v x.val), (1, .v (.pointer (some ⟨p, 0, none⟩)))]) (fun _ => rfl) ?_
  refine VJ.hd (v := .slice a l.length c) 100 rfl rfl rfl rfl (fun ids H' fr => opD_load rfl (evV_eq _ _ _ _ _ rfl) ?_) rfl ?_
  · have : isAggD Try.prog 22 = some false := by kernel_rfl
    have hg : H'.get p = some (.cells .fix [.slice a l.length c]) := by rw [(fr.extB rfl).same p hlt]; exact hp
    simp only [den, loadD, hg, this]; rfl
  refine VJ.cl 100 rfl (fun ids H' fr => Nearest_ok (hl.mono (fr.extB rfl)) x.at_) ?_
  rintro v H1 h0 hB ⟨f, rfl, g1, g2⟩
  refine ⟨_, rfl, ?_⟩
  have : f = floorS l x.at_ := by
    by_cases q : placedS l x.at_ = 0
    · rw [floorS_is q (g1 q)]
    · rw [g2 q]; unfold floorS; rw [if_neg q]
  subst this
  exact VJ.rt1 100 rfl rfl fun ids H' fr => ⟨fr.ext0, rfl⟩

section
variable {P : Program} {Q : Ex → SS → Prop} {n : Nat} {B0 B : Hp} {k k' : KK} {x x' : VS} (N : Nat)
theorem VJ.un {c : Code} (hs : vSym P n N k x = .loop c k' x') (h : VJ P n B0 B (.code c :: .inLoop c :: k') Q x') : VJ P n B0 B k Q x :=
  VJ.sym N hs fun ids H fr => JK.loop (h ids H fr)
theorem VJ.ro {c : Code} (hs : vSym P n N k x = .again c k' x') (h : VJ P n B0 B (.code c :: .inLoop c :: k') Q x') : VJ P n B0 B k Q x :=
  VJ.sym N hs fun ids H fr => JK.round (h ids H fr)
end

theorem loadRow {H : Hp} {b p i : Nat} {u v : Value} (h : H.get b = some (.cells .fix (rowsCs p))) (hi : Nat.ble (i + 2) 10 = true) (hv : ((rowsCs p).drop i).take 2 = [u, v]) : loadD Try.prog H 65 (.pointer (some ⟨b, i, none⟩)) = some (.agg ⟨[u, v]⟩) := by
  have h1 : isAggD Try.prog 65 = some true := by kernel_rfl
  have h2 : sizeD Try.prog 65 = some 2 := by kernel_rfl
  simp only [loadD, h, h1, h2]
  rw [if_pos (show i + 2 ≤ (rowsCs p).length from Nat.le_of_ble_eq_true hi), hv]
set_option maxHeartbeats 1600000 in
set_option maxRecDepth 20000 in
theorem show_ok {H : Hp} {a : Option Addr} {c : Nat} {l : List Int} (hl : Ints H a c l) (d : Int) (x : Shown) :
    SCall Try.prog 26 [.slice a l.length c, .int .i64 d, x.val] H (Ret fun v H' => Ext H H' ∧ v = (showS l d x).val) := by
  obtain ⟨xd, sv, fa, ho, at_, pa⟩ := x
  refine SCall.v Try.func26 rfl rfl rfl rfl rfl (l := [(0, .v (.slice a l.length c)), (1, .v (.int .i64 d)), (2, .v (Shown.mk xd sv fa ho at_ pa).val)]) (fun _ => rfl) ?_
  refine VJ.cl 100 rfl (fun ids H' fr => rows_ok) ?_
  rintro v H1 h0 hB ⟨b, p, rfl, hb, hbl, hpp, hpl⟩
  refine ⟨_, rfl, ?_⟩
  have hl1 := hl.mono (hB rfl)
  have hb1 := hb
  have hbl1 := hbl
  have hpp1 := hpp
  have hpl1 := hpl
  clear hl hB
  refine VJ.un 100 rfl ?_
  -- row 0
  refine VJ.cm 100 rfl rfl rfl rfl rfl rfl rfl rfl rfl (fun h => ?_) (fun h => absurd h (by decide))
  refine VJ.hd (v := .pointer (some ⟨b, 0, none⟩)) 100 rfl rfl rfl rfl (fun ids H' fr => opD_indexAddr rfl (evV_eq _ _ _ _ _ rfl) (evV_eq _ _ _ _ _ rfl) (by kernel_rfl)) rfl ?_
  refine VJ.hd (v := .agg ⟨[fnV 41, fnV 40]⟩) 100 rfl rfl rfl rfl (fun ids H' fr => opD_load rfl (evV_eq _ _ _ _ _ rfl) (loadRow (by rw [(fr.extB rfl).same b hbl1]; exact hb1) rfl rfl)) rfl ?_
  refine VJ.cl 100 rfl (fun ids H' fr => f41_ok H' d ⟨xd, sv, fa, ho, at_, pa⟩) ?_
  rintro v H2 h0 hB ⟨bb, rfl, hbb⟩
  refine ⟨_, rfl, ?_⟩
  have hl2 := hl1.mono (hB rfl)
  have hb2 : H2.get b = some (.cells .fix (rowsCs p)) := by rw [(hB rfl).same b hbl1]; exact hb1
  have hbl2 := Nat.lt_of_lt_of_le hbl1 (hB rfl).next
  have hpp2 : H2.get p = some (.cells .fix [.slice a l.length c]) := by rw [(hB rfl).same p hpl1]; exact hpp1
  have hpl2 := Nat.lt_of_lt_of_le hpl1 (hB rfl).next
  clear hB
  cases bb
  rotate_left
  · refine VJ.cl 100 rfl (fun ids H' fr => f40_ok H' ⟨xd, sv, fa, ho, at_, pa⟩) ?_
    rintro v H9 h0 hB rfl
    refine ⟨_, rfl, ?_⟩
    exact VJ.rt1 100 rfl rfl fun ids H' fr => ⟨fr.ext0, by
      have e : xd ≠ d := by simpa using hbb
      simp only [showS]
      rw [if_pos e] <;> rfl⟩
  have e0 : ¬ xd ≠ d := by simpa using hbb
  clear hbb
  -- row 1
  refine VJ.ro 100 rfl ?_
  refine VJ.cm 100 rfl rfl rfl rfl rfl rfl rfl rfl rfl (fun h => ?_) (fun h => absurd h (by decide))
  refine VJ.hd (v := .pointer (some ⟨b, 2, none⟩)) 100 rfl rfl rfl rfl (fun ids H' fr => opD_indexAddr rfl (evV_eq _ _ _ _ _ rfl) (evV_eq _ _ _ _ _ rfl) (by kernel_rfl)) rfl ?_
  refine VJ.hd (v := .agg ⟨[fnV 42, fnV 43]⟩) 100 rfl rfl rfl rfl (fun ids H' fr => opD_load rfl (evV_eq _ _ _ _ _ rfl) (loadRow (by rw [(fr.extB rfl).same b hbl2]; exact hb2) rfl rfl)) rfl ?_
  refine VJ.cl 100 rfl (fun ids H' fr => f42_ok H' d ⟨xd, sv, fa, ho, at_, pa⟩) ?_
  rintro v H3 h0 hB ⟨bb, rfl, hbb⟩
  refine ⟨_, rfl, ?_⟩
  have hl3 := hl2.mono (hB rfl)
  have hb3 : H3.get b = some (.cells .fix (rowsCs p)) := by rw [(hB rfl).same b hbl2]; exact hb2
  have hbl3 := Nat.lt_of_lt_of_le hbl2 (hB rfl).next
  have hpp3 : H3.get p = some (.cells .fix [.slice a l.length c]) := by rw [(hB rfl).same p hpl2]; exact hpp2
  have hpl3 := Nat.lt_of_lt_of_le hpl2 (hB rfl).next
  clear hB
  cases bb
  rotate_left
  · refine VJ.cl 100 rfl (fun ids H' fr => f43_ok H' ⟨xd, sv, fa, ho, at_, pa⟩) ?_
    rintro v H9 h0 hB rfl
    refine ⟨_, rfl, ?_⟩
    exact VJ.rt1 100 rfl rfl fun ids H' fr => ⟨fr.ext0, by
      have e : sv = false := by simpa using hbb
      simp only [showS]
      rw [if_neg e0, if_pos e] <;> rfl⟩
  have e1 : ¬ sv = false := by simpa using hbb
  clear hbb
  -- row 2
  refine VJ.ro 100 rfl ?_
  refine VJ.cm 100 rfl rfl rfl rfl rfl rfl rfl rfl rfl (fun h => ?_) (fun h => absurd h (by decide))
  refine VJ.hd (v := .pointer (some ⟨b, 4, none⟩)) 100 rfl rfl rfl rfl (fun ids H' fr => opD_indexAddr rfl (evV_eq _ _ _ _ _ rfl) (evV_eq _ _ _ _ _ rfl) (by kernel_rfl)) rfl ?_
  refine VJ.hd (v := .agg ⟨[fnV 44, fnV 45]⟩) 100 rfl rfl rfl rfl (fun ids H' fr => opD_load rfl (evV_eq _ _ _ _ _ rfl) (loadRow (by rw [(fr.extB rfl).same b hbl3]; exact hb3) rfl rfl)) rfl ?_
  refine VJ.cl 100 rfl (fun ids H' fr => f44_ok H' d ⟨xd, sv, fa, ho, at_, pa⟩) ?_
  rintro v H4 h0 hB ⟨bb, rfl, hbb⟩
  refine ⟨_, rfl, ?_⟩
  have hl4 := hl3.mono (hB rfl)
  have hb4 : H4.get b = some (.cells .fix (rowsCs p)) := by rw [(hB rfl).same b hbl3]; exact hb3
  have hbl4 := Nat.lt_of_lt_of_le hbl3 (hB rfl).next
  have hpp4 : H4.get p = some (.cells .fix [.slice a l.length c]) := by rw [(hB rfl).same p hpl3]; exact hpp3
  have hpl4 := Nat.lt_of_lt_of_le hpl3 (hB rfl).next
  clear hB
  cases bb
  rotate_left
  · refine VJ.cl 100 rfl (fun ids H' fr => f45_ok H' ⟨xd, sv, fa, ho, at_, pa⟩) ?_
    rintro v H9 h0 hB rfl
    refine ⟨_, rfl, ?_⟩
    exact VJ.rt1 100 rfl rfl fun ids H' fr => ⟨fr.ext0, by
      have e : fa = true := by simpa using hbb
      simp only [showS]
      rw [if_neg e0, if_neg e1, if_pos e] <;> rfl⟩
  have e2 : ¬ fa = true := by simpa using hbb
  clear hbb
  -- row 3
  refine VJ.ro 100 rfl ?_
  refine VJ.cm 100 rfl rfl rfl rfl rfl rfl rfl rfl rfl (fun h => ?_) (fun h => absurd h (by decide))
  refine VJ.hd (v := .pointer (some ⟨b, 6, none⟩)) 100 rfl rfl rfl rfl (fun ids H' fr => opD_indexAddr rfl (evV_eq _ _ _ _ _ rfl) (evV_eq _ _ _ _ _ rfl) (by kernel_rfl)) rfl ?_
  refine VJ.hd (v := .agg ⟨[fnV 46, fnV 40]⟩) 100 rfl rfl rfl rfl (fun ids H' fr => opD_load rfl (evV_eq _ _ _ _ _ rfl) (loadRow (by rw [(fr.extB rfl).same b hbl4]; exact hb4) rfl rfl)) rfl ?_
  refine VJ.cl 100 rfl (fun ids H' fr => f46_ok H' d ⟨xd, sv, fa, ho, at_, pa⟩) ?_
  rintro v H5 h0 hB ⟨bb, rfl, hbb⟩
  refine ⟨_, rfl, ?_⟩
  have hl5 := hl4.mono (hB rfl)
  have hb5 : H5.get b = some (.cells .fix (rowsCs p)) := by rw [(hB rfl).same b hbl4]; exact hb4
  have hbl5 := Nat.lt_of_lt_of_le hbl4 (hB rfl).next
  have hpp5 : H5.get p = some (.cells .fix [.slice a l.length c]) := by rw [(hB rfl).same p hpl4]; exact hpp4
  have hpl5 := Nat.lt_of_lt_of_le hpl4 (hB rfl).next
  clear hB
  cases bb
  rotate_left
  · refine VJ.cl 100 rfl (fun ids H' fr => f40_ok H' ⟨xd, sv, fa, ho, at_, pa⟩) ?_
    rintro v H9 h0 hB rfl
    refine ⟨_, rfl, ?_⟩
    exact VJ.rt1 100 rfl rfl fun ids H' fr => ⟨fr.ext0, by
      have e : ho = true := by simpa using hbb
      simp only [showS]
      rw [if_neg e0, if_neg e1, if_neg e2, if_pos e] <;> rfl⟩
  have e3 : ¬ ho = true := by simpa using hbb
  clear hbb
  -- row 4
  refine VJ.ro 100 rfl ?_
  refine VJ.cm 100 rfl rfl rfl rfl rfl rfl rfl rfl rfl (fun h => ?_) (fun h => absurd h (by decide))
  refine VJ.hd (v := .pointer (some ⟨b, 8, none⟩)) 100 rfl rfl rfl rfl (fun ids H' fr => opD_indexAddr rfl (evV_eq _ _ _ _ _ rfl) (evV_eq _ _ _ _ _ rfl) (by kernel_rfl)) rfl ?_
  refine VJ.hd (v := .agg ⟨[fnV 47, .func (.func 48) ⟨[]⟩ ⟨[.pointer (some ⟨p, 0, none⟩)]⟩]⟩) 100 rfl rfl rfl rfl (fun ids H' fr => opD_load rfl (evV_eq _ _ _ _ _ rfl) (loadRow (by rw [(fr.extB rfl).same b hbl5]; exact hb5) rfl rfl)) rfl ?_
  refine VJ.cl 100 rfl (fun ids H' fr => f47_ok H' d ⟨xd, sv, fa, ho, at_, pa⟩) ?_
  rintro v H6 h0 hB ⟨bb, rfl, hbb⟩
  refine ⟨_, rfl, ?_⟩
  have hl6 := hl5.mono (hB rfl)
  have hb6 : H6.get b = some (.cells .fix (rowsCs p)) := by rw [(hB rfl).same b hbl5]; exact hb5
  have hbl6 := Nat.lt_of_lt_of_le hbl5 (hB rfl).next
  have hpp6 : H6.get p = some (.cells .fix [.slice a l.length c]) := by rw [(hB rfl).same p hpl5]; exact hpp5
  have hpl6 := Nat.lt_of_lt_of_le hpl5 (hB rfl).next
  clear hB
  cases bb
  rotate_left
  · refine VJ.cl 100 rfl (fun ids H' fr => f48_ok (hl6.mono (fr.extB rfl)) (by rw [(fr.extB rfl).same p hpl6]; exact hpp6) (Nat.lt_of_lt_of_le hpl6 (fr.extB rfl).next) ⟨xd, sv, fa, ho, at_, pa⟩) ?_
    rintro v H9 h0 hB rfl
    refine ⟨_, rfl, ?_⟩
    exact VJ.rt1 100 rfl rfl fun ids H' fr => ⟨fr.ext0, by
      simp only [showS]
      rw [if_neg e0, if_neg e1, if_neg e2, if_neg e3] <;> rfl⟩
  exact absurd hbb (by decide)

noncomputable def f26 (l : List Int) (d : Int) (x : Shown) : Option Sight := some (showS l d x)
theorem f26_ok {H : Hp} {a : Option Addr} {c : Nat} {x0 : List Int} {x1 : Int} {x2 : Shown} {r : Sight} (g : SlF 0 H intC a c x0) (hp : f26 x0 x1 x2 = some r) :
    SCall Try.prog 26 [.slice a x0.length c, .int .i64 x1, .agg ⟨Shown.cs x2⟩] H (Ret fun v H' => Ext H H' ∧ R_32 r H.next H' v) := by
  obtain rfl := Option.some.inj hp
  exact show_ok (SlF.ints g) x1 x2
end Go.Proofs.Ytenddpplfdgcfaa

namespace Go.Proofs.Ytenddpplfdgcfaa
open Go Go.Det Go.RowKit
def isT (x : Option (En × Hp)) : Bool := match x with
  | some (.ret (.bool true), _) => true
  | _ => false
theorem isT_some {x : Option (En × Hp)} (h : isT x = true) : ∃ H', x = some (.ret (.bool true), H') := by
  unfold isT at h
  split at h
  · exact ⟨_, rfl⟩
  · cases h
theorem awake_run : isT (callE Try.prog (evC Try.prog 1000) 7 [] (Go.Det.H0 Try.prog.globals.size)) = true := by kernel_rfl
def f7 : Option Bool := some true
theorem f7_ok {H : Hp} {r : Bool} (hp : f7 = some r) : SCall Try.prog 7 [] H (Ret fun v H' => Ext H H' ∧ R_4 r H.next H' v) := by
  obtain rfl := Option.some.inj hp
  obtain ⟨H', e⟩ := isT_some awake_run
  refine (SCall.closed (SCall.mono (SCall.run e) fun _ _ q => q.1) rfl rfl H).mono fun _ _ ⟨v, h1, h2, h3⟩ => ⟨v, h1, ?_⟩
  subst h2 h3
  exact ⟨Ext.refl _, rfl⟩
end Go.Proofs.Ytenddpplfdgcfaa

namespace Go.Proofs.Ytenddpplfdgcfaa
open Go Go.Det Go.RowKit

/-- What a call of 'differs' may do to its list. -/
def difL (L : List Int) (n : Int) (same : Bool) : List Int := if same then L else L ++ [n]
theorem differs_app {H : Hp} {a : Option Addr} {cap : Nat} {L : List Int} {n : Int} {c : Call} (hc : c.argTypes = #[22, 22]) (he : (OwnE.mk a cap 1 (encL iE L)).ok 0 H) (hL : L.length < 1000) {b : Nat} (hb : H.get b = some (.cells .fix [.int .i64 n])) :
    ∃ a' cap' H', appendD Try.prog H c.argTypes (.slice a L.length cap) (.slice (some ⟨b, 0, none⟩) 1 1) = some (.slice a' (L ++ [n]).length cap', H') ∧ Turns H H' ⟨a, cap, 1, encL iE L⟩ ⟨a', cap', 1, encL iE (L ++ [n])⟩ ∧ H.next ≤ H'.next := by
  have E := el22 hc
  have hs : srcD H 1 (.slice (some ⟨b, 0, none⟩) 1 1) 1 = some [.int .i64 n] := by
    simp [srcD, hb]
  obtain ⟨a', cap', H', h1, h2, h3⟩ := Turns.append (by_ := 8) (len := L.length) (e := ⟨a, cap, 1, encL iE L⟩) (sv := .slice (some ⟨b, 0, none⟩) 1 1) (m := 1) he E (encL_length (enc := iE) (sz := 1) (fun _ => rfl) L) rfl hs rfl rfl (by omega) (by omega)
  refine ⟨a', cap', H', ?_, ?_, h3⟩
  · rw [List.length_append]; exact h1
  · rw [encL_append]; exact h2

set_option maxRecDepth 20000 in
theorem f31_ok {H : Hp} {a : Option Addr} {cap : Nat} {L : List Int} {n x y : Int} (he : (OwnE.mk a cap 1 (encL iE L)).ok 0 H) (hL : L.length < 1000) :
    SCall Try.prog 31 [.slice a L.length cap, .int .i64 n, .int .i64 x, .int .i64 y] H (Ret fun v H' => ∃ e', Turns H H' ⟨a, cap, 1, encL iE L⟩ e' ∧ ∃ a' c', v = .slice a' (difL L n (decide (x = y))).length c' ∧ e' = ⟨a', c', 1, encL iE (difL L n (decide (x = y)))⟩) := by
  refine SCall.w Try.func31 rfl rfl rfl rfl rfl (l := [(0, .v (.slice a L.length cap)), (1, .v (.int .i64 n)), (2, .v (.int .i64 x)), (3, .v (.int .i64 y))]) (fun _ => rfl) ?_
  refine VJ.cm (b := decide (x = y)) 100 rfl rfl rfl rfl rfl rfl rfl rfl rfl (fun h => ?_) (fun h => ?_)
  · refine VJ.rt1 100 rfl rfl fun ids H' fr => ⟨_, Turns.refl (fr.extB rfl) _, a, cap, ?_⟩
    rw [h]; exact ⟨rfl, rfl⟩
  · refine VJ.hn (R := fun v H' => ∃ b, v = .slice (some ⟨b, 0, none⟩) 1 1 ∧ H'.get b = some (.cells .fix [.int .i64 n]) ∧ b < H'.next ∧ Ext H H') 100 rfl rfl rfl rfl (fun ids H' fr => ?_) ?_
    · refine ⟨_, _, opD_buildSlice rfl rfl rfl, ⟨noHp_ext _, Nat.le_succ _, fun k hk => absurd hk (Nat.not_lt_zero _)⟩, H'.next, rfl, ?_, by rw [Hp.next_alloc]; omega, (fr.extB rfl).alloc _⟩
      rw [Hp.get_alloc, if_pos rfl]; rfl
    · rintro v H1 h0 ⟨b, rfl, hb, hbl, h1⟩
      refine ⟨_, rfl, ?_⟩
      refine VJ.hn (R := fun v H' => ∃ e', Turns H H' ⟨a, cap, 1, encL iE L⟩ e' ∧ ∃ a' c', v = .slice a' (difL L n (decide (x = y))).length c' ∧ e' = ⟨a', c', 1, encL iE (difL L n (decide (x = y)))⟩) 100 rfl rfl rfl rfl (fun ids H' fr => ?_) ?_
      · have x1 := h1.trans (fr.extB rfl)
        obtain ⟨a', c', H2, g1, g2, g3⟩ := differs_app (c := ⟨.builtin .append, #[.tmp 13, .tmp 15], #[22, 22]⟩) rfl (H := H') (he.keep (Nat.le_refl _) x1.next fun b x hb hx => by rw [x1.same b (he.blk_lt hb).2]; exact hx) hL (n := n) (b := b) (by rw [(fr.extB rfl).same b hbl]; exact hb)
        refine ⟨_, H2, opD_append rfl rfl rfl g1, ⟨noHp_ext _, g3, fun k hk => absurd hk (Nat.not_lt_zero _)⟩, _, g2.extL x1, a', c', ?_⟩
        rw [h]; exact ⟨rfl, rfl⟩
      · rintro v H2 h0 ⟨e', t, a', c', rfl, rfl⟩
        refine ⟨_, rfl, ?_⟩
        exact VJ.rt1 100 rfl rfl fun ids H' fr => ⟨_, t.extR (fr.extB rfl), a', c', rfl, rfl⟩
set_option maxRecDepth 20000 in
theorem f32_ok {H : Hp} {a : Option Addr} {cap : Nat} {L : List Int} {n : Int} {x y : Bool} (he : (OwnE.mk a cap 1 (encL iE L)).ok 0 H) (hL : L.length < 1000) :
    SCall Try.prog 32 [.slice a L.length cap, .int .i64 n, .bool x, .bool y] H (Ret fun v H' => ∃ e', Turns H H' ⟨a, cap, 1, encL iE L⟩ e' ∧ ∃ a' c', v = .slice a' (difL L n (x == y)).length c' ∧ e' = ⟨a', c', 1, encL iE (difL L n (x == y))⟩) := by
  refine SCall.w Try.func32 rfl rfl rfl rfl rfl (l := [(0, .v (.slice a L.length cap)), (1, .v (.int .i64 n)), (2, .v (.bool x)), (3, .v (.bool y))]) (fun _ => rfl) ?_
  refine VJ.cm (b := (x == y)) 100 rfl rfl rfl rfl rfl rfl rfl rfl rfl (fun h => ?_) (fun h => ?_)
  · refine VJ.rt1 100 rfl rfl fun ids H' fr => ⟨_, Turns.refl (fr.extB rfl) _, a, cap, ?_⟩
    rw [h]; exact ⟨rfl, rfl⟩
  · refine VJ.hn (R := fun v H' => ∃ b, v = .slice (some ⟨b, 0, none⟩) 1 1 ∧ H'.get b = some (.cells .fix [.int .i64 n]) ∧ b < H'.next ∧ Ext H H') 100 rfl rfl rfl rfl (fun ids H' fr => ?_) ?_
    · refine ⟨_, _, opD_buildSlice rfl rfl rfl, ⟨noHp_ext _, Nat.le_succ _, fun k hk => absurd hk (Nat.not_lt_zero _)⟩, H'.next, rfl, ?_, by rw [Hp.next_alloc]; omega, (fr.extB rfl).alloc _⟩
      rw [Hp.get_alloc, if_pos rfl]; rfl
    · rintro v H1 h0 ⟨b, rfl, hb, hbl, h1⟩
      refine ⟨_, rfl, ?_⟩
      refine VJ.hn (R := fun v H' => ∃ e', Turns H H' ⟨a, cap, 1, encL iE L⟩ e' ∧ ∃ a' c', v = .slice a' (difL L n (x == y)).length c' ∧ e' = ⟨a', c', 1, encL iE (difL L n (x == y))⟩) 100 rfl rfl rfl rfl (fun ids H' fr => ?_) ?_
      · have x1 := h1.trans (fr.extB rfl)
        obtain ⟨a', c', H2, g1, g2, g3⟩ := differs_app (c := ⟨.builtin .append, #[.tmp 13, .tmp 15], #[22, 22]⟩) rfl (H := H') (he.keep (Nat.le_refl _) x1.next fun b x hb hx => by rw [x1.same b (he.blk_lt hb).2]; exact hx) hL (n := n) (b := b) (by rw [(fr.extB rfl).same b hbl]; exact hb)
        refine ⟨_, H2, opD_append rfl rfl rfl g1, ⟨noHp_ext _, g3, fun k hk => absurd hk (Nat.not_lt_zero _)⟩, _, g2.extL x1, a', c', ?_⟩
        rw [h]; exact ⟨rfl, rfl⟩
      · rintro v H2 h0 ⟨e', t, a', c', rfl, rfl⟩
        refine ⟨_, rfl, ?_⟩
        exact VJ.rt1 100 rfl rfl fun ids H' fr => ⟨_, t.extR (fr.extB rfl), a', c', rfl, rfl⟩

def difS (a b : Sight) : List Int := difL (difL (difL [] 1 (decide (a.floor = b.floor))) 2 (decide (a.panel = b.panel))) 3 (a.out == b.out)
theorem difL_len (L : List Int) (n : Int) (s : Bool) : (difL L n s).length ≤ L.length + 1 := by unfold difL; split <;> simp
def f21 (a b : Sight) : Option (List Int) := some (difS a b)
set_option maxRecDepth 20000 in
theorem f21_ok {H : Hp} {x0 x1 : Sight} {r : List Int} (hp : f21 x0 x1 = some r) :
    SCall Try.prog 21 [.agg ⟨Sight.cs x0⟩, .agg ⟨Sight.cs x1⟩] H (Ret fun v H' => Ext H H' ∧ R_22 r H.next H' v) := by
  obtain rfl := Option.some.inj hp
  obtain ⟨f0, p0, o0⟩ := x0
  obtain ⟨f1, p1, o1⟩ := x1
  refine SCall.g Try.func21 rfl rfl rfl rfl rfl (l := [(0, .v (.agg ⟨[.int .i64 f0, .int .i64 p0, .bool o0]⟩)), (1, .v (.agg ⟨[.int .i64 f1, .int .i64 p1, .bool o1]⟩))]) (fun _ => rfl) (fun B abB => ?_)
  refine WJ.nw 1 ?_
  refine WJ.co (j := 0) 100 rfl rfl (fun ids H' fr he => f31_ok (L := []) he (by decide)) ?_
  rintro v e' ⟨a2, c2, rfl, rfl⟩
  refine ⟨_, rfl, ?_⟩
  have l1 := difL_len [] 1 (decide (f0 = f1))
  refine WJ.co (j := 0) 100 rfl rfl (fun ids H' fr he => f31_ok he (by simp at l1; omega)) ?_
  rintro v e' ⟨a3, c3, rfl, rfl⟩
  refine ⟨_, rfl, ?_⟩
  have l2 := difL_len (difL [] 1 (decide (f0 = f1))) 2 (decide (p0 = p1))
  refine WJ.co (j := 0) 100 rfl rfl (fun ids H' fr he => f32_ok he (by simp at l1; omega)) ?_
  rintro v e' ⟨a4, c4, rfl, rfl⟩
  refine ⟨_, rfl, ?_⟩
  exact WJ.rt 100 rfl rfl rfl (fun ids H' fr => ⟨fr.ext0, _, _, rfl, (fr.slOwn (j := 0) rfl rfl (Nat.le_refl _))⟩)
end Go.Proofs.Ytenddpplfdgcfaa
