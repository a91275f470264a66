import Derived.Test.YtgmejigjajcbfaaDoorChecked
import Derived.Test.YtgmejigjajcbfaaDoorD68
set_option linter.unusedVariables false
set_option linter.unusedSimpArgs false
namespace Go.Proofs.YtgmejigjajcbfaaDoor
open Go Go.Det Go.RowKit
theorem gmix : Tryd.prog.follows .mixedOrders = true := by kernel_rfl
structure Fault where
  Err : Int
  At : Int
  deriving DecidableEq
def Fault.cs (x : Fault) : List Value := [.int .i64 x.Err, .int .i64 x.At]
def FaultC : Cod Fault := .flat 2 Fault.cs fun _ => rfl
structure RowWord where
  At : Int
  Kind : Int
  Name : List UInt8
  N : Int
  deriving DecidableEq
def RowWord.cs (x : RowWord) : List Value := [.int .i64 x.At, .int .i64 x.Kind, .string (bs x.Name), .int .i64 x.N]
def RowWordC : Cod RowWord := .flat 4 RowWord.cs fun _ => rfl
structure Row where
  At : Int
  Words : List RowWord
  deriving DecidableEq
def RowC : Cod Row := { sz := 2, rep := fun n H cs x => ∃ (a_0 : Option Addr) (c_0 : Nat), cs = [.int .i64 x.At, .slice a_0 x.Words.length c_0] ∧ SlF n H RowWordC a_0 c_0 x.Words, len := (by rintro n H cs x ⟨a_0, c_0, e, f0⟩; rw [e]; rfl), mono := (by rintro m n H H' cs x hm h ⟨a_0, c_0, e, f0⟩; exact ⟨_, _, e, f0.mono hm h⟩) }
theorem u22 : Tryd.prog.underlying 22 = some (.slice 3) := by kernel_rfl
theorem u24 : Tryd.prog.underlying 24 = some (.slice 9) := by kernel_rfl
theorem u25 : Tryd.prog.underlying 25 = some (.slice 50) := by kernel_rfl
theorem u46 : Tryd.prog.underlying 46 = some (.slice 36) := by kernel_rfl
theorem sz3 : sizeD Tryd.prog 3 = some 1 := by kernel_rfl
theorem by3 : bytesD Tryd.prog 3 = some 8 := by kernel_rfl
theorem ag3 : isAggD Tryd.prog 3 = some false := by kernel_rfl
theorem sz9 : sizeD Tryd.prog 9 = some 1 := by kernel_rfl
theorem by9 : bytesD Tryd.prog 9 = some 16 := by kernel_rfl
theorem ag9 : isAggD Tryd.prog 9 = some false := by kernel_rfl
theorem sz22 : sizeD Tryd.prog 22 = some 1 := by kernel_rfl
theorem by22 : bytesD Tryd.prog 22 = some 24 := by kernel_rfl
theorem ag22 : isAggD Tryd.prog 22 = some false := by kernel_rfl
theorem sz24 : sizeD Tryd.prog 24 = some 1 := by kernel_rfl
theorem by24 : bytesD Tryd.prog 24 = some 24 := by kernel_rfl
theorem ag24 : isAggD Tryd.prog 24 = some false := by kernel_rfl
theorem sz25 : sizeD Tryd.prog 25 = some 1 := by kernel_rfl
theorem by25 : bytesD Tryd.prog 25 = some 24 := by kernel_rfl
theorem ag25 : isAggD Tryd.prog 25 = some false := by kernel_rfl
theorem sz36 : sizeD Tryd.prog 36 = some 4 := by kernel_rfl
theorem by36 : bytesD Tryd.prog 36 = some 40 := by kernel_rfl
theorem ag36 : isAggD Tryd.prog 36 = some true := by kernel_rfl
theorem sz46 : sizeD Tryd.prog 46 = some 1 := by kernel_rfl
theorem by46 : bytesD Tryd.prog 46 = some 24 := by kernel_rfl
theorem ag46 : isAggD Tryd.prog 46 = some false := by kernel_rfl
theorem sz50 : sizeD Tryd.prog 50 = some 2 := by kernel_rfl
theorem by50 : bytesD Tryd.prog 50 = some 32 := by kernel_rfl
theorem ag50 : isAggD Tryd.prog 50 = some true := by kernel_rfl
theorem el22 {c : Call} (h : c.argTypes = #[22, 22]) : Elem Tryd.prog c 22 3 1 8 := ⟨by rw [h]; rfl, ⟨22, _, by rw [h]; rfl, u22, by intro k; simp⟩, u22, sz3, by3, ⟨(zeroD Tryd.prog 3).getD undef, by kernel_rfl, by kernel_rfl⟩, by decide⟩
theorem el24 {c : Call} (h : c.argTypes = #[24, 24]) : Elem Tryd.prog c 24 9 1 16 := ⟨by rw [h]; rfl, ⟨24, _, by rw [h]; rfl, u24, by intro k; simp⟩, u24, sz9, by9, ⟨(zeroD Tryd.prog 9).getD undef, by kernel_rfl, by kernel_rfl⟩, by decide⟩
theorem el25 {c : Call} (h : c.argTypes = #[25, 25]) : Elem Tryd.prog c 25 50 2 32 := ⟨by rw [h]; rfl, ⟨25, _, by rw [h]; rfl, u25, by intro k; simp⟩, u25, sz50, by50, ⟨(zeroD Tryd.prog 50).getD undef, by kernel_rfl, by kernel_rfl⟩, by decide⟩
theorem el46 {c : Call} (h : c.argTypes = #[46, 46]) : Elem Tryd.prog c 46 36 4 40 := ⟨by rw [h]; rfl, ⟨46, _, by rw [h]; rfl, u46, by intro k; simp⟩, u46, sz36, by36, ⟨(zeroD Tryd.prog 36).getD undef, by kernel_rfl, by kernel_rfl⟩, by decide⟩
theorem ui58 : Tryd.prog.underlying 58 = some (.interface ((match Tryd.prog.underlying 58 with | some (.interface w) => w | _ => #[]))) := by kernel_rfl
theorem us9 : Tryd.prog.underlying 9 = some .string := by kernel_rfl
theorem gd28 : Tryd.prog.eqGuardType Tryd.prog.depth 28 = false := by kernel_rfl
theorem eq28 (x0 : Int) (x1 : Int) (y0 : Int) (y1 : Int) : eqT Tryd.prog 20 28 (.agg ⟨[.int .i64 x0, .int .i64 x1]⟩) (.agg ⟨[.int .i64 y0, .int .i64 y1]⟩) = some (decide ((Fault.mk x0 x1) = (Fault.mk y0 y1))) := by
  have h : eqT Tryd.prog 20 28 (.agg ⟨[.int .i64 x0, .int .i64 x1]⟩) (.agg ⟨[.int .i64 y0, .int .i64 y1]⟩) = some (x0 == y0 && (x1 == y1 && true)) := by kernel_rfl
  rw [h, Option.some.injEq, Bool.eq_iff_iff]; simp
theorem gd36 : Tryd.prog.eqGuardType Tryd.prog.depth 36 = false := by kernel_rfl
theorem eq36 (x0 : Int) (x1 : Int) (x2 : List UInt8) (x3 : Int) (y0 : Int) (y1 : Int) (y2 : List UInt8) (y3 : Int) : eqT Tryd.prog 20 36 (.agg ⟨[.int .i64 x0, .int .i64 x1, .string (bs x2), .int .i64 x3]⟩) (.agg ⟨[.int .i64 y0, .int .i64 y1, .string (bs y2), .int .i64 y3]⟩) = some (decide ((RowWord.mk x0 x1 x2 x3) = (RowWord.mk y0 y1 y2 y3))) := by
  have h : eqT Tryd.prog 20 36 (.agg ⟨[.int .i64 x0, .int .i64 x1, .string (bs x2), .int .i64 x3]⟩) (.agg ⟨[.int .i64 y0, .int .i64 y1, .string (bs y2), .int .i64 y3]⟩) = some (x0 == y0 && (x1 == y1 && (bs x2 == bs y2 && (x3 == y3 && true)))) := by kernel_rfl
  rw [h, Option.some.injEq, Bool.eq_iff_iff]; simp [bsq]
def R_4 (r : Bool) (n : Nat) (H : Hp) (v : Value) : Prop := v = .bool r
theorem R_4.mono {r : Bool} {m n : Nat} {H B : Hp} {v : Value} (hm : m ≤ n) (h : Abv n H B) (k : R_4 r n H v) : R_4 r m B v := by
  exact k
def R_21_3 (r : Int × Int) (n : Nat) (H : Hp) (v : Value) : Prop := v = .tuple ⟨[.int .i32 r.1, .int .i64 r.2]⟩
theorem R_21_3.mono {r : Int × Int} {m n : Nat} {H B : Hp} {v : Value} (hm : m ≤ n) (h : Abv n H B) (k : R_21_3 r n H v) : R_21_3 r m B v := by
  exact k
def R_3 (r : Int) (n : Nat) (H : Hp) (v : Value) : Prop := v = .int .i64 r
theorem R_3.mono {r : Int} {m n : Nat} {H B : Hp} {v : Value} (hm : m ≤ n) (h : Abv n H B) (k : R_3 r n H v) : R_3 r m B v := by
  exact k
def R_24 (r : List (List UInt8)) (n : Nat) (H : Hp) (v : Value) : Prop := ∃ (a0_0 : Option Addr) (c0_0 : Nat), v = .slice a0_0 r.length c0_0 ∧ SlF n H strC a0_0 c0_0 r
theorem R_24.mono {r : List (List UInt8)} {m n : Nat} {H B : Hp} {v : Value} (hm : m ≤ n) (h : Abv n H B) (k : R_24 r n H v) : R_24 r m B v := by
  obtain ⟨a0_0, c0_0, e, f0⟩ := k; exact ⟨_, _, e, f0.mono hm h⟩
def R_9 (r : List UInt8) (n : Nat) (H : Hp) (v : Value) : Prop := v = .string (bs r)
theorem R_9.mono {r : List UInt8} {m n : Nat} {H B : Hp} {v : Value} (hm : m ≤ n) (h : Abv n H B) (k : R_9 r n H v) : R_9 r m B v := by
  exact k
def R_3_58 (r : Int × Bool) (n : Nat) (H : Hp) (v : Value) : Prop := ∃ y : Value, v = .tuple ⟨[.int .i64 r.1, y]⟩ ∧ errR r.2 y
theorem R_3_58.mono {r : Int × Bool} {m n : Nat} {H B : Hp} {v : Value} (hm : m ≤ n) (h : Abv n H B) (k : R_3_58 r n H v) : R_3_58 r m B v := k
def R_5_4 (r : Int × Bool) (n : Nat) (H : Hp) (v : Value) : Prop := v = .tuple ⟨[.int .u8 r.1, .bool r.2]⟩
theorem R_5_4.mono {r : Int × Bool} {m n : Nat} {H B : Hp} {v : Value} (hm : m ≤ n) (h : Abv n H B) (k : R_5_4 r n H v) : R_5_4 r m B v := by
  exact k
def R_5_3 (r : Int × Int) (n : Nat) (H : Hp) (v : Value) : Prop := v = .tuple ⟨[.int .u8 r.1, .int .i64 r.2]⟩
theorem R_5_3.mono {r : Int × Int} {m n : Nat} {H B : Hp} {v : Value} (hm : m ≤ n) (h : Abv n H B) (k : R_5_3 r n H v) : R_5_3 r m B v := by
  exact k
def R_9_3 (r : (List UInt8) × Int) (n : Nat) (H : Hp) (v : Value) : Prop := v = .tuple ⟨[.string (bs r.1), .int .i64 r.2]⟩
theorem R_9_3.mono {r : (List UInt8) × Int} {m n : Nat} {H B : Hp} {v : Value} (hm : m ≤ n) (h : Abv n H B) (k : R_9_3 r n H v) : R_9_3 r m B v := by
  exact k
def R_3_4 (r : Int × Bool) (n : Nat) (H : Hp) (v : Value) : Prop := v = .tuple ⟨[.int .i64 r.1, .bool r.2]⟩
theorem R_3_4.mono {r : Int × Bool} {m n : Nat} {H B : Hp} {v : Value} (hm : m ≤ n) (h : Abv n H B) (k : R_3_4 r n H v) : R_3_4 r m B v := by
  exact k
def R_25_28 (r : (List Row) × Fault) (n : Nat) (H : Hp) (v : Value) : Prop := ∃ (a0_0 : Option Addr) (c0_0 : Nat), v = .tuple ⟨[.slice a0_0 r.1.length c0_0, .agg ⟨[.int .i64 r.2.Err, .int .i64 r.2.At]⟩]⟩ ∧ SlF n H RowC a0_0 c0_0 r.1
theorem R_25_28.mono {r : (List Row) × Fault} {m n : Nat} {H B : Hp} {v : Value} (hm : m ≤ n) (h : Abv n H B) (k : R_25_28 r n H v) : R_25_28 r m B v := by
  obtain ⟨a0_0, c0_0, e, f0⟩ := k; exact ⟨_, _, e, f0.mono hm h⟩
end Go.Proofs.YtgmejigjajcbfaaDoor

set_option linter.unusedVariables false
set_option linter.unusedSimpArgs false
set_option maxRecDepth 20000
namespace Go.Proofs.YtgmejigjajcbfaaDoor
open Go Go.Det Go.RowKit
theorem bzero : zeroD Tryd.prog 56 = some (.agg ⟨[.pointer none, .slice none 0 0]⟩) := by kernel_rfl
theorem bis : isB Tryd.prog 56 = true := by kernel_rfl

/-- A Builder is checked. -/
theorem cc_ok {H : Hp} {b : Nat} {ad : Option Addr} {L : List UInt8} (h : Bh H 56 5 b ad L) : SCall Tryd.prog 29 [.pointer (some ⟨b, 0, none⟩)] H (Ret fun v H' => H'.next = H.next ∧ (∀ c, c ≠ b → H'.get c = H.get c) ∧ Bh H' 56 5 b ad L) := by
  obtain ⟨⟨pa, hpa, hg⟩, hr, hl⟩ := h
  refine SCall.start Tryd.func29 rfl rfl rfl rfl rfl rfl ?_
  refine JK.hd (v := .pointer pa) (H' := H) 100 rfl rfl rfl rfl (opD_load rfl rfl (ldB hg hl rfl rfl)) rfl ?_
  rcases hpa with rfl | rfl
  · refine JK.cm (b := true) 100 rfl rfl rfl rfl rfl rfl rfl (fun _ => ?_) (fun q => by cases q)
    refine JK.hd 100 rfl rfl rfl rfl (opD_conv rfl rfl (conv_pu (t := 56) rfl rfl hg rfl (by decide) (by simp))) rfl ?_
    refine JK.hd 100 rfl rfl rfl rfl (opD_conv rfl rfl (conv_up (u := 56) rfl rfl hg rfl (by simp) (by kernel_rfl))) rfl ?_
    refine JK.hd 100 rfl rfl rfl rfl (opD_store rfl rfl rfl (stD hg (by decide) rfl (show (1 : Nat) ≤ 2 by decide) rfl)) rfl ?_
    refine JK.fn 100 rfl ⟨rfl, _, rfl, _, rfl, rfl, fun c hc => by rw [Hp.get_put, if_neg hc], ⟨⟨_, .inr rfl, by rw [Hp.get_put, if_pos rfl]; rfl⟩, fun q => ?_, hl⟩⟩
    obtain ⟨d, k1, k2, k3, k4⟩ := hr q
    exact ⟨d, k1, k2, k3, by rw [Hp.get_put, if_neg k3]; exact k4⟩
  · refine JK.cm (b := false) 100 rfl rfl rfl rfl rfl rfl rfl (fun q => by cases q) (fun _ => ?_)
    refine JK.hd (v := .pointer (some ⟨b, 0, none⟩)) (H' := H) 100 rfl rfl rfl rfl (opD_load rfl rfl (ldB hg hl rfl rfl)) rfl ?_
    refine JK.cm (b := false) 100 rfl rfl rfl rfl (opD_bin rfl rfl rfl (bin_neqp (t := 56) rfl rfl)) rfl rfl (fun q => by cases q) (fun _ => ?_)
    exact JK.fn 100 rfl ⟨rfl, _, rfl, _, rfl, rfl, fun c hc => rfl, ⟨⟨_, .inr rfl, hg⟩, hr, hl⟩⟩

theorem elB {c : Call} {u : TypeId} {d} (h : c.argTypes = #[54, u]) (hu : Tryd.prog.underlying u = some d) (hk : ∀ k, d ≠ .int k) : Elem Tryd.prog c 54 5 1 1 :=
  ⟨by rw [h]; rfl, ⟨u, d, by rw [h]; rfl, hu, hk⟩, rfl, rfl, rfl, ⟨(zeroD Tryd.prog 5).getD undef, by kernel_rfl, by kernel_rfl⟩, by decide⟩

theorem wb_ok {c : Int} {u : UInt8} (hc : c8 c = some u) : BldW Tryd.prog 56 5 17 [.int .u8 c] [u] (fun _ => .nilIface) := by
  intro H b ad L h hb
  rw [c8_some hc]
  refine SCall.start Tryd.func17 rfl rfl rfl rfl rfl rfl ?_
  refine JK.cl 100 rfl (cc_ok h) (fun v H1 ⟨n1, s1, h1⟩ => ⟨_, rfl, ?_⟩)
  have n1 : H1.next = H.next := n1
  have s1 : ∀ c, c ≠ b → H1.get c = H.get c := s1
  have hx := h1.alloc (.cells .fix (bytesV [u]))
  have hap := h1.apart
  obtain ⟨⟨pa, hpa, hg⟩, _, hl⟩ := h1
  refine JK.hd (v := slB ad L) (H' := H1) 100 rfl rfl rfl rfl (opD_load rfl rfl (ldB hg hl rfl rfl)) rfl ?_
  obtain ⟨ad', H2, a1, a2, a3, a4, a5⟩ := hx.app (s := [u]) (sv := .slice (some ⟨H1.next, 0, none⟩) 1 1) (elB (c := ⟨.builtin .append, #[], #[54, 54]⟩) (u := 54) rfl rfl (by intro k; simp)) rfl rfl (by simp [srcD, Hp.get_alloc, bytesV]) hb
  have hg2 : H2.get b = some (.cells (.var 56) [.pointer pa, slB ad L]) := by rw [a3 b (by rw [Hp.next_alloc]; omega) hap, Hp.get_alloc, if_neg (by omega)]; exact hg
  refine JK.hd 100 rfl rfl rfl rfl (opD_append rfl rfl rfl a1) rfl ?_
  refine JK.hd 100 rfl rfl rfl rfl (opD_store rfl rfl rfl (stD (m := .var 56) (cs := [.pointer pa, slB ad L]) hg2 (by decide) (by rw [slB_cells]; rfl) (by rw [slB_cells]; exact Nat.le_refl 2) (by rw [slB_cells]; simp [slB_one]))) rfl ?_
  exact JK.fn 100 rfl ⟨rfl, _, rfl, _, rfl, rfl, ad', (hx.put hg2 hpa a2 a3 a4 a5).pre (by rw [Hp.next_alloc]; omega) (fun c hc hcb _ => by rw [Hp.get_alloc, if_neg (by omega)]; exact s1 c hcb)⟩

theorem ws_ok (s : List UInt8) : BldW Tryd.prog 56 5 22 [.string (bs s)] s (fun _ => .tuple ⟨[.int .i64 s.length, .nilIface]⟩) := by
  intro H b ad L h hb
  refine SCall.start Tryd.func22 rfl rfl rfl rfl rfl rfl ?_
  refine JK.cl 100 rfl (cc_ok h) (fun v H1 ⟨n1, s1, h1⟩ => ⟨_, rfl, ?_⟩)
  have n1 : H1.next = H.next := n1
  have s1 : ∀ c, c ≠ b → H1.get c = H.get c := s1
  have hx := h1
  have hap := h1.apart
  obtain ⟨⟨pa, hpa, hg⟩, _, hl⟩ := h1
  refine JK.hd (v := slB ad L) (H' := H1) 100 rfl rfl rfl rfl (opD_load rfl rfl (ldB hg hl rfl rfl)) rfl ?_
  obtain ⟨ad', H2, a1, a2, a3, a4, a5⟩ := hx.app (s := s) (sv := .string (bs s)) (elB (c := ⟨.builtin .append, #[], #[54, 9]⟩) (u := 9) rfl rfl (by intro k; simp)) rfl rfl (by simp [srcD, bytesV]) hb
  have hg2 : H2.get b = some (.cells (.var 56) [.pointer pa, slB ad L]) := by rw [a3 b (by omega) hap]; exact hg
  refine JK.hd 100 rfl rfl rfl rfl (opD_append rfl rfl rfl a1) rfl ?_
  refine JK.hd 100 rfl rfl rfl rfl (opD_store rfl rfl rfl (stD (m := .var 56) (cs := [.pointer pa, slB ad L]) hg2 (by decide) (by rw [slB_cells]; rfl) (by rw [slB_cells]; exact Nat.le_refl 2) (by rw [slB_cells]; simp [slB_one]))) rfl ?_
  exact JK.fn 100 rfl ⟨rfl, _, rfl, _, rfl, rfl, ad', (hx.put hg2 hpa a2 a3 a4 a5).pre (by omega) (fun c hc hcb _ => s1 c hcb)⟩

theorem ar_ok {H : Hp} {b : Nat} {ad : Option Addr} {L : List UInt8} {r : Int} {u : UInt8} (hr : c7 r = some u) (h : Bh H 56 5 b ad L) (hb : L.length + [u].length ≤ 140737488355328) : SCall Tryd.prog 31 [slB ad L, .int .i32 r] H (Ret fun v H' => ∃ ad', v = slB ad' (L ++ [u]) ∧ H.next ≤ H'.next ∧ (∀ c, c < H.next → (L ≠ [] → ad.map (·.block) ≠ some c) → H'.get c = H.get c) ∧ (L ++ [u] ≠ [] → ∃ d, ad' = some ⟨d, 0, none⟩ ∧ d < H'.next ∧ d ≠ b ∧ H'.get d = some (.cells (.more 1 (some 5)) (bytesV (L ++ [u])))) ∧ (L ++ [u] ≠ [] → (L ≠ [] ∧ ad' = ad) ∨ ∃ d, ad' = some ⟨d, 0, none⟩ ∧ H.next ≤ d)) := by
  obtain ⟨w1, w2⟩ := c7_some hr
  refine SCall.start Tryd.func31 rfl rfl rfl rfl rfl rfl ?_
  refine JK.hd (v := .int .u32 (IntKind.u32.wrap r)) (H' := H) 100 rfl rfl rfl rfl rfl rfl ?_
  refine JK.cm (b := decide (IntKind.u32.wrap r ≤ 127)) 100 rfl rfl rfl rfl rfl rfl rfl (fun _ => ?_) (fun q => by rw [w1] at q; cases q)
  refine JK.hd (v := .int .u8 u.toNat) (H' := H) 100 rfl rfl rfl rfl (by rw [← w2]; rfl) rfl ?_
  have hx := h.alloc (.cells .fix (bytesV [u]))
  obtain ⟨ad', H2, a1, a2, a3, a4, a5⟩ := hx.app (s := [u]) (sv := .slice (some ⟨H.next, 0, none⟩) 1 1) (elB (c := ⟨.builtin .append, #[], #[54, 54]⟩) (u := 54) rfl rfl (by intro k; simp)) rfl rfl (by simp [srcD, Hp.get_alloc, bytesV]) hb
  refine JK.hd 100 rfl rfl rfl rfl (opD_append rfl rfl rfl a1) rfl ?_
  rw [Hp.next_alloc] at a2 a3 a5
  have b2 : H.next ≤ H2.next := by omega
  have b3 : ∀ c, c < H.next → (L ≠ [] → ad.map (·.block) ≠ some c) → H2.get c = H.get c := fun c hc hd => by rw [a3 c (by omega) hd, Hp.get_alloc, if_neg (by omega)]
  have b5 : L ++ [u] ≠ [] → (L ≠ [] ∧ ad' = ad) ∨ ∃ d, ad' = some ⟨d, 0, none⟩ ∧ H.next ≤ d := fun q => (a5 q).imp id fun ⟨d, k1, k2⟩ => ⟨d, k1, by omega⟩
  exact JK.fn 100 rfl ⟨rfl, _, rfl, _, rfl, ad', rfl, b2, b3, a4, b5⟩

theorem wr_ok {r : Int} {u : UInt8} (hr : c7 r = some u) : BldW Tryd.prog 56 5 20 [.int .i32 r] [u] (fun _ => .tuple ⟨[.int .i64 1, .nilIface]⟩) := by
  intro H b ad L h hb
  refine SCall.start Tryd.func20 rfl rfl rfl rfl rfl rfl ?_
  refine JK.cl 100 rfl (cc_ok h) (fun v H1 ⟨n1, s1, h1⟩ => ⟨_, rfl, ?_⟩)
  have n1 : H1.next = H.next := n1
  have s1 : ∀ c, c ≠ b → H1.get c = H.get c := s1
  have hx := h1
  have hap := h1.apart
  obtain ⟨⟨pa, hpa, hg⟩, _, hl⟩ := h1
  cases L with
  | nil =>
    refine JK.hd (v := slB ad ([] : List UInt8)) (H' := H1) 100 rfl rfl rfl rfl (opD_load rfl rfl (ldB hg hl rfl rfl)) rfl ?_
    refine JK.hd (v := slB ad ([] : List UInt8)) (H' := H1) 100 rfl rfl rfl rfl (opD_load rfl rfl (ldB hg hl rfl rfl)) rfl ?_
    refine JK.cl 100 rfl (ar_ok hr hx hb) (fun v H2 ⟨ad', e, a2, a3, a4, a5⟩ => ⟨_, rfl, ?_⟩)
    subst e
    have a2 : H1.next ≤ H2.next := a2
    have hg2 : H2.get b = some (.cells (.var 56) [.pointer pa, slB ad ([] : List UInt8)]) := by rw [a3 b hl hap]; exact hg
    refine JK.hd 100 rfl rfl rfl rfl (opD_store rfl rfl rfl (stD (m := .var 56) (cs := [.pointer pa, slB ad ([] : List UInt8)]) hg2 (by decide) (by rw [slB_cells]; rfl) (by rw [slB_cells]; exact Nat.le_refl 2) (by rw [slB_cells]; simp [slB_one]))) rfl ?_
    have hbx := hx.put hg2 hpa a2 a3 a4 a5
    obtain ⟨⟨pb, _, hg3⟩, _, hl3⟩ := hbx.bh
    refine JK.hd (v := slB ad' (([] : List UInt8) ++ [u])) 100 rfl rfl rfl rfl (opD_load rfl rfl (ldB hg3 hl3 rfl rfl)) rfl ?_
    exact JK.fn 100 rfl ⟨rfl, _, rfl, _, rfl, (by show Value.tuple ⟨[.int .i64 (IntKind.i64.wrap ((((([] : List UInt8)) ++ [u]).length : Int) - ((([] : List UInt8)).length : Int))), .nilIface]⟩ = _; rw [lenU]; rfl), ad', hbx.pre (by omega) (fun c hc hcb _ => s1 c hcb)⟩
  | cons x l =>
    refine JK.hd (v := slB ad (x :: l)) (H' := H1) 100 rfl rfl rfl rfl (opD_load rfl rfl (ldB hg hl rfl rfl)) rfl ?_
    refine JK.hd (v := slB ad (x :: l)) (H' := H1) 100 rfl rfl rfl rfl (opD_load rfl rfl (ldB hg hl rfl rfl)) rfl ?_
    refine JK.cl 100 rfl (ar_ok hr hx hb) (fun v H2 ⟨ad', e, a2, a3, a4, a5⟩ => ⟨_, rfl, ?_⟩)
    subst e
    have a2 : H1.next ≤ H2.next := a2
    have hg2 : H2.get b = some (.cells (.var 56) [.pointer pa, slB ad (x :: l)]) := by rw [a3 b hl hap]; exact hg
    refine JK.hd 100 rfl rfl rfl rfl (opD_store rfl rfl rfl (stD (m := .var 56) (cs := [.pointer pa, slB ad (x :: l)]) hg2 (by decide) (by rw [slB_cells]; rfl) (by rw [slB_cells]; exact Nat.le_refl 2) (by rw [slB_cells]; simp [slB_one]))) rfl ?_
    have hbx := hx.put hg2 hpa a2 a3 a4 a5
    obtain ⟨⟨pb, _, hg3⟩, _, hl3⟩ := hbx.bh
    refine JK.hd (v := slB ad' ((x :: l) ++ [u])) 100 rfl rfl rfl rfl (opD_load rfl rfl (ldB hg3 hl3 rfl rfl)) rfl ?_
    exact JK.fn 100 rfl ⟨rfl, _, rfl, _, rfl, (by show Value.tuple ⟨[.int .i64 (IntKind.i64.wrap (((((x :: l)) ++ [u]).length : Int) - (((x :: l)).length : Int))), .nilIface]⟩ = _; rw [lenU]; rfl), ad', hbx.pre (by omega) (fun c hc hcb _ => s1 c hcb)⟩

theorem st_ok : BldG Tryd.prog 56 5 23 := by
  intro H b ad L h hb
  obtain ⟨⟨pa, hpa, hg⟩, hr, hl⟩ := h
  refine SCall.start Tryd.func23 rfl rfl rfl rfl rfl rfl ?_
  refine JK.dr 100 rfl ?_
  refine J.draw (m := 12) (fl := false) (by kernel_rfl) rfl (by kernel_rfl) (by kernel_rfl) ?_
  cases L with
  | nil =>
    refine JD.hd rfl rfl rfl rfl rfl ?_
    refine JD.hd rfl rfl rfl rfl rfl ?_
    refine JD.hd rfl rfl rfl rfl rfl ?_
    refine JD.hd (v := slB ad []) (H' := H) rfl rfl rfl (opD_load rfl rfl (ldB hg hl rfl rfl)) rfl ?_
    refine JD.hd rfl rfl rfl rfl rfl ?_
    refine JD.hd rfl rfl rfl rfl rfl ?_
    refine JD.hd rfl rfl rfl rfl rfl ?_
    refine JD.hd rfl rfl rfl rfl rfl ?_
    refine JD.hd (v := slB ad []) (H' := H) rfl rfl rfl (opD_load rfl rfl (ldB hg hl rfl rfl)) rfl ?_
    refine JD.hd rfl rfl rfl rfl rfl ?_
    refine JD.hd rfl rfl rfl (opD_us (p := .pointer none) (n := .int .i64 0) rfl rfl rfl rfl) rfl ?_
    refine JD.hd rfl rfl rfl rfl rfl ?_
    refine JD.nil ⟨(fun q => by cases q), ?_⟩
    exact JK.fn 100 rfl ⟨rfl, _, rfl, _, rfl, rfl, rfl, fun _ _ _ => rfl⟩
  | cons x l =>
    obtain ⟨d, rfl, k2, k3, k4⟩ := hr (by simp)
    refine JD.hd rfl rfl rfl rfl rfl ?_
    refine JD.hd rfl rfl rfl rfl rfl ?_
    refine JD.hd rfl rfl rfl rfl rfl ?_
    refine JD.hd (v := slB (some ⟨d, 0, none⟩) (x :: l)) (H' := H) rfl rfl rfl (opD_load rfl rfl (ldB (ad := some ⟨d, 0, none⟩) hg hl rfl rfl)) rfl ?_
    refine JD.hd rfl rfl rfl rfl rfl ?_
    refine JD.hd rfl rfl rfl rfl rfl ?_
    refine JD.hd rfl rfl rfl rfl rfl ?_
    refine JD.hd rfl rfl rfl rfl rfl ?_
    refine JD.hd (v := slB (some ⟨d, 0, none⟩) (x :: l)) (H' := H) rfl rfl rfl (opD_load rfl rfl (ldB (ad := some ⟨d, 0, none⟩) hg hl rfl rfl)) rfl ?_
    refine JD.hd rfl rfl rfl rfl rfl ?_
    refine JD.hd rfl rfl rfl (opD_us (p := .pointer (some ⟨d, 0, none⟩)) (n := .int .i64 (x :: l).length) rfl rfl rfl (unsafeStr_ok (pt := 77) (it := 3) rfl rfl rfl k4 (by simp) hb)) rfl ?_
    refine JD.hd rfl rfl rfl rfl rfl ?_
    refine JD.nil ⟨(fun q => by cases q), ?_⟩
    exact JK.fn 100 rfl ⟨rfl, _, rfl, _, rfl, rfl, rfl, fun c _ hc => by rw [Hp.get_kill, if_neg (fun q => hc (by simp) (by simp [q]))]⟩
end Go.Proofs.YtgmejigjajcbfaaDoor
