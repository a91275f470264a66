import Derived.Test.YtgmejigjajcbfaaDoorST
import Derived.Test.YtgmejigjajcbfaaDoorSI
import Derived.Shelf.Strings.SlTrimAscii
import Derived.Test.YtgmejigjajcbfaaDoorD68
set_option linter.unusedVariables false
namespace Go.Proofs.YtgmejigjajcbfaaDoor
open Go Go.Det Go.RowKit
/-! What is checked of the chapter's examples, by a run of the abstract machine in the kernel -/
theorem seatOk : (seatCells.all fun p => Nat.blt p.1 Tryd.prog.globals.size) = true := by kernel_rfl
theorem seatFl : seatFlat = true := by kernel_rfl
theorem awake_run : (callE Tryd.prog (evC2 Tryd.prog 2000) 9 [] (HG Tryd.prog.globals.size)).map (fun p => p.1) = some (.ret (.bool true)) := by kernel_rfl
def f9 : Option Bool := some true
theorem f9_ok {H : Hp} {r : Bool} (hp : f9 = some r) : SCall Tryd.prog 9 [] H (Ret fun v H' => Ext H H' ∧ R_4 r H.next H' v) := by
  obtain rfl := Option.some.inj hp
  exact (SCall.closed2 2000 seatFl seatOk awake_run rfl rfl H).mono fun _ _ ⟨v, h1, h2, h3⟩ => ⟨v, h1, by subst h2 h3; exact ⟨Ext.refl _, rfl⟩⟩
/-! The library's own -/
theorem SCall.flatR {P : Program} {f : FuncId} {args : List Value} {v : Value} {R : Value → Hp → Prop} {H : Hp} (h : SCall P f args H (Ret fun v' H' => H' = H ∧ v' = v)) (hR : ∀ H, R v H) : SCall P f args H (Ret fun v' H' => Ext H H' ∧ R v' H') :=
  h.mono fun _ _ ⟨_, h1, h2, h3⟩ => by subst h2 h3; exact ⟨_, h1, Ext.refl _, hR _⟩
theorem accCells_get : ∀ (l : List Nat) (i : Nat), (accCells l)[2 * i]? = l[i]?.map (fun j => Value.int .u8 (Lib.accLo j : Int)) ∧ (accCells l)[2 * i + 1]? = l[i]?.map (fun j => Value.int .u8 (Lib.accHi j : Int))
  | [], i => by simp [accCells]
  | x :: l, 0 => by simp [accCells]
  | x :: l, i + 1 => by
    have h := accCells_get l i
    rw [show 2 * (i + 1) = 2 * i + 1 + 1 by omega]
    simp only [accCells, List.getElem?_cons_succ]
    exact h
theorem utabs {w : World} {B : Nat} (hL : Laid w B) : Lib.Utf8Tabs 0 1 w := by
  refine ⟨fun c hc => hL.cell (List.mem_cons_self ..) c _ (by simp [Lib.firstTab, hc]), fun i hi => ⟨hL.cell (g := 1) (List.mem_cons_of_mem _ (List.mem_cons_self ..)) _ _ ?_, hL.cell (g := 1) (List.mem_cons_of_mem _ (List.mem_cons_self ..)) _ _ ?_⟩⟩
  · rw [(accCells_get _ i).1]; simp [hi]
  · rw [(accCells_get _ i).2]; simp [hi]
def f19 (x0 : List UInt8) : Option (Int × Int) := some ((((Lib.decodeGo (bs x0)).1 : Nat) : Int), (((Lib.decodeGo (bs x0)).2 : Nat) : Int))
theorem f19_ok {H : Hp} {x0 : List UInt8} {r : Int × Int} (hp : f19 x0 = some r) : SCall Tryd.prog 19 [.string (bs x0)] H (Ret fun v H' => Ext H H' ∧ R_21_3 r H.next H' v) := by
  obtain rfl := Option.some.inj hp
  refine SCall.flatR (v := .tuple ⟨[.int .i32 ((Lib.decodeGo (bs x0)).1 : Nat), .int .i64 ((Lib.decodeGo (bs x0)).2 : Nat)]⟩) (SCall.ofCallsL (fun w hL => ?_) rfl rfl H) (fun _ => rfl)
  exact Tryd.utf8_DecodeRuneInString (bs x0) w (utabs hL)
def f52 (x0 : List UInt8) (x1 : Int) : Option Int := some (Lib.indexByte x0 x1.toNat.toUInt8)
theorem f52_ok {H : Hp} {x0 : List UInt8} {x1 : Int} {r : Int} (hp : f52 x0 x1 = some r) : SCall Tryd.prog 52 [.string (bs x0), .int .u8 x1] H (Ret fun v H' => Ext H H' ∧ R_3 r H.next H' v) := by
  obtain rfl := Option.some.inj hp
  refine SCall.flatR (v := .int .i64 (Lib.indexByte x0 x1.toNat.toUInt8)) (SCall.ofCallsL (fun w hL => ?_) rfl rfl H) (fun _ => rfl)
  exact (Tryd.strings_IndexByte (bs x0) x1 w).mono fun e w' ⟨h1, h2⟩ => ⟨h1, h2 ▸ Below.refl _ _⟩
theorem mLen {w : World} (hL : Laid w w.heap.size) : ∃ m, w.cell? ⟨2, 0, none⟩ = some (.int .i64 m) := (hL.2.1 2 (List.mem_cons_self ..)).2
theorem errAt {w : World} {g : Nat} (hg : g ∈ seatIfs) (hL : Laid w w.heap.size) : ∃ ev, w.cell? ⟨g, 0, none⟩ = some ev ∧ (ev = .nilIface ∨ ∃ te pe, ev = .iface te pe) := by
  obtain ⟨-, t, z, h⟩ := hL.2.2 g hg
  exact ⟨_, h, .inr ⟨_, _, rfl⟩⟩
def f51 (x0 : List UInt8) : Option (Int × Bool) := if x0.length ≤ 281474976710656 then some (match Lib.atoiAll x0 with | .ok v => (v, true) | Lib.NumEnd.syntax => (0, false) | .range => (Lib.atoiSat x0, false)) else none
theorem f51_ok {H : Hp} {x0 : List UInt8} {r : Int × Bool} (hp : f51 x0 = some r) : SCall Tryd.prog 51 [.string (bs x0)] H (Ret fun v H' => Ext H H' ∧ R_3_58 r H.next H' v) := by
  unfold f51 at hp
  split at hp
  case isFalse => cases hp
  case isTrue h =>
    cases hp
    rcases ha : Lib.atoiAll x0 with v | _ | _
    · skip
      refine SCall.ofOk (fun w hL => ?_) rfl H
      exact (Any.strconv_Atoi_ok Tryd.laysC172 (bs x0) (by show x0.length ≤ _; omega) v ha w).mono fun e w' ⟨h1, h2⟩ => ⟨h1, by
        rcases h2 with rfl | ⟨t, rfl⟩
        · exact Below.refl _ _
        · exact Lib.bytesWorld_below _ _ _⟩
    · skip
      refine SCall.ofErr (T := Tryd.lays172_ren.t 168) (fun w hL => ?_) rfl H
      obtain ⟨ev, h1, h2⟩ := errAt (g := 3) (by simp [seatIfs]) hL
      exact (Any.strconv_Atoi_syntax Tryd.laysC172 (bs x0) (by show x0.length ≤ _; exact h) ha ev w h1 h2).mono fun e w' ⟨N, k1, k2, k3, k4⟩ => ⟨N, _, _, k1, k2, k3, k4⟩
    · skip
      refine SCall.ofErr (T := Tryd.lays172_ren.t 168) (fun w hL => ?_) rfl H
      obtain ⟨ev, h1, h2⟩ := errAt (g := 4) (by simp [seatIfs]) hL
      exact (Any.strconv_Atoi_range Tryd.laysC172 (bs x0) (by show x0.length ≤ _; exact h) ha ev w h1 h2).mono fun e w' ⟨N, k1, k2, k3, k4⟩ => ⟨N, _, _, k1, k2, k3, k4⟩
/-- A contract that makes a row. -/
theorem SCall.ofRow {P : Program} {f : FuncId} {args cs : List Value} {t : TypeId} {n : Nat} (hlt : n < LOOSE) (h : ∀ w, Laid w w.heap.size → Calls P f ⟨args⟩ w fun e w' => e = .returned (.slice (some ⟨w.heap.size, 0, none⟩) n n) ∧ w' = w.alloc (.cells ⟨cs⟩ t)) (ha : flats args = true) (hc : flats cs = true) (H : Hp) :
    SCall P f args H (Ret fun v H' => H' = H.alloc (.cells .fix cs) ∧ v = .slice (some ⟨H.next, 0, none⟩) n n) := by
  refine ⟨.ret _, H.alloc (.cells .fix cs), ⟨_, rfl, rfl, rfl⟩, fun X R w args' hG hR hargs cs0 => ?_⟩
  have he := flats_eq hargs ha
  subst he
  obtain ⟨e, w', fr, ⟨rfl, rfl⟩, hc', hf, hl⟩ := h w (hG.now hR) cs0
  obtain ⟨hR', hle⟩ := hR.allocCells (m := .fix) (by decide) 1 [] t (fun _ => rfl) Mode.okE.fix (flats_refl hc)
  simp only [List.append_nil] at hR'
  exact ⟨_, _, .ret _, fr, hle, hR', .ret (.slice n n n ⟨rfl, rfl, _, Ren.add_same _ _ _, rfl, rfl⟩ (.inl ⟨hlt, rfl, Nat.le_refl _⟩)), hf, hc', hl⟩
def f14 (x0 x1 : List UInt8) : Option (List (List UInt8)) := if x0.length < 4294967281 ∧ 1 ≤ x1.length then some ((Lib.splitB (bs x1) 0 (Lib.countB (bs x0) (bs x1)) (bs x0)).map (·.data.toList)) else none
theorem sE_map (l : List ByteArray) : encL sE (l.map (·.data.toList)) = l.map Value.string := by
  induction l with
  | nil => rfl
  | cons x l ih => simp only [List.map_cons, encL, List.flatMap_cons] at ih ⊢; rw [ih]; rfl
theorem flats_strings (l : List ByteArray) : flats (l.map Value.string) = true := by
  induction l with
  | nil => rfl
  | cons x l ih => simp [flats, flat, ih]
theorem f14_ok {H : Hp} {x0 x1 : List UInt8} {r : List (List UInt8)} (hp : f14 x0 x1 = some r) : SCall Tryd.prog 14 [.string (bs x0), .string (bs x1)] H (Ret fun v H' => Ext H H' ∧ R_24 r H.next H' v) := by
  unfold f14 at hp
  split at hp
  case isFalse => cases hp
  case isTrue h =>
    cases hp
    have hl := Lib.splitB_all (bs x1) h.2 0 _ (bs x0) rfl
    have hle := Lib.countB_le (bs x1) h.2 (bs x0).size (bs x0) (Nat.le_refl _)
    have hsz : (bs x0).size = x0.length := rfl
    have c : SCall Tryd.prog 14 [.string (bs x0), .string (bs x1)] H (Ret fun v H' => H' = H.alloc (.cells .fix ((Lib.splitB (bs x1) 0 (Lib.countB (bs x0) (bs x1)) (bs x0)).map Value.string)) ∧ v = .slice (some ⟨H.next, 0, none⟩) (Lib.countB (bs x0) (bs x1) + 1) (Lib.countB (bs x0) (bs x1) + 1)) :=
      SCall.ofRow (t := 9) (by have := h.1; unfold LOOSE; omega) (fun w hL => by
        obtain ⟨m, hm⟩ := mLen hL
        exact Tryd.strings_Split (bs x0) (bs x1) m w h.1 hm h.2) rfl (flats_strings _) H
    refine c.mono fun e H' ⟨v, h1, h2, h3⟩ => ⟨v, h1, by subst h2; exact (Ext.refl _).alloc _, ?_⟩
    subst h2
    refine ⟨some ⟨H.next, 0, none⟩, _, by rw [h3, List.length_map, hl], .inr ⟨H.next, 0, _, rfl, repL_flat.2 (sE_map _).symm, .inr ⟨Nat.le_refl _, by rw [Hp.next_alloc]; omega, .fix, _, by rw [Hp.get_alloc, if_pos rfl], by simp, by rw [List.drop_zero]; exact List.take_length⟩, .inl ⟨by rw [List.length_map, hl]; exact Nat.le_refl _, by have := h.1; unfold LOOSE; omega⟩⟩⟩
/-- strings.IndexAny at the two blanks. -/
theorem h112 : (Tryd.prog.info? 97).map (fun i => (i.zero, i.size)) = some (some (.agg (Array.replicate 256 (.bool false))), 256) := by kernel_rfl
def f35 (x0 x1 : List UInt8) : Option Int := if x1 = [32, 9] ∧ x0.length < 4294967281 then some (Lib.indexAny x0 [32, 9]) else none
theorem f35_ok {H : Hp} {x0 x1 : List UInt8} {r : Int} (hp : f35 x0 x1 = some r) : SCall Tryd.prog 35 [.string (bs x0), .string (bs x1)] H (Ret fun v H' => Ext H H' ∧ R_3 r H.next H' v) := by
  unfold f35 at hp
  split at hp
  case isFalse => cases hp
  case isTrue h =>
    obtain ⟨rfl, hl⟩ := h
    cases hp
    by_cases h8 : x0.length ≤ 8
    · exact Ia.f35_ok (k := 2000) (ia67 h8)
    · refine SCall.flatR (v := .int .i64 (Lib.indexAny x0 [32, 9])) (SCall.ofCallsL (fun w hL => ?_) rfl rfl H) (fun _ => rfl)
      refine (Any.strings_IndexAny_long Tryd.lays153 (zero_of_info h112).1 (zero_of_info h112).2 (bs x0) (bs [32, 9]) w (by decide) (by show 8 < x0.length; omega) (by show x0.length < _; exact hl) (by decide) (ascii_of_all (by decide))).mono fun e w' ⟨h1, h2⟩ => ⟨h1, ?_⟩
      subst h2
      exact ((Below.refl _ _).alloc (Nat.le_refl _) _).alloc (by simp) _
/-- strings.Trim at a set of ASCII bytes. -/
def f50 (x0 x1 : List UInt8) : Option (List UInt8) := if x0.length < 4294967281 ∧ x1.length < 4294967281 ∧ (x1.all fun b => decide (b.toNat < 128)) = true then some (Lib.trimS x0 x1) else none
theorem f50_ok {H : Hp} {x0 x1 : List UInt8} {r : List UInt8} (hp : f50 x0 x1 = some r) : SCall Tryd.prog 50 [.string (bs x0), .string (bs x1)] H (Ret fun v H' => Ext H H' ∧ R_9 r H.next H' v) := by
  unfold f50 at hp
  split at hp
  case isFalse => cases hp
  case isTrue h =>
    cases hp
    refine SCall.flatR (v := .string (bs (Lib.trimS x0 x1))) (SCall.ofCallsL (fun w hL => ?_) rfl rfl H) (fun _ => rfl)
    exact (Any.strings_Trim_laid Tryd.lays160 h112 (bs x0) (bs x1) w (by show x0.length ≤ _; omega) (by show x1.length < _; exact h.2.1) (ascii_of_all h.2.2)).mono fun e w' ⟨h1, h2⟩ => ⟨h1, h2⟩
end Go.Proofs.YtgmejigjajcbfaaDoor
