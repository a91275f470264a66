import Derived.Test.YtgmejigjajcbfaaGreatDoorST
import Derived.Test.YtgmejigjajcbfaaGreatDoorSI
import Derived.Shelf.Strings.SlTrimAscii
import Derived.Test.YtgmejigjajcbfaaGreatDoorD68
set_option linter.unusedVariables false
namespace Go.Proofs.YtgmejigjajcbfaaGreatDoor
open Go Go.Det Go.RowKit
/-! What is checked of the chapter's examples, by a run of the abstract machine in the kernel -/
theorem seatOk : (seatCells.all fun p => Nat.blt p.1 Tryz.prog.globals.size) = true := by kernel_rfl
theorem seatFl : seatFlat = true := by kernel_rfl
theorem awake_run : (callE Tryz.prog (evC2 Tryz.prog 2000) 8 [] (HG Tryz.prog.globals.size)).map (fun p => p.1) = some (.ret (.bool true)) := by kernel_rfl
def f8 : Option Bool := some true
theorem f8_ok {H : Hp} {r : Bool} (hp : f8 = some r) : SCall Tryz.prog 8 [] H (Ret fun v H' => Ext H H' ∧ R_4 r H.next H' v) := by
  obtain rfl := Option.some.inj hp
  exact (SCall.closed2 2000 seatFl seatOk awake_run rfl rfl H).mono fun _ _ ⟨v, h1, h2, h3⟩ => ⟨v, h1, by subst h2 h3; exact ⟨Ext.refl _, rfl⟩⟩
/-! The library's own -/
theorem SCall.flatR {P : Program} {f : FuncId} {args : List Value} {v : Value} {R : Value → Hp → Prop} {H : Hp} (h : SCall P f args H (Ret fun v' H' => H' = H ∧ v' = v)) (hR : ∀ H, R v H) : SCall P f args H (Ret fun v' H' => Ext H H' ∧ R v' H') :=
  h.mono fun _ _ ⟨_, h1, h2, h3⟩ => by subst h2 h3; exact ⟨_, h1, Ext.refl _, hR _⟩
theorem accCells_get : ∀ (l : List Nat) (i : Nat), (accCells l)[2 * i]? = l[i]?.map (fun j => Value.int .u8 (Lib.accLo j : Int)) ∧ (accCells l)[2 * i + 1]? = l[i]?.map (fun j => Value.int .u8 (Lib.accHi j : Int))
  | [], i => by simp [accCells]
  | x :: l, 0 => by simp [accCells]
  | x :: l, i + 1 => by
    have h := accCells_get l i
    rw [show 2 * (i + 1) = 2 * i + 1 + 1 by omega]
    simp only [accCells, List.getElem?_cons_succ]
    exact h
theorem utabs {w : World} {B : Nat} (hL : Laid w B) : Lib.Utf8Tabs 0 1 w := by
  refine ⟨fun c hc => hL.cell (List.mem_cons_self ..) c _ (by simp [Lib.firstTab, hc]), fun i hi => ⟨hL.cell (g := 1) (List.mem_cons_of_mem _ (List.mem_cons_self ..)) _ _ ?_, hL.cell (g := 1) (List.mem_cons_of_mem _ (List.mem_cons_self ..)) _ _ ?_⟩⟩
  · rw [(accCells_get _ i).1]; simp [hi]
  · rw [(accCells_get _ i).2]; simp [hi]
def f35 (x0 : List UInt8) : Option (Int × Int) := some ((((Lib.decodeGo (bs x0)).1 : Nat) : Int), (((Lib.decodeGo (bs x0)).2 : Nat) : Int))
theorem f35_ok {H : Hp} {x0 : List UInt8} {r : Int × Int} (hp : f35 x0 = some r) : SCall Tryz.prog 35 [.string (bs x0)] H (Ret fun v H' => Ext H H' ∧ R_21_3 r H.next H' v) := by
  obtain rfl := Option.some.inj hp
  refine SCall.flatR (v := .tuple ⟨[.int .i32 ((Lib.decodeGo (bs x0)).1 : Nat), .int .i64 ((Lib.decodeGo (bs x0)).2 : Nat)]⟩) (SCall.ofCallsL (fun w hL => ?_) rfl rfl H) (fun _ => rfl)
  exact Tryz.utf8_DecodeRuneInString (bs x0) w (utabs hL)
def f85 (x0 : List UInt8) (x1 : Int) : Option Int := some (Lib.indexByte x0 x1.toNat.toUInt8)
theorem f85_ok {H : Hp} {x0 : List UInt8} {x1 : Int} {r : Int} (hp : f85 x0 x1 = some r) : SCall Tryz.prog 85 [.string (bs x0), .int .u8 x1] H (Ret fun v H' => Ext H H' ∧ R_3 r H.next H' v) := by
  obtain rfl := Option.some.inj hp
  refine SCall.flatR (v := .int .i64 (Lib.indexByte x0 x1.toNat.toUInt8)) (SCall.ofCallsL (fun w hL => ?_) rfl rfl H) (fun _ => rfl)
  exact (Tryz.strings_IndexByte (bs x0) x1 w).mono fun e w' ⟨h1, h2⟩ => ⟨h1, h2 ▸ Below.refl _ _⟩
theorem mLen {w : World} (hL : Laid w w.heap.size) : ∃ m, w.cell? ⟨2, 0, none⟩ = some (.int .i64 m) := (hL.2.1 2 (List.mem_cons_self ..)).2
theorem errAt {w : World} {g : Nat} (hg : g ∈ seatIfs) (hL : Laid w w.heap.size) : ∃ ev, w.cell? ⟨g, 0, none⟩ = some ev ∧ (ev = .nilIface ∨ ∃ te pe, ev = .iface te pe) := by
  obtain ⟨-, t, z, h⟩ := hL.2.2 g hg
  exact ⟨_, h, .inr ⟨_, _, rfl⟩⟩
def f84 (x0 : List UInt8) : Option (Int × Bool) := if x0.length ≤ 281474976710656 then some (match Lib.atoiAll x0 with | .ok v => (v, true) | Lib.NumEnd.syntax => (0, false) | .range => (Lib.atoiSat x0, false)) else none
theorem f84_ok {H : Hp} {x0 : List UInt8} {r : Int × Bool} (hp : f84 x0 = some r) : SCall Tryz.prog 84 [.string (bs x0)] H (Ret fun v H' => Ext H H' ∧ R_3_65 r H.next H' v) := by
  unfold f84 at hp
  split at hp
  case isFalse => cases hp
  case isTrue h =>
    cases hp
    rcases ha : Lib.atoiAll x0 with v | _ | _
    · skip
      refine SCall.ofOk (fun w hL => ?_) rfl H
      exact (Any.strconv_Atoi_ok Tryz.laysC172 (bs x0) (by show x0.length ≤ _; omega) v ha w).mono fun e w' ⟨h1, h2⟩ => ⟨h1, by
        rcases h2 with rfl | ⟨t, rfl⟩
        · exact Below.refl _ _
        · exact Lib.bytesWorld_below _ _ _⟩
    · skip
      refine SCall.ofErr (T := Tryz.lays172_ren.t 168) (fun w hL => ?_) rfl H
      obtain ⟨ev, h1, h2⟩ := errAt (g := 4) (by simp [seatIfs]) hL
      exact (Any.strconv_Atoi_syntax Tryz.laysC172 (bs x0) (by show x0.length ≤ _; exact h) ha ev w h1 h2).mono fun e w' ⟨N, k1, k2, k3, k4⟩ => ⟨N, _, _, k1, k2, k3, k4⟩
    · skip
      refine SCall.ofErr (T := Tryz.lays172_ren.t 168) (fun w hL => ?_) rfl H
      obtain ⟨ev, h1, h2⟩ := errAt (g := 5) (by simp [seatIfs]) hL
      exact (Any.strconv_Atoi_range Tryz.laysC172 (bs x0) (by show x0.length ≤ _; exact h) ha ev w h1 h2).mono fun e w' ⟨N, k1, k2, k3, k4⟩ => ⟨N, _, _, k1, k2, k3, k4⟩
/-- A contract that makes a row. -/
theorem SCall.ofRow {P : Program} {f : FuncId} {args cs : List Value} {t : TypeId} {n : Nat} (hlt : n < LOOSE) (h : ∀ w, Laid w w.heap.size → Calls P f ⟨args⟩ w fun e w' => e = .returned (.slice (some ⟨w.heap.size, 0, none⟩) n n) ∧ w' = w.alloc (.cells ⟨cs⟩ t)) (ha : flats args = true) (hc : flats cs = true) (H : Hp) :
    SCall P f args H (Ret fun v H' => H' = H.alloc (.cells .fix cs) ∧ v = .slice (some ⟨H.next, 0, none⟩) n n) := by
  refine ⟨.ret _, H.alloc (.cells .fix cs), ⟨_, rfl, rfl, rfl⟩, fun X R w args' hG hR hargs cs0 => ?_⟩
  have he := flats_eq hargs ha
  subst he
  obtain ⟨e, w', fr, ⟨rfl, rfl⟩, hc', hf, hl⟩ := h w (hG.now hR) cs0
  obtain ⟨hR', hle⟩ := hR.allocCells (m := .fix) (by decide) 1 [] t (fun _ => rfl) Mode.okE.fix (flats_refl hc)
  simp only [List.append_nil] at hR'
  exact ⟨_, _, .ret _, fr, hle, hR', .ret (.slice n n n ⟨rfl, rfl, _, Ren.add_same _ _ _, rfl, rfl⟩ (.inl ⟨hlt, rfl, Nat.le_refl _⟩)), hf, hc', hl⟩
def f28 (x0 x1 : List UInt8) : Option (List (List UInt8)) := if x0.length < 4294967281 ∧ 1 ≤ x1.length then some ((Lib.splitB (bs x1) 0 (Lib.countB (bs x0) (bs x1)) (bs x0)).map (·.data.toList)) else none
theorem sE_map (l : List ByteArray) : encL sE (l.map (·.data.toList)) = l.map Value.string := by
  induction l with
  | nil => rfl
  | cons x l ih => simp only [List.map_cons, encL, List.flatMap_cons] at ih ⊢; rw [ih]; rfl
theorem flats_strings (l : List ByteArray) : flats (l.map Value.string) = true := by
  induction l with
  | nil => rfl
  | cons x l ih => simp [flats, flat, ih]
theorem f28_ok {H : Hp} {x0 x1 : List UInt8} {r : List (List UInt8)} (hp : f28 x0 x1 = some r) : SCall Tryz.prog 28 [.string (bs x0), .string (bs x1)] H (Ret fun v H' => Ext H H' ∧ R_37 r H.next H' v) := by
  unfold f28 at hp
  split at hp
  case isFalse => cases hp
  case isTrue h =>
    cases hp
    have hl := Lib.splitB_all (bs x1) h.2 0 _ (bs x0) rfl
    have hle := Lib.countB_le (bs x1) h.2 (bs x0).size (bs x0) (Nat.le_refl _)
    have hsz : (bs x0).size = x0.length := rfl
    have c : SCall Tryz.prog 28 [.string (bs x0), .string (bs x1)] H (Ret fun v H' => H' = H.alloc (.cells .fix ((Lib.splitB (bs x1) 0 (Lib.countB (bs x0) (bs x1)) (bs x0)).map Value.string)) ∧ v = .slice (some ⟨H.next, 0, none⟩) (Lib.countB (bs x0) (bs x1) + 1) (Lib.countB (bs x0) (bs x1) + 1)) :=
      SCall.ofRow (t := 9) (by have := h.1; unfold LOOSE; omega) (fun w hL => by
        obtain ⟨m, hm⟩ := mLen hL
        exact Tryz.strings_Split (bs x0) (bs x1) m w h.1 hm h.2) rfl (flats_strings _) H
    refine c.mono fun e H' ⟨v, h1, h2, h3⟩ => ⟨v, h1, by subst h2; exact (Ext.refl _).alloc _, ?_⟩
    subst h2
    refine ⟨some ⟨H.next, 0, none⟩, _, by rw [h3, List.length_map, hl], .inr ⟨H.next, 0, _, rfl, repL_flat.2 (sE_map _).symm, .inr ⟨Nat.le_refl _, by rw [Hp.next_alloc]; omega, .fix, _, by rw [Hp.get_alloc, if_pos rfl], by simp, by rw [List.drop_zero]; exact List.take_length⟩, .inl ⟨by rw [List.length_map, hl]; exact Nat.le_refl _, by have := h.1; unfold LOOSE; omega⟩⟩⟩
/-- strings.IndexAny at the two blanks. -/
theorem h112 : (Tryz.prog.info? 112).map (fun i => (i.zero, i.size)) = some (some (.agg (Array.replicate 256 (.bool false))), 256) := by kernel_rfl
def f67 (x0 x1 : List UInt8) : Option Int := if x1 = [32, 9] ∧ x0.length < 4294967281 then some (Lib.indexAny x0 [32, 9]) else none
theorem f67_ok {H : Hp} {x0 x1 : List UInt8} {r : Int} (hp : f67 x0 x1 = some r) : SCall Tryz.prog 67 [.string (bs x0), .string (bs x1)] H (Ret fun v H' => Ext H H' ∧ R_3 r H.next H' v) := by
  unfold f67 at hp
  split at hp
  case isFalse => cases hp
  case isTrue h =>
    obtain ⟨rfl, hl⟩ := h
    cases hp
    by_cases h8 : x0.length ≤ 8
    · exact Ia.f67_ok (k := 2000) (ia67 h8)
    · refine SCall.flatR (v := .int .i64 (Lib.indexAny x0 [32, 9])) (SCall.ofCallsL (fun w hL => ?_) rfl rfl H) (fun _ => rfl)
      refine (Any.strings_IndexAny_long Tryz.lays153 (zero_of_info h112).1 (zero_of_info h112).2 (bs x0) (bs [32, 9]) w (by decide) (by show 8 < x0.length; omega) (by show x0.length < _; exact hl) (by decide) (ascii_of_all (by decide))).mono fun e w' ⟨h1, h2⟩ => ⟨h1, ?_⟩
      subst h2
      exact ((Below.refl _ _).alloc (Nat.le_refl _) _).alloc (by simp) _
/-- strings.Trim at a set of ASCII bytes. -/
def f83 (x0 x1 : List UInt8) : Option (List UInt8) := if x0.length < 4294967281 ∧ x1.length < 4294967281 ∧ (x1.all fun b => decide (b.toNat < 128)) = true then some (Lib.trimS x0 x1) else none
theorem f83_ok {H : Hp} {x0 x1 : List UInt8} {r : List UInt8} (hp : f83 x0 x1 = some r) : SCall Tryz.prog 83 [.string (bs x0), .string (bs x1)] H (Ret fun v H' => Ext H H' ∧ R_9 r H.next H' v) := by
  unfold f83 at hp
  split at hp
  case isFalse => cases hp
  case isTrue h =>
    cases hp
    refine SCall.flatR (v := .string (bs (Lib.trimS x0 x1))) (SCall.ofCallsL (fun w hL => ?_) rfl rfl H) (fun _ => rfl)
    exact (Any.strings_Trim_laid Tryz.lays160 h112 (bs x0) (bs x1) w (by show x0.length ≤ _; omega) (by show x1.length < _; exact h.2.1) (ascii_of_all h.2.2)).mono fun e w' ⟨h1, h2⟩ => ⟨h1, h2⟩
theorem below_growN (w : World) (n : Nat) (os : Array Obj) : Below w.heap.size w (Go.Sort.grow (w.drewN n) os) := by
  refine ⟨rfl, rfl, rfl, ?_, fun k hk => ?_⟩
  · show w.heap.size ≤ (w.heap ++ os).size
    rw [Array.size_append]; omega
  · show (w.heap ++ os)[k]? = w.heap[k]?
    rw [Array.getElem?_append_left hk]
def f61 (x0 : Int) : Option (List UInt8) := if -9223372036854775808 ≤ x0 ∧ x0 ≤ 9223372036854775807 then some (Lib.itoa x0) else none
theorem f61_ok {H : Hp} {x0 : Int} {r : List UInt8} (hp : f61 x0 = some r) : SCall Tryz.prog 61 [.int .i64 x0] H (Ret fun v H' => Ext H H' ∧ R_9 r H.next H' v) := by
  unfold f61 at hp
  split at hp
  case isFalse => cases hp
  case isTrue h =>
    cases hp
    refine SCall.flatR (v := .string (bs (Lib.itoa x0))) (SCall.ofCallsL (fun w hL => ?_) rfl rfl H) (fun _ => rfl)
    have ht : Lib.TabIs Tryz.prog w "internal/strconv.uint64pow10" .u64 Lib.pow10Tab := hL.tabIs (g := 3) (List.mem_cons_of_mem _ (List.mem_cons_of_mem _ (List.mem_cons_self ..))) (by kernel_rfl)
    exact (Tryz.strconv_Itoa x0 h.1 h.2 w ht).mono fun e w' ⟨h1, k, os, h2⟩ => ⟨h1, h2 ▸ below_growN w k os⟩
/-- A contract of the kit's at arguments that hold addresses. -/
theorem SCall.ofRel {P : Program} {f : FuncId} {args : List Value} {v : Value} {H : Hp} (h : ∀ (X : Cx) (R : Ren) (w : World) (args' : List Value), Laid w w.heap.size → Rel X R H w → VRs R args args' → Calls P f ⟨args'⟩ w fun e w' => e = .returned v ∧ Below w.heap.size w w') (hv : flat v = true) :
    SCall P f args H (Ret fun v' H' => H' = H ∧ v' = v) := by
  refine ⟨.ret v, H, ⟨v, rfl, rfl, rfl⟩, fun X R w args' hG hR hargs cs => ?_⟩
  obtain ⟨e, w', fr, ⟨rfl, hb⟩, hc, hf, hl⟩ := h X R w args' (hG.now hR) hR hargs cs
  exact ⟨R, w', .ret v, fr, Ren.le_refl R, hR.later hb, .ret (flat_refl hv), hf, hc, hl⟩
theorem encL_str (l : List (List UInt8)) : encL sE l = l.map fun x => Value.string (bs x) := by
  induction l with
  | nil => rfl
  | cons z l ih => simp only [encL, List.flatMap_cons, List.map_cons] at ih ⊢; rw [ih]; rfl
def f47 (x0 : List (List UInt8)) (x1 : List UInt8) : Option (List UInt8) := if x0.length ≤ 140737488355328 ∧ (Lib.join x0 x1).length ≤ 140737488355328 then some (Lib.join x0 x1) else none
theorem f47_ok {H : Hp} {a_x0 : Option Addr} {c_x0 : Nat} {x0 : List (List UInt8)} {x1 r : List UInt8} (g_x0 : SlF 0 H strC a_x0 c_x0 x0) (hp : f47 x0 x1 = some r) : SCall Tryz.prog 47 [.slice a_x0 x0.length c_x0, .string (bs x1)] H (Ret fun v H' => Ext H H' ∧ R_9 r H.next H' v) := by
  unfold f47 at hp
  split at hp
  case isFalse => cases hp
  case isTrue hh =>
    cases hp
    refine SCall.flatR (v := .string (bs (Lib.join x0 x1))) (SCall.ofRel (fun X R w args' hL hR hargs => ?_) rfl) (fun _ => rfl)
    have none_ : x0 = [] → ∀ a c, Calls Tryz.prog 47 #[.slice a 0 c, .string (bs x1)] w fun e w' => e = .returned (.string (bs (Lib.join x0 x1))) ∧ Below w.heap.size w w' := by
      intro h a c
      subst h
      exact (Tryz.strings_Join_none a c (bs x1) w).mono fun e w' ⟨h1, h2⟩ => ⟨h1, h2 ▸ Below.refl _ _⟩
    cases hargs with
    | cons h1 h2 =>
      cases h2 with
      | cons h2 h3 =>
        cases h2; cases h3
        rcases g_x0 with ⟨rfl, rfl, rfl⟩ | ⟨b, o, cs, rfl, g1, g2, gcap⟩
        · cases h1
          exact none_ rfl none 0
        · have hnil : x0 = [] → x0.length = 0 := by rintro rfl; rfl
          generalize hn : x0.length = n at h1
          cases h1 with
          | empty a a' cap' => exact none_ (List.length_eq_zero_iff.1 hn) _ _
          | @slice _ a' len cap cap' ha hc =>
            rcases g2 with g2 | g2
            · subst g2; simp only [List.length_nil] at hn; subst hn; exact none_ rfl _ _
            · obtain ⟨_, _, m, all, k1, k2, k3⟩ := g2
              have hx : ∀ (j : Nat) x, (x0.map fun l => bs l)[j]? = some x → w.cell? ⟨a'.block, a'.off + j, none⟩ = some (.string x) := by
                intro j x hj
                rw [List.getElem?_map] at hj
                obtain ⟨y, hy, rfl⟩ := Option.map_eq_some_iff.1 hj
                have g1 : cs = encL sE x0 := (repL_flat (enc := sE) (sz := 1) (he := fun _ => rfl)).1 g1
                subst g1
                have hcj : (encL sE x0)[j]? = some (.string (bs y)) := by
                  rw [show encL sE x0 = x0.map fun l => Value.string (bs l) from by
                    exact encL_str x0]
                  rw [List.getElem?_map, hy]; rfl
                have hall : all[o + j]? = some (.string (bs y)) := by
                  have hl := lt_of_get hcj
                  rw [← k3, List.getElem?_take_of_lt hl, List.getElem?_drop] at hcj
                  exact hcj
                obtain ⟨v', hv, hr⟩ := hR.cell ha k1 hall
                cases hr
                obtain ⟨sp, sp', i, e0, e1, e2⟩ := ha
                rw [← hv]
                congr 1
                obtain ⟨b1, o1, s1⟩ := a'
                simp only at sp'
                subst sp'
                unfold Addr.add
                split
                · rename_i h0; subst h0; simp
                · rfl
              have hlen : cap' ≥ n := by
                rcases hc with ⟨_, rfl, h⟩ | ⟨_, h, _⟩
                · exact h
                · exact h
              have hb : a'.block < w.heap.size := by
                obtain ⟨i, r1, br⟩ := hR.blk _ _ k1
                obtain ⟨sp, sp', j, r', e1, e2⟩ := ha
                simp only at r'
                rw [r1] at r'; cases r'
                rw [e1]
                rcases RI_own_of_BR br with ⟨q, _⟩ | ⟨_, q, _⟩
                · exact hR.lt b i r1 q
                · exact Nat.lt_of_lt_of_le q hR.size
              have hm : (x0.map fun l => bs l).map (·.data.toList) = x0 := by
                rw [List.map_map]
                exact (List.map_congr_left fun _ _ => rfl).trans (List.map_id _)
              have := Tryz.strings_Join a'.block a'.off cap' (x0.map fun l => bs l) (bs x1) w hx hb (by rw [List.length_map]; exact hh.1) (by rw [List.length_map, hn]; exact hlen) (by rw [hm]; exact hh.2)
              rw [hm, List.length_map, hn] at this
              have ea : (⟨a'.block, a'.off, none⟩ : Addr) = a' := by
                obtain ⟨b1, o1, s1⟩ := a'
                have := ha.spot'
                simp only at this
                subst this; rfl
              rw [ea] at this
              exact this
end Go.Proofs.YtgmejigjajcbfaaGreatDoor
