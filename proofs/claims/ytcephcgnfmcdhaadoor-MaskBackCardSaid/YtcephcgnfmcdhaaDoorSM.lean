import Derived.Test.YtcephcgnfmcdhaaDoorST
import Derived.Test.YtcephcgnfmcdhaaDoorSh
set_option linter.unusedVariables false
namespace Go.Proofs.YtcephcgnfmcdhaaDoor
open Go Go.Det Go.RowKit
theorem SCall.flatR {P : Program} {f : FuncId} {args : List Value} {H : Hp} {v : Value} {R : Nat → Hp → Value → Prop} (h : SCall P f args H (Ret fun v' H' => H' = H ∧ v' = v)) (hr : ∀ n H', R n H' v) :
    SCall P f args H (Ret fun v H' => Ext H H' ∧ R H.next H' v) :=
  h.mono fun e H' ⟨v', h1, h2, h3⟩ => ⟨v', h1, by subst h2; exact Ext.refl _, by subst h3; exact hr _ _⟩
def f41 (x0 : Int) : Option Int := if 0 ≤ x0 ∧ x0 < 18446744073709551616 then some ((Lib.ctz 64 x0.toNat : Nat) : Int) else none
theorem f41_ok {H : Hp} {x0 : Int} {r : Int} (hp : f41 x0 = some r) : SCall Tryd.prog 41 [.int .u64 x0] H (Ret fun v H' => Ext H H' ∧ R_3 r H.next H' v) := by
  unfold f41 at hp
  split at hp
  case isFalse => cases hp
  case isTrue h =>
    cases hp
    refine SCall.flatR (v := .int .i64 ((Lib.ctz 64 x0.toNat : Nat) : Int)) (SCall.ofCallsL (fun w hL => ?_) rfl rfl H) (fun _ _ => rfl)
    have hx : x0 = ((x0.toNat : Nat) : Int) := by omega
    have c := Any7.bits_TrailingZeros64 Tryd.lays729 x0.toNat (by omega) w (fun _ j hj => hL.cell (g := 0) (List.mem_cons_self ..) j _ (by
      rw [List.getElem?_map, List.getD_eq_getElem?_getD]
      rw [List.getElem?_eq_getElem hj]; rfl))
    rw [← hx] at c
    exact c.mono fun e w' ⟨h1, h2⟩ => ⟨h1, h2 ▸ Below.refl _ _⟩
def f45 (x0 : Int) : Option Int := if 0 ≤ x0 ∧ x0 ≤ 18446744073709551615 then some ((Lib.bitLen x0.toNat : Nat) : Int) else none
theorem f45_ok {H : Hp} {x0 : Int} {r : Int} (hp : f45 x0 = some r) : SCall Tryd.prog 45 [.int .u64 x0] H (Ret fun v H' => Ext H H' ∧ R_3 r H.next H' v) := by
  unfold f45 at hp
  split at hp
  case isFalse => cases hp
  case isTrue h =>
    cases hp
    refine SCall.flatR (v := .int .i64 ((Lib.bitLen x0.toNat : Nat) : Int)) (SCall.ofCallsL (fun w hL => ?_) rfl rfl H) (fun _ _ => rfl)
    exact (Tryd.bits_Len64 x0 w h.1 h.2).mono fun e w' ⟨h1, h2⟩ => ⟨h1, h2 ▸ Below.refl _ _⟩
theorem maxLen {w : World} (hL : Laid w w.heap.size) : ∃ m, w.cell? ⟨1, 0, none⟩ = some (.int .i64 m) := (hL.2 1 (List.mem_cons_self ..)).2
theorem below_drewN (w : World) (n : Nat) : Below w.heap.size w (w.drewN n) := ⟨rfl, rfl, rfl, Nat.le_refl _, fun _ _ => rfl⟩
def f49 (x0 x1 : List UInt8) : Option (List UInt8 × List UInt8 × Bool) := if x0.length < 4294967281 then some (Lib.cut x0 x1) else none
theorem f49_ok {H : Hp} {x0 x1 : List UInt8} {r : List UInt8 × List UInt8 × Bool} (hp : f49 x0 x1 = some r) : SCall Tryd.prog 49 [.string (bs x0), .string (bs x1)] H (Ret fun v H' => Ext H H' ∧ R_9_9_4 r H.next H' v) := by
  unfold f49 at hp
  split at hp
  case isFalse => cases hp
  case isTrue h =>
    cases hp
    refine SCall.flatR (v := .tuple ⟨[.string (bs (Lib.cut x0 x1).1), .string (bs (Lib.cut x0 x1).2.1), .bool (Lib.cut x0 x1).2.2]⟩) (SCall.ofCallsL (fun w hL => ?_) rfl rfl H) (fun _ _ => rfl)
    obtain ⟨m, hm⟩ := maxLen hL
    exact (Tryd.strings_Cut (bs x0) (bs x1) m w h hm).mono fun e w' ⟨h1, n, h2⟩ => ⟨h1, h2 ▸ below_drewN w n⟩
theorem below_growN (w : World) (n : Nat) (os : Array Obj) : Below w.heap.size w (Go.Sort.grow (w.drewN n) os) := by
  refine ⟨rfl, rfl, rfl, ?_, fun k hk => ?_⟩
  · show w.heap.size ≤ (w.heap ++ os).size
    rw [Array.size_append]; omega
  · show (w.heap ++ os)[k]? = w.heap[k]?
    rw [Array.getElem?_append_left hk]
def f42 (x0 : Int) : Option (List UInt8) := if -9223372036854775808 ≤ x0 ∧ x0 ≤ 9223372036854775807 then some (Lib.itoa x0) else none
theorem f42_ok {H : Hp} {x0 : Int} {r : List UInt8} (hp : f42 x0 = some r) : SCall Tryd.prog 42 [.int .i64 x0] H (Ret fun v H' => Ext H H' ∧ R_9 r H.next H' v) := by
  unfold f42 at hp
  split at hp
  case isFalse => cases hp
  case isTrue h =>
    cases hp
    refine SCall.flatR (v := .string (bs (Lib.itoa x0))) (SCall.ofCallsL (fun w hL => ?_) rfl rfl H) (fun _ _ => rfl)
    have ht : Lib.TabIs Tryd.prog w "internal/strconv.uint64pow10" .u64 Lib.pow10Tab := hL.tabIs (g := 2) (List.mem_cons_of_mem _ (List.mem_cons_self ..)) (by kernel_rfl)
    exact (Tryd.strconv_Itoa x0 h.1 h.2 w ht).mono fun e w' ⟨h1, k, os, h2⟩ => ⟨h1, h2 ▸ below_growN w k os⟩
/-- A contract that makes a row. -/
theorem SCall.ofRow {P : Program} {f : FuncId} {args cs : List Value} {t : TypeId} {n : Nat} (hlt : n < LOOSE) (h : ∀ w, Laid w w.heap.size → Calls P f ⟨args⟩ w fun e w' => e = .returned (.slice (some ⟨w.heap.size, 0, none⟩) n n) ∧ w' = w.alloc (.cells ⟨cs⟩ t)) (ha : flats args = true) (hc : flats cs = true) (H : Hp) :
    SCall P f args H (Ret fun v H' => H' = H.alloc (.cells .fix cs) ∧ v = .slice (some ⟨H.next, 0, none⟩) n n) := by
  refine ⟨.ret _, H.alloc (.cells .fix cs), ⟨_, rfl, rfl, rfl⟩, fun X R w args' hG hR hargs cs0 => ?_⟩
  have he := flats_eq hargs ha
  subst he
  obtain ⟨e, w', fr, ⟨rfl, rfl⟩, hc', hf, hl⟩ := h w (hG.now hR) cs0
  obtain ⟨hR', hle⟩ := hR.allocCells (m := .fix) (by decide) 1 [] t (fun _ => rfl) (fun _ k => by cases k) (flats_refl hc)
  simp only [List.append_nil] at hR'
  exact ⟨_, _, .ret _, fr, hle, hR', .ret (.slice n n n ⟨rfl, rfl, _, Ren.add_same _ _ _, rfl, rfl⟩ (.inl ⟨hlt, rfl, Nat.le_refl _⟩)), hf, hc', hl⟩
def f48 (x0 x1 : List UInt8) : Option (List (List UInt8)) := if x0.length < 4294967281 ∧ 1 ≤ x1.length then some ((Lib.splitB (bs x1) 0 (Lib.countB (bs x0) (bs x1)) (bs x0)).map (·.data.toList)) else none
theorem sE_map (l : List ByteArray) : encL sE (l.map (·.data.toList)) = l.map Value.string := by
  induction l with
  | nil => rfl
  | cons x l ih => simp only [List.map_cons, encL, List.flatMap_cons] at ih ⊢; rw [ih]; rfl
theorem flats_strings (l : List ByteArray) : flats (l.map Value.string) = true := by
  induction l with
  | nil => rfl
  | cons x l ih => simp [flats, flat, ih]
theorem f48_ok {H : Hp} {x0 x1 : List UInt8} {r : List (List UInt8)} (hp : f48 x0 x1 = some r) : SCall Tryd.prog 48 [.string (bs x0), .string (bs x1)] H (Ret fun v H' => Ext H H' ∧ R_52 r H.next H' v) := by
  unfold f48 at hp
  split at hp
  case isFalse => cases hp
  case isTrue h =>
    cases hp
    have hl := Lib.splitB_all (bs x1) h.2 0 _ (bs x0) rfl
    have hle := Lib.countB_le (bs x1) h.2 (bs x0).size (bs x0) (Nat.le_refl _)
    have hsz : (bs x0).size = x0.length := rfl
    have c : SCall Tryd.prog 48 [.string (bs x0), .string (bs x1)] H (Ret fun v H' => H' = H.alloc (.cells .fix ((Lib.splitB (bs x1) 0 (Lib.countB (bs x0) (bs x1)) (bs x0)).map Value.string)) ∧ v = .slice (some ⟨H.next, 0, none⟩) (Lib.countB (bs x0) (bs x1) + 1) (Lib.countB (bs x0) (bs x1) + 1)) :=
      SCall.ofRow (t := 9) (by have := h.1; unfold LOOSE; omega) (fun w hL => by
        obtain ⟨m, hm⟩ := maxLen hL
        exact Tryd.strings_Split (bs x0) (bs x1) m w h.1 hm h.2) rfl (flats_strings _) H
    refine c.mono fun e H' ⟨v, h1, h2, h3⟩ => ⟨v, h1, by subst h2; exact (Ext.refl _).alloc _, ?_⟩
    subst h2
    refine ⟨some ⟨H.next, 0, none⟩, _, by rw [h3, List.length_map, hl], .inr ⟨H.next, 0, _, rfl, repL_flat.2 (sE_map _).symm, .inr ⟨Nat.le_refl _, by rw [Hp.next_alloc]; omega, .fix, _, by rw [Hp.get_alloc, if_pos rfl], by simp, by rw [List.drop_zero]; exact List.take_length⟩⟩⟩
/-- A contract of the kit's at arguments that hold addresses. -/
theorem SCall.ofRel {P : Program} {f : FuncId} {args : List Value} {v : Value} {H : Hp} (h : ∀ (X : Cx) (R : Ren) (w : World) (args' : List Value), Laid w w.heap.size → Rel X R H w → VRs R args args' → Calls P f ⟨args'⟩ w fun e w' => e = .returned v ∧ Below w.heap.size w w') (hv : flat v = true) :
    SCall P f args H (Ret fun v' H' => H' = H ∧ v' = v) := by
  refine ⟨.ret v, H, ⟨v, rfl, rfl, rfl⟩, fun X R w args' hG hR hargs cs => ?_⟩
  obtain ⟨e, w', fr, ⟨rfl, hb⟩, hc, hf, hl⟩ := h X R w args' (hG.now hR) hR hargs cs
  exact ⟨R, w', .ret v, fr, Ren.le_refl R, hR.later hb, .ret (flat_refl hv), hf, hc, hl⟩
theorem encL_str (l : List (List UInt8)) : encL sE l = l.map fun x => Value.string (bs x) := by
  induction l with
  | nil => rfl
  | cons z l ih => simp only [encL, List.flatMap_cons, List.map_cons] at ih ⊢; rw [ih]; rfl
def f43 (x0 : List (List UInt8)) (x1 : List UInt8) : Option (List UInt8) := if x0.length ≤ 140737488355328 ∧ (Lib.join x0 x1).length ≤ 140737488355328 then some (Lib.join x0 x1) else none
theorem f43_ok {H : Hp} {a_x0 : Option Addr} {c_x0 : Nat} {x0 : List (List UInt8)} {x1 r : List UInt8} (g_x0 : SlF 0 H strC a_x0 c_x0 x0) (hp : f43 x0 x1 = some r) : SCall Tryd.prog 43 [.slice a_x0 x0.length c_x0, .string (bs x1)] H (Ret fun v H' => Ext H H' ∧ R_9 r H.next H' v) := by
  unfold f43 at hp
  split at hp
  case isFalse => cases hp
  case isTrue hh =>
    cases hp
    refine SCall.flatR (v := .string (bs (Lib.join x0 x1))) (SCall.ofRel (fun X R w args' hL hR hargs => ?_) rfl) (fun _ _ => rfl)
    have none_ : x0 = [] → ∀ a c, Calls Tryd.prog 43 #[.slice a 0 c, .string (bs x1)] w fun e w' => e = .returned (.string (bs (Lib.join x0 x1))) ∧ Below w.heap.size w w' := by
      intro h a c
      subst h
      exact (Tryd.strings_Join_none a c (bs x1) w).mono fun e w' ⟨h1, h2⟩ => ⟨h1, h2 ▸ Below.refl _ _⟩
    cases hargs with
    | cons h1 h2 =>
      cases h2 with
      | cons h2 h3 =>
        cases h2; cases h3
        rcases g_x0 with ⟨rfl, rfl, rfl⟩ | ⟨b, o, cs, rfl, g1, g2⟩
        · cases h1
          exact none_ rfl none 0
        · have hnil : x0 = [] → x0.length = 0 := by rintro rfl; rfl
          generalize hn : x0.length = n at h1
          cases h1 with
          | empty a a' cap' => exact none_ (List.length_eq_zero_iff.1 hn) _ _
          | @slice _ a' len cap cap' ha hc =>
            rcases g2 with g2 | g2
            · subst g2; simp only [List.length_nil] at hn; subst hn; exact none_ rfl _ _
            · obtain ⟨_, _, m, all, k1, k2, k3⟩ := g2
              have hx : ∀ (j : Nat) x, (x0.map fun l => bs l)[j]? = some x → w.cell? ⟨a'.block, a'.off + j, none⟩ = some (.string x) := by
                intro j x hj
                rw [List.getElem?_map] at hj
                obtain ⟨y, hy, rfl⟩ := Option.map_eq_some_iff.1 hj
                have g1 : cs = encL sE x0 := (repL_flat (enc := sE) (sz := 1) (he := fun _ => rfl)).1 g1
                subst g1
                have hcj : (encL sE x0)[j]? = some (.string (bs y)) := by
                  rw [show encL sE x0 = x0.map fun l => Value.string (bs l) from by
                    exact encL_str x0]
                  rw [List.getElem?_map, hy]; rfl
                have hall : all[o + j]? = some (.string (bs y)) := by
                  have hl := lt_of_get hcj
                  rw [← k3, List.getElem?_take_of_lt hl, List.getElem?_drop] at hcj
                  exact hcj
                obtain ⟨v', hv, hr⟩ := hR.cell ha k1 hall
                cases hr
                obtain ⟨sp, sp', i, e0, e1, e2⟩ := ha
                rw [← hv]
                congr 1
                obtain ⟨b1, o1, s1⟩ := a'
                simp only at sp'
                subst sp'
                unfold Addr.add
                split
                · rename_i h0; subst h0; simp
                · rfl
              have hlen : cap' ≥ n := by
                rcases hc with ⟨_, rfl, h⟩ | ⟨_, h, _⟩
                · exact h
                · exact h
              have hb : a'.block < w.heap.size := by
                obtain ⟨i, r1, br⟩ := hR.blk _ _ k1
                obtain ⟨sp, sp', j, r', e1, e2⟩ := ha
                simp only at r'
                rw [r1] at r'; cases r'
                rw [e1]
                rcases RI_own_of_BR br with ⟨q, _⟩ | ⟨_, q, _⟩
                · exact hR.lt b i r1 q
                · exact Nat.lt_of_lt_of_le q hR.size
              have hm : (x0.map fun l => bs l).map (·.data.toList) = x0 := by
                rw [List.map_map]
                exact (List.map_congr_left fun _ _ => rfl).trans (List.map_id _)
              have := Tryd.strings_Join a'.block a'.off cap' (x0.map fun l => bs l) (bs x1) w hx hb (by rw [List.length_map]; exact hh.1) (by rw [List.length_map, hn]; exact hlen) (by rw [hm]; exact hh.2)
              rw [hm, List.length_map, hn] at this
              have ea : (⟨a'.block, a'.off, none⟩ : Addr) = a' := by
                obtain ⟨b1, o1, s1⟩ := a'
                have := ha.spot'
                simp only at this
                subst this; rfl
              rw [ea] at this
              exact this
end Go.Proofs.YtcephcgnfmcdhaaDoor
