import Derived.Test.YtgmejigjajcbfaaGreatDoorSL
import Derived.Laws.RangeString
set_option linter.unusedVariables false
set_option linter.unusedSimpArgs false
namespace Go.Proofs.YtgmejigjajcbfaaGreatDoor
open Go Go.Det Go.RowKit
theorem w64 {x : Int} (h1 : -9223372036854775808 ≤ x) (h2 : x ≤ 9223372036854775807) : IntKind.i64.wrap x = x := by rw [IntKind.wrap_i64]; omega
/-! The runes of a text -/
theorem dec_asc {s : List UInt8} {p : Nat} {b : UInt8} (h : s[p]? = some b) (hb : b.toNat < 128) : decL s p = (b.toNat : Int) ∧ decN s p = 1 := by
  obtain ⟨hl, e⟩ := List.getElem?_eq_some_iff.1 h
  have h1 : p < (bs s).size := by show p < s.toArray.size; simpa using hl
  have h2 : (bs s)[p]'h1 = b := by rw [← e]; show s.toArray[p]'(by simpa using hl) = _; simp
  have h3 := decode_ascii (bs s) p h1 (by rw [h2]; exact hb)
  unfold decL decN
  rw [h3, h2]
  exact ⟨rfl, rfl⟩
theorem dec_big {s : List UInt8} {p : Nat} {b : UInt8} (h : s[p]? = some b) (hb : 128 ≤ b.toNat) : 128 ≤ decL s p := by
  obtain ⟨hl, e⟩ := List.getElem?_eq_some_iff.1 h
  have hg : ((bs s).get! (p + 0)).toNat = b.toNat := by
    rw [Nat.add_zero]
    have : (bs s).get! p = b := by
      rw [← e]
      show s.toArray[p]! = _
      rw [getElem!_pos s.toArray p (by simpa using hl)]
      simp
    rw [this]
  unfold decL Utf8.decode
  simp only [hg, Utf8.runeError]
  repeat' split
  all_goals first
    | omega
    | (simp_all; done)
    | (rename_i q; simp only [Bool.and_eq_true, decide_eq_true_eq, ge_iff_le] at q; simp only; omega)
/-! Names -/
def letB (r : Int) : Bool := decide (97 ≤ r ∧ r ≤ 122 ∨ 65 ≤ r ∧ r ≤ 90)
def goodB (r : Int) : Bool := letB r || decide (r = 45 ∨ 48 ≤ r ∧ r ≤ 57)
theorem f42_eq (r : Int) : f42 r = some (letB r) := by
  unfold f42 letB
  simp only [Option.bind_some, ge_iff_le]
  split
  · split
    · simp; omega
    · split
      · congr 1; rw [decide_eq_decide]; omega
      · simp; omega
  · split
    · congr 1; rw [decide_eq_decide]; omega
    · simp; omega
theorem f43_eq (r : Int) : f43 r = some (letB r) := f42_eq r
theorem f44_eq (r : Int) : f44 r = some (decide (48 ≤ r ∧ r ≤ 57)) := by
  unfold f44
  simp only [Option.bind_some, ge_iff_le]
  split
  · congr 1; rw [decide_eq_decide]; omega
  · simp; omega
def allG (s : List UInt8) : Bool := s.all fun b => goodB (b.toNat : Int)
theorem drop_cons {s : List UInt8} {p : Nat} {b : UInt8} (h : s[p]? = some b) : s.drop p = b :: s.drop (p + 1) := by
  obtain ⟨hl, e⟩ := List.getElem?_eq_some_iff.1 h
  rw [List.drop_eq_getElem_cons hl, e]
theorem f16_loop (s : List UInt8) : ∀ (n p : Nat), p ≤ s.length → s.length < n + p →
    f16_l1 s n p = some (if allG (s.drop p) = true ∧ (p = 0 → ∀ b, s[0]? = some b → letB (b.toNat : Int) = true) then .inr () else .inl false)
  | 0, p, h1, h2 => by omega
  | n + 1, p, h1, h2 => by
    rw [f16_l1]
    by_cases hp : p < s.length
    · rw [if_pos hp]
      obtain ⟨b, hb⟩ : ∃ b, s[p]? = some b := ⟨s[p], List.getElem?_eq_getElem hp⟩
      have hd := drop_cons hb
      have hall : allG (s.drop p) = (goodB (b.toNat : Int) && allG (s.drop (p + 1))) := by rw [hd]; rfl
      have hb256 : b.toNat < 256 := UInt8.toNat_lt b
      simp only [f42_eq, Option.bind_some]
      by_cases h7 : b.toNat < 128
      · obtain ⟨e1, e2⟩ := dec_asc hb h7
        rw [e1, e2, f16_loop s n (p + 1) (by omega) (by omega), hall]
        by_cases hL : letB (b.toNat : Int) = true
        · rw [if_pos hL]
          have hg : goodB (b.toNat : Int) = true := by unfold goodB; rw [hL]; rfl
          have h0 : (p = 0 → ∀ b, s[0]? = some b → letB (b.toNat : Int) = true) := by
            rintro rfl c hc; rw [hb] at hc; cases hc; exact hL
          simp [hg, h0]
          congr 1
          simp [h0]
          intro q; exact h0
        · rw [if_neg hL]
          by_cases hp0 : p = 0
          · subst hp0
            rw [if_pos (by simp)]
            rw [if_neg]
            rintro ⟨_, k⟩
            exact hL (k rfl b hb)
          · rw [if_neg (by omega)]
            have hgd : goodB (b.toNat : Int) = decide ((b.toNat : Int) = 45 ∨ 48 ≤ (b.toNat : Int) ∧ (b.toNat : Int) ≤ 57) := by
              unfold goodB; rw [Bool.not_eq_true] at hL; rw [hL]; rfl
            rw [hgd]
            by_cases h45 : (b.toNat : Int) = 45
            · simp [h45, hp0]
            · rw [if_neg h45]
              by_cases h48 : (b.toNat : Int) < 48
              · rw [if_pos h48, if_neg]
                rintro ⟨k, _⟩
                simp only [Bool.and_eq_true, decide_eq_true_eq] at k
                omega
              · rw [if_neg h48]
                by_cases h57 : (b.toNat : Int) > 57
                · rw [if_pos h57, if_neg]
                  rintro ⟨k, _⟩
                  simp only [Bool.and_eq_true, decide_eq_true_eq] at k
                  omega
                · rw [if_neg h57]
                  have : decide ((b.toNat : Int) = 45 ∨ 48 ≤ (b.toNat : Int) ∧ (b.toNat : Int) ≤ 57) = true := by
                    rw [decide_eq_true_eq]; omega
                  rw [this]
                  simp [hp0]
      · have e1 := dec_big hb (by omega)
        have hL : letB (decL s p) = false := by unfold letB; rw [decide_eq_false_iff_not]; omega
        have hgd : goodB (b.toNat : Int) = false := by
          unfold goodB letB
          rw [Bool.or_eq_false_iff, decide_eq_false_iff_not, decide_eq_false_iff_not]
          omega
        rw [hL, hall, hgd]
        simp only [Bool.false_eq_true, if_false, Bool.false_and, false_and]
        split
        · rfl
        · rw [if_neg (by omega), if_neg (by omega), if_pos (by omega)]
    · rw [if_neg hp]
      have : s.drop p = [] := List.drop_eq_nil_of_le (by omega)
      rw [this, if_pos]
      refine ⟨rfl, ?_⟩
      rintro rfl b hb
      have : s = [] := List.length_eq_zero_iff.1 (by omega)
      subst this
      simp at hb
theorem f17_loop (s : List UInt8) (hs : s.length ≤ 1000) : ∀ (n p : Nat), p ≤ s.length → s.length < n + p →
    f17_l1 s n (p : Int) = some (if allG (s.drop p) = true then .inr () else .inl false)
  | 0, p, h1, h2 => by omega
  | n + 1, p, h1, h2 => by
    rw [f17_l1]
    by_cases hp : p < s.length
    · rw [if_pos (by omega)]
      obtain ⟨b, hb⟩ : ∃ b, s[p]? = some b := ⟨s[p], List.getElem?_eq_getElem hp⟩
      have hd := drop_cons hb
      have hall : allG (s.drop p) = (goodB (b.toNat : Int) && allG (s.drop (p + 1))) := by rw [hd]; rfl
      have hw : IntKind.i64.wrap ((p : Int) + 1) = ((p + 1 : Nat) : Int) := by rw [w64 (by omega) (by omega)]; omega
      simp only [rd_nat, hb, Option.bind_some, f43_eq, f44_eq, hw, f17_loop s hs n (p + 1) (by omega) (by omega), hall]
      unfold goodB
      by_cases hL : letB (b.toNat : Int) = true
      · simp [hL]
      · rw [if_neg hL]
        rw [Bool.not_eq_true] at hL
        rw [hL]
        by_cases h1 : 48 ≤ (b.toNat : Int) ∧ (b.toNat : Int) ≤ 57
        · simp [h1]
        · by_cases h2 : (b.toNat : Int) = 45
          · simp [h2]
          · rw [if_neg (by simpa using h1), if_neg h2, if_neg]
            simp only [Bool.false_or, Bool.and_eq_true, decide_eq_true_eq]
            rintro ⟨q, _⟩
            omega
    · rw [if_neg (by omega)]
      have : s.drop p = [] := List.drop_eq_nil_of_le (by omega)
      rw [this]; rfl
def nameB (s : List UInt8) : Bool := decide (s ≠ [] ∧ s.length ≤ 16) && allG s && (match s with | [] => false | b :: _ => letB (b.toNat : Int))
theorem f16_eq {s : List UInt8} {k : Nat} (hs : s.length ≤ 300) (hk : 1000 ≤ k) : f16 k s = some (nameB s) := by
  unfold f16
  rw [f16_loop s k 0 (by omega) (by omega), Option.bind_some, List.drop_zero]
  unfold nameB
  cases s with
  | nil => simp [allG]
  | cons b r =>
    by_cases h1 : allG (b :: r) = true
    · by_cases h2 : letB (b.toNat : Int) = true
      · rw [if_pos ⟨h1, fun _ c hc => by simp at hc; subst hc; exact h2⟩]
        simp only [h1, h2, Option.bind_some, reduceCtorEq, if_false]
        simp; omega
      · rw [if_neg (fun q => h2 (q.2 rfl b rfl))]
        rw [Bool.not_eq_true] at h2
        simp [h2]
    · rw [if_neg (fun q => h1 q.1)]
      rw [Bool.not_eq_true] at h1
      simp [h1]
theorem f17_eq {s : List UInt8} {k : Nat} (hs : s.length ≤ 300) (hk : 1000 ≤ k) : f17 k s = some (nameB s) := by
  unfold f17 nameB
  cases s with
  | nil => simp
  | cons b r =>
    rw [if_neg (by simp; omega)]
    by_cases h16 : (((b :: r).length : Nat) : Int) > 16
    · rw [if_pos h16]
      have : ¬ (b :: r).length ≤ 16 := by omega
      simp [this]
      intro q; simp at h16; omega
    · rw [if_neg h16]
      have hl : (b :: r).length ≤ 16 := by omega
      have h0 : rd (b :: r) 0 = some b := rfl
      have hloop := f17_loop (b :: r) (by omega) k 0 (by omega) (by omega)
      rw [show ((0 : Nat) : Int) = 0 from rfl, List.drop_zero] at hloop
      simp only [h0, Option.bind_some, f43_eq, hloop]
      have hd : decide (b :: r ≠ [] ∧ (b :: r).length ≤ 16) = true := by rw [decide_eq_true_eq]; exact ⟨by simp, hl⟩
      rw [hd]
      cases letB (b.toNat : Int) <;> cases allG (b :: r) <;> rfl
/-! Words -/
theorem f22_eq {w : RowWord} {k : Nat} (hs : w.Name.length ≤ 300) (hk : 1000 ≤ k) : ∃ e, f22 k w = some e ∧ f23 k w = some e := by
  unfold f22 f23
  rw [f16_eq hs hk, f17_eq hs hk]
  simp only [Option.bind_some, ge_iff_le]
  by_cases h1 : w.Kind = 1
  · rw [h1]
    cases nameB w.Name <;> by_cases hn : w.N = 0 <;> simp [hn]
  · by_cases h2 : w.Kind = 2
    · rw [h2]
      by_cases hm : w.Name = []
      · by_cases h3 : w.N < -1099511627776
        · have : ¬ -1099511627776 ≤ w.N := by omega
          simp [hm, h3, this]
        · by_cases h4 : 1099511627776 < w.N
          · have h5 : -1099511627776 ≤ w.N := by omega
            have h6 : ¬ w.N ≤ 1099511627776 := by omega
            simp [hm, h3, h4, h5, h6]
          · have h5 : -1099511627776 ≤ w.N := by omega
            have h6 : w.N ≤ 1099511627776 := by omega
            simp [hm, h3, h4, h5, h6]
      · simp [hm]
    · by_cases h3 : w.Kind = 3
      · rw [h3]
        by_cases hn : w.N = 0 <;> simp [hn]
      · by_cases h4 : w.Kind < 1
        · simp [h1, h2, h3, h4]
        · have h5 : w.Kind > 3 := by omega
          simp [h1, h2, h3, h4, h5]
theorem RowWord.eta (w : RowWord) : RowWord.mk w.At w.Kind w.Name w.N = w := rfl
theorem f18_eq {w : RowWord} {x y : Int} {k : Nat} (hs : w.Name.length ≤ 300) (hk : 1000 ≤ k) : ∃ a b, f18 k w x y = some (a, b) ∧ f19 k w x y = some (a, b) := by
  obtain ⟨e, h1, h2⟩ := f22_eq hs hk
  unfold f18 f19
  rw [RowWord.eta, h1, h2]
  simp only [Option.bind_some]
  repeat' split
  all_goals exact ⟨_, _, rfl, rfl⟩
theorem loops {name : List UInt8} {l : List (List UInt8)} (hl : l.length ≤ 10) : ∀ (n i : Nat), i ≤ l.length → l.length < n + i →
    (∃ j : Nat, f45_l1 name l n (i : Int) = some (.inr (j : Int)) ∧ f21_l1 l name n (i : Int) = some (.inl ((j : Int), 0))) ∨ (f45_l1 name l n (i : Int) = some (.inl ()) ∧ f21_l1 l name n (i : Int) = some (.inr ()))
  | 0, i, h1, h2 => by omega
  | n + 1, i, h1, h2 => by
    rw [f45_l1, f21_l1]
    by_cases hi : i < l.length
    · obtain ⟨q, hq⟩ : ∃ q, l[i]? = some q := ⟨l[i], List.getElem?_eq_getElem hi⟩
      have hd : decide ((i : Int) < (l.length : Int)) = true := by rw [decide_eq_true_eq]; omega
      have hw : IntKind.i64.wrap ((i : Int) + 1) = ((i + 1 : Nat) : Int) := by rw [w64 (by omega) (by omega)]; omega
      rw [if_pos (by omega : (i : Int) < (l.length : Int))]
      simp only [Option.bind_some, hd, if_true, rd_nat, hq, hw]
      by_cases he : q = name
      · rw [if_pos he, if_pos he]
        exact .inl ⟨i, rfl, rfl⟩
      · rw [if_neg he, if_neg he]
        exact loops hl n (i + 1) (by omega) (by omega)
    · have hd : decide ((i : Int) < (l.length : Int)) = false := by rw [decide_eq_false_iff_not]; omega
      rw [if_neg (by omega : ¬ (i : Int) < (l.length : Int))]
      simp only [Option.bind_some, hd]
      right; constructor <;> simp
theorem f20_eq {w : RowWord} {l : List (List UInt8)} {k : Nat} (hs : w.Name.length ≤ 300) (hl : l.length ≤ 10) (hk : 1000 ≤ k) : ∃ a b, f20 k w l = some (a, b) ∧ f21 k w l = some (a, b) := by
  obtain ⟨e, h1, h2⟩ := f22_eq hs hk
  have h0 := loops (name := w.Name) hl k 0 (by omega) (by omega)
  rw [show ((0 : Nat) : Int) = 0 from rfl] at h0
  unfold f20 f21 f45
  rw [RowWord.eta, h1, h2]
  simp only [Option.bind_some]
  split
  · split
    · rcases h0 with ⟨j, g1, g2⟩ | ⟨g1, g2⟩
      · rw [g1, g2]
        simp only [Option.bind_some]
        rw [if_neg (by omega)]
        exact ⟨_, _, rfl, rfl⟩
      · rw [g1, g2]
        exact ⟨_, _, rfl, rfl⟩
    · exact ⟨_, _, rfl, rfl⟩
  · exact ⟨_, _, rfl, rfl⟩
theorem pure5 : Pure5 := by
  intro x0 x1 x2 x3 _ _ _ _
  refine ⟨1000, ?_⟩
  unfold f5 f8
  by_cases h1 : (x0.Name.length : Int) > 300
  · rw [if_pos h1]; rfl
  · rw [if_neg h1]
    by_cases h2 : (x3.length : Int) > 10
    · rw [if_pos h2]; rfl
    · rw [if_neg h2, RowWord.eta]
      obtain ⟨a, b, e1, e2⟩ := f18_eq (w := x0) (x := x1) (y := x2) (k := 1000) (by omega) (Nat.le_refl _)
      obtain ⟨c, d, e3, e4⟩ := f20_eq (w := x0) (l := x3) (k := 1000) (by omega) (by omega) (Nat.le_refl _)
      obtain ⟨e, e5, e6⟩ := f22_eq (w := x0) (k := 1000) (by omega) (Nat.le_refl _)
      have e7 : apd 16 ([] : List (List UInt8)) x3 = some x3 := by
        unfold apd
        rw [if_pos (by simp; omega)]; rfl
      simp only [e1, e2, e3, e4, e5, e6, e7, Option.bind_some, if_true]
end Go.Proofs.YtgmejigjajcbfaaGreatDoor
