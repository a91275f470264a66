import Derived.Test.YtiodokcfjgmpaaaGreatDoorD62
set_option linter.unusedSimpArgs false
set_option linter.unusedVariables false
namespace Go.Det
open Go Go.RowKit
section
variable {α : Type} {c : Cod α} {n : Nat} {H : Hp} {P : Program}
def subL (l : List α) (lo hi : Int) : Option (List α) := if 0 ≤ lo ∧ lo ≤ hi ∧ hi ≤ (l.length : Int) then some ((l.drop lo.toNat).take (hi.toNat - lo.toNat)) else none
theorem subL_some {l r : List α} {lo hi : Int} (h : subL l lo hi = some r) : 0 ≤ lo ∧ lo ≤ hi ∧ hi ≤ (l.length : Int) ∧ r = (l.drop lo.toNat).take (hi.toNat - lo.toNat) := by
  unfold subL at h
  split at h
  · rename_i q; cases h; exact ⟨q.1, q.2.1, q.2.2, rfl⟩
  · cases h
theorem RepL.part : ∀ {l : List α} {cs : List Value}, RepL c n H cs l → ∀ (lo k : Nat), lo + k ≤ l.length → ∃ p cs' q, cs = p ++ cs' ++ q ∧ p.length = lo * c.sz ∧ RepL c n H cs' ((l.drop lo).take k)
  | l, cs, h, 0, 0, _ => ⟨[], [], cs, by simp, by simp, by simp [RepL]⟩
  | [], cs, h, 0, k + 1, hk => by simp at hk
  | x :: l, cs, ⟨c1, c2, e, h1, h2⟩, 0, k + 1, hk => by
    obtain ⟨p, cs', q, e2, g1, g2⟩ := RepL.part h2 0 k (by simp at hk; omega)
    have : p = [] := List.length_eq_zero_iff.1 (by rw [g1]; omega)
    subst this
    refine ⟨[], c1 ++ cs', q, by rw [e, e2]; simp, by simp, ?_⟩
    simp only [List.drop_zero, List.take_succ_cons]
    exact ⟨c1, cs', rfl, h1, by simpa using g2⟩
  | [], cs, h, lo + 1, k, hk => by simp at hk
  | x :: l, cs, ⟨c1, c2, e, h1, h2⟩, lo + 1, k, hk => by
    obtain ⟨p, cs', q, e2, g1, g2⟩ := RepL.part h2 lo k (by simp at hk; omega)
    refine ⟨c1 ++ p, cs', q, by rw [e, e2]; simp, by rw [List.length_append, c.len h1, g1, Nat.succ_mul]; omega, ?_⟩
    simpa using g2
def BdE (v : Option Value) (i d : Int) : Prop := (∃ k, v = some (.int k i)) ∨ (v = none ∧ i = d)
theorem BdE.s {k : IntKind} {i d : Int} : BdE (some (.int k i)) i d := .inl ⟨k, rfl⟩
theorem BdE.z {d : Int} : BdE none d d := .inr ⟨rfl, rfl⟩
theorem BdE.opt {v : Option Value} {i d : Int} {y : Nat} {dn : Nat} (h : BdE v i d) (hd : d = (dn : Int)) (h0 : 0 ≤ i) (h1 : i ≤ y) : optB v y dn = some i.toNat := by
  rcases h with ⟨k, rfl⟩ | ⟨rfl, rfl⟩
  · simp only [optB, boundD]; rw [if_pos ⟨h0, h1⟩]
  · simp only [optB]; rw [hd, Int.toNat_natCast]
theorem SlF.part {a : Option Addr} {cap : Nat} {l r : List α} {lo hi : Int} {t e : TypeId} (h : SlF n H c a cap l) (hr : subL l lo hi = some r) (ht : P.underlying t = some (.slice e)) (hs : sizeD P e = some c.sz) :
    ∃ a' cap', (∀ H', Abv n H H' → ∀ lo' hi', BdE lo' lo 0 → BdE hi' hi (l.length : Int) → sliceD P H' t (.slice a l.length cap) lo' hi' none = some (.slice a' r.length cap')) ∧ SlF n H c a' cap' r := by
  obtain ⟨g1, g2, g3, rfl⟩ := subL_some hr
  have hlen : ((l.drop lo.toNat).take (hi.toNat - lo.toNat)).length = hi.toNat - lo.toNat := by
    rw [List.length_take, List.length_drop]; omega
  rcases h with ⟨rfl, rfl, rfl⟩ | ⟨b, o, cs, rfl, k1, k2, k3⟩
  · have hz : hi = 0 ∧ lo = 0 := by simp at g3; omega
    obtain ⟨rfl, rfl⟩ := hz
    refine ⟨none, 0, fun H' _ lo' hi' h1 h2 => ?_, .inl ⟨rfl, rfl, by simp⟩⟩
    have e1 := h1.opt (y := 0) (dn := 0) rfl (by omega) (by omega)
    have e2 := h2.opt (y := 0) (dn := 0) (by simp) (by omega) (by omega)
    simp only [sliceD, ht, List.length_nil, e1, e2, hs, List.drop_nil, List.take_nil]
  · obtain ⟨p, cs', q, e2, q1, q2⟩ := k1.part lo.toNat (hi.toNat - lo.toNat) (by omega)
    have hat : (l.drop lo.toNat).take (hi.toNat - lo.toNat) = [] ∨ At n H b (o + lo.toNat * c.sz) cs' := by
      rcases k2 with rfl | k2
      · left; simp
      · right
        subst e2
        rw [← q1]
        exact k2.part
    rcases k3 with ⟨c1, c2⟩ | ⟨rfl, c1, c2, m, all, c3, c4⟩ | ⟨rfl, c1⟩
    · -- of the given capacity
      refine ⟨some (if cap = lo.toNat then ⟨b, o, none⟩ else ⟨b, o + lo.toNat * c.sz, none⟩), cap - lo.toNat, fun H' _ lo' hi' h1 h2 => ?_, ?_⟩
      · have e1 := h1.opt (y := hi.toNat) (dn := 0) rfl g1 (by omega)
        have e2 := h2.opt (y := cap) (dn := l.length) rfl (by omega) (by omega)
        simp only [sliceD, ht, hs, if_neg (Nat.not_le.2 c2), e1, e2]
        rw [if_neg (by omega), if_neg (by omega), if_pos c1, hlen]
      · by_cases hcap : cap = lo.toNat
        · rw [if_pos hcap]
          have h0 : hi.toNat - lo.toNat = 0 := by omega
          refine .inr ⟨b, o, cs', rfl, q2, .inl ?_, .inl ⟨by rw [hlen]; omega, by omega⟩⟩
          rw [h0, List.take_zero]
        · rw [if_neg hcap]
          exact .inr ⟨b, _, cs', rfl, q2, hat, .inl ⟨by rw [hlen]; omega, by omega⟩⟩
    · -- of any capacity
      by_cases hl0 : lo.toNat = 0
      · refine ⟨some ⟨b, o, none⟩, LOOSE, fun H' _ lo' hi' h1 h2 => ?_, ?_⟩
        · have e1 := h1.opt (y := hi.toNat) (dn := 0) rfl g1 (by omega)
          have e2 := h2.opt (y := l.length) (dn := l.length) rfl (by omega) (by omega)
          simp only [sliceD, ht, hs, Nat.le_refl, if_true, e1, e2]
          rw [if_pos hl0, hlen, hl0, Nat.sub_zero]
        · rw [hl0, Nat.zero_mul, Nat.add_zero] at hat
          rw [hl0] at q2 ⊢
          exact .inr ⟨b, o, cs', rfl, q2, hat, .inr (.inl ⟨rfl, c1, c2, m, all, c3, c4⟩)⟩
      · by_cases hl1 : lo.toNat < l.length
        · refine ⟨some ⟨b, o + lo.toNat * c.sz, none⟩, LOOSE, fun H' ha lo' hi' h1 h2 => ?_, .inr ⟨b, _, cs', rfl, q2, hat, .inr (.inl ⟨rfl, c1, c2, m, all, c3, c4⟩)⟩⟩
          have e1 := h1.opt (y := hi.toNat) (dn := 0) rfl g1 (by omega)
          have e2 := h2.opt (y := l.length) (dn := l.length) rfl (by omega) (by omega)
          have hsz : szOk H' b c.sz = true := by
            unfold szOk
            rw [ha.same b _ _ c1 c2 c3]
            rcases c4 with rfl | ⟨mt, rfl⟩ <;> simp
          simp only [sliceD, ht, hs, Nat.le_refl, if_true, e1, e2]
          rw [if_neg hl0, if_pos ⟨hsz, hl1⟩, hlen]
        · have hle : lo.toNat = l.length := by omega
          refine ⟨some ⟨b, o + lo.toNat * c.sz, none⟩, EMPTY, fun H' ha lo' hi' h1 h2 => ?_, ?_⟩
          · have e1 := h1.opt (y := hi.toNat) (dn := 0) rfl g1 (by omega)
            have e2 := h2.opt (y := l.length) (dn := l.length) rfl (by omega) (by omega)
            simp only [sliceD, ht, hs, Nat.le_refl, if_true, e1, e2]
            rw [if_neg hl0, if_neg (fun q => hl1 q.2), if_pos hle, hlen, show hi.toNat - lo.toNat = 0 by omega]
          · exact .inr ⟨b, _, cs', rfl, q2, .inl (List.length_eq_zero_iff.1 (by rw [hlen]; omega)), .inr (.inr ⟨rfl, by rw [hlen]; omega⟩)⟩
    · -- without elements
      have hl : l = [] := List.length_eq_zero_iff.1 c1
      subst hl
      have hz : hi = 0 ∧ lo = 0 := by simp at g3; omega
      obtain ⟨rfl, rfl⟩ := hz
      refine ⟨some ⟨b, o, none⟩, EMPTY, fun H' _ lo' hi' h1 h2 => ?_, .inr ⟨b, o, [], rfl, by simp [RepL], .inl (by simp), .inr (.inr ⟨rfl, by simp⟩)⟩⟩
      have e1 : optB lo' 0 0 = some 0 := h1.opt (y := 0) (dn := 0) rfl (by omega) (by omega)
      have e2 : optB hi' 0 0 = some 0 := h2.opt (y := 0) (dn := 0) (by simp) (by omega) (by omega)
      simp only [sliceD, ht, hs, show LOOSE ≤ EMPTY by decide, if_true, List.length_nil, show ¬ EMPTY = LOOSE by decide, show LOOSE < EMPTY by decide, if_false, e1, e2]
      simp
theorem SlF.lt {a : Option Addr} {cap : Nat} {l : List α} (h : SlF n H c a cap l) : ∀ b, slBlk (some (.slice a l.length cap)) = some b → b < H.next := by
  intro b hb
  rcases h with ⟨rfl, rfl, rfl⟩ | ⟨b', o, cs, rfl, _, _, h3⟩
  · have : slBlk (some (.slice none 0 0)) = none := rfl
    simp only [List.length_nil] at hb
    rw [this] at hb; cases hb
  · have hc : cap = LOOSE := by
      by_cases q : cap = LOOSE
      · exact q
      · have : slBlk (some (.slice (some ⟨b', o, none⟩) l.length cap)) = none := by
          have hf : Nat.beq cap LOOSE = false := by
            cases hq : Nat.beq cap LOOSE
            · rfl
            · exact absurd (Nat.eq_of_beq_eq_true hq) q
          simp only [slBlk, noRd, hf, Bool.not_false]
        rw [this] at hb; cases hb
    subst hc
    have : slBlk (some (.slice (some ⟨b', o, none⟩) l.length LOOSE)) = some b' := rfl
    rw [this] at hb; cases hb
    rcases h3 with ⟨_, g⟩ | ⟨_, _, g, _⟩ | ⟨g, _⟩
    · exact absurd g (Nat.lt_irrefl _)
    · exact g
    · exact absurd g (by decide)
end
section
variable {P : Program} {n : NN} {B0 B D : Hp} {kD : Nat} {own : List OwnE} {a : Array Oper} {fl : Bool}
end
end Go.Det

set_option linter.unusedSimpArgs false
set_option linter.unusedVariables false
namespace Go.Det
open Go Go.RowKit
section
variable {P : Program} {Q : Ex → SS → Prop} {n : NN} {B0 B D : Hp} {kD : Nat} {own : List OwnE} {k k' : KK} {x x' x'' : VS} {a : Array Oper} {fl : Bool} {m i : Nat} {loc : List (List Value)} {α : Type} {enc : α → List Value}
end
end Go.Det
