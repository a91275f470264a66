import Derived.Test.YtenddpplfdgcfaaDoorSL
import Derived.Laws.RangeAny
set_option linter.unusedVariables false
set_option linter.unusedSimpArgs false
namespace Go.Proofs.YtenddpplfdgcfaaDoor
open Go Go.Det Go.RowKit
theorem w64 {x : Int} (h1 : -9223372036854775808 ≤ x) (h2 : x ≤ 9223372036854775807) : IntKind.i64.wrap x = x := by rw [IntKind.wrap_i64]; omega
theorem okZ {x : Int} (h : okI .i64 x) : -9223372036854775808 ≤ x ∧ x ≤ 9223372036854775807 := by
  simp [okI, Lit.wf, IntKind.min, IntKind.max, IntKind.signed, IntKind.bits] at h
  omega
/-! All sights that can be shown -/
def sights : List Sight := ((List.range 21).map fun p => (⟨-1, (p : Nat), true⟩ : Sight)) ++ [⟨-1, 0, false⟩] ++ (List.range 64).flatMap fun f => (List.range 21).map fun p => (⟨(f : Nat), (p : Nat), false⟩ : Sight)
theorem canOf {x : Sight} (h : f22 x = some true) : x ∈ sights := by
  obtain ⟨f, p, o⟩ := x
  unfold f22 at h
  simp only at h
  split at h
  · cases h
  · split at h
    · cases h
    · rename_i h1 h2
      split at h
      · rename_i h3
        subst h3
        cases o
        · simp at h
          subst h
          simp [sights]
        · refine List.mem_append_left _ (List.mem_append_left _ (List.mem_map.2 ⟨p.toNat, by simp; omega, ?_⟩))
          simp; omega
      · split at h
        · split at h
          · cases o
            · refine List.mem_append_right _ (List.mem_flatMap.2 ⟨f.toNat, by simp; omega, List.mem_map.2 ⟨p.toNat, by simp; omega, ?_⟩⟩)
              simp; omega
            · simp at h
          · cases h
        · cases h
def tab (y : Sight) : Bool := match f23 1000 y with
  | some t => decide (f7 y = some (t, 0)) && decide (f9 1000 t = some (y, 0)) && decide (f22 y = some true)
  | none => false
theorem tabAll : sights.all tab = true := by kernel_rfl
theorem tabOf {y : Sight} (h : f22 y = some true) : ∃ t, f23 1000 y = some t ∧ f7 y = some (t, 0) ∧ f9 1000 t = some (y, 0) := by
  have := List.all_eq_true.1 tabAll y (canOf h)
  unfold tab at this
  split at this
  · rename_i t ht
    simp only [Bool.and_eq_true, decide_eq_true_eq] at this
    exact ⟨t, ht, this.1.1, this.1.2⟩
  · cases this
theorem f21_22 (x : Sight) : f21 x = f22 x := rfl
theorem f22_some (x : Sight) : ∃ b, f22 x = some b := by
  obtain ⟨f, p, o⟩ := x
  unfold f22
  simp only
  repeat' split
  all_goals exact ⟨_, rfl⟩
theorem f20_some {n : Int} (h1 : -9223372036854775808 ≤ n) (h2 : n ≤ 9223372036854775807) : f20 n = some (Lib.itoa n) := by unfold f20; rw [if_pos ⟨h1, h2⟩]
theorem f7_no {x : Sight} (h1 : -9223372036854775808 ≤ x.Panel) (h2 : x.Panel ≤ 9223372036854775807) (h : f22 x = some false) : f7 x = some ([], 2) := by
  unfold f7
  rw [f20_some h1 h2, Option.bind_some, f21_22, h]; rfl
theorem f7_8 {x : Sight} (h1 : -9223372036854775808 ≤ x.Panel) (h2 : x.Panel ≤ 9223372036854775807) : ∃ r, f7 x = some r ∧ f8 1000 x = some r := by
  obtain ⟨b, hb⟩ := f22_some x
  cases b with
  | false => exact ⟨_, f7_no h1 h2 hb, by unfold f8; rw [hb]; rfl⟩
  | true =>
    obtain ⟨t, h3, h4, -⟩ := tabOf hb
    exact ⟨_, h4, by unfold f8; rw [hb, Option.bind_some, if_pos rfl, h3]; rfl⟩
/-! The reference's search -/
def hit (s : List UInt8) (x : Sight) : Prop := f22 x = some true ∧ f23 1000 x = some s
theorem l3 (s : List UInt8) (f p : Int) : ∀ (d n i : Nat), i + d = 2 → d < n → (∃ x, hit s x ∧ f10_l3 1000 s f p n (i : Int) = some (.inl (x, 0))) ∨ (f10_l3 1000 s f p n (i : Int) = some (.inr ()) ∧ ∀ j, i ≤ j → j < 2 → ¬ hit s ⟨f, p, ((j : Nat) : Int) == 1⟩)
  | d, 0, i, hi, hd => by omega
  | 0, n + 1, i, hi, hd => by
    right
    rw [f10_l3, if_neg (by omega)]
    exact ⟨rfl, fun j h1 h2 => by omega⟩
  | d + 1, n + 1, i, hi, hd => by
    have e : IntKind.i64.wrap ((i : Int) + 1) = ((i + 1 : Nat) : Int) := by rw [w64 (by omega) (by omega)]; omega
    rw [f10_l3, if_pos (by omega), Option.bind_some, e]
    obtain ⟨b, hb⟩ := f22_some ⟨f, p, (i : Int) == 1⟩
    have ih := l3 s f p d n (i + 1) (by omega) (by omega)
    have go : ¬ hit s ⟨f, p, (i : Int) == 1⟩ → (∃ x, hit s x ∧ f10_l3 1000 s f p n ((i + 1 : Nat) : Int) = some (.inl (x, 0))) ∨ (f10_l3 1000 s f p n ((i + 1 : Nat) : Int) = some (.inr ()) ∧ ∀ j, i ≤ j → j < 2 → ¬ hit s ⟨f, p, ((j : Nat) : Int) == 1⟩) := fun hn => by
      rcases ih with h | ⟨h1, h2⟩
      · exact .inl h
      · refine .inr ⟨h1, fun j a b => ?_⟩
        by_cases q : j = i
        · subst q; exact hn
        · exact h2 j (by omega) b
    rw [hb, Option.bind_some]
    cases b with
    | false =>
      rw [if_neg (by decide)]
      exact go fun h => by rw [h.1] at hb; cases hb
    | true =>
      rw [if_pos rfl]
      obtain ⟨t, h3, -, -⟩ := tabOf hb
      rw [h3, Option.bind_some]
      by_cases q : t = s
      · rw [if_pos q]
        exact .inl ⟨_, ⟨hb, by rw [h3, q]⟩, rfl⟩
      · rw [if_neg q]
        exact go fun h => q (by have := h.2; rw [h3] at this; exact Option.some.inj this)
theorem l2 (s : List UInt8) (f : Int) : ∀ (d n i : Nat), i + d = 21 → d < n → (∃ x, hit s x ∧ f10_l2 1000 s f n (i : Int) = some (.inl (x, 0))) ∨ (f10_l2 1000 s f n (i : Int) = some (.inr ()) ∧ ∀ j, i ≤ j → j < 21 → ∀ o, ¬ hit s ⟨f, (j : Nat), o⟩)
  | d, 0, i, hi, hd => by omega
  | 0, n + 1, i, hi, hd => by
    right
    rw [f10_l2, if_neg (by omega)]
    exact ⟨rfl, fun j h1 h2 => by omega⟩
  | d + 1, n + 1, i, hi, hd => by
    have e : IntKind.i64.wrap ((i : Int) + 1) = ((i + 1 : Nat) : Int) := by rw [w64 (by omega) (by omega)]; omega
    rw [f10_l2, if_pos (by omega), e]
    rcases l3 s f (i : Int) 2 1000 0 rfl (by decide) with ⟨x, hx, h⟩ | ⟨h, hno⟩
    · rw [show f10_l3 1000 s f (i : Int) 1000 0 = _ from h]
      exact .inl ⟨x, hx, rfl⟩
    · rw [show f10_l3 1000 s f (i : Int) 1000 0 = _ from h]
      simp only [Option.bind_some]
      rcases l2 s f d n (i + 1) (by omega) (by omega) with h | ⟨h1, h2⟩
      · exact .inl h
      · refine .inr ⟨h1, fun j a b o => ?_⟩
        by_cases q : j = i
        · subst q
          cases o
          · exact hno 0 (by decide) (by decide)
          · exact hno 1 (by decide) (by decide)
        · exact h2 j (by omega) b o
theorem l1 (s : List UInt8) : ∀ (d n i : Nat), i + d = 65 → d < n → (∃ x, hit s x ∧ f10_l1 1000 s n ((i : Int) - 1) = some (.inl (x, 0))) ∨ (f10_l1 1000 s n ((i : Int) - 1) = some (.inr ()) ∧ ∀ j, i ≤ j → j < 65 → ∀ p : Nat, p < 21 → ∀ o, ¬ hit s ⟨(j : Int) - 1, p, o⟩)
  | d, 0, i, hi, hd => by omega
  | 0, n + 1, i, hi, hd => by
    right
    rw [f10_l1, if_neg (by omega)]
    exact ⟨rfl, fun j h1 h2 => by omega⟩
  | d + 1, n + 1, i, hi, hd => by
    have e : IntKind.i64.wrap ((i : Int) - 1 + 1) = ((i + 1 : Nat) : Int) - 1 := by rw [w64 (by omega) (by omega)]; omega
    rw [f10_l1, if_pos (by omega), e]
    rcases l2 s ((i : Int) - 1) 21 1000 0 rfl (by decide) with ⟨x, hx, h⟩ | ⟨h, hno⟩
    · rw [show f10_l2 1000 s ((i : Int) - 1) 1000 0 = _ from h]
      exact .inl ⟨x, hx, rfl⟩
    · rw [show f10_l2 1000 s ((i : Int) - 1) 1000 0 = _ from h]
      simp only [Option.bind_some]
      rcases l1 s d n (i + 1) (by omega) (by omega) with h | ⟨h1, h2⟩
      · exact .inl h
      · refine .inr ⟨h1, fun j a b p hp o => ?_⟩
        by_cases q : j = i
        · subst q; exact hno p (by omega) hp o
        · exact h2 j (by omega) b p hp o
theorem f10_eq (s : List UInt8) : (∃ x, hit s x ∧ f10 1000 s = some (x, 0)) ∨ (f10 1000 s = some (⟨0, 0, false⟩, 3) ∧ ∀ x, ¬ hit s x) := by
  unfold f10
  rcases l1 s 65 1000 0 rfl (by decide) with ⟨x, hx, h⟩ | ⟨h, hno⟩
  · rw [show f10_l1 1000 s 1000 (-1) = _ from h]
    exact .inl ⟨x, hx, rfl⟩
  · rw [show f10_l1 1000 s 1000 (-1) = _ from h]
    refine .inr ⟨rfl, fun x hx => ?_⟩
    have hm := canOf hx.1
    simp only [sights, List.mem_append, List.mem_map, List.mem_flatMap, List.mem_range, List.mem_singleton] at hm
    rcases hm with (⟨p, hp, rfl⟩ | rfl) | ⟨f, hf, p, hp, rfl⟩
    · exact hno 0 (by decide) (by decide) p hp true hx
    · exact hno 0 (by decide) (by decide) 0 (by decide) false hx
    · refine hno (f + 1) (by omega) (by omega) p hp false ?_
      have : ((f + 1 : Nat) : Int) - 1 = (f : Int) := by omega
      rw [this]; exact hx
/-! The reader -/
theorem dec_at {x : List UInt8} {p : Nat} {c : UInt8} (h : x[p]? = some c) : (c.toNat < 128 ∧ decL x p = (c.toNat : Int) ∧ decN x p = 1) ∨ (128 ≤ c.toNat ∧ 128 ≤ decL x p) := by
  have hp : p < x.length := (List.getElem?_eq_some_iff.1 h).1
  have hs : p < (bs x).size := hp
  have hc : (bs x)[p]'hs = c := (List.getElem?_eq_some_iff.1 h).2
  by_cases hl : c.toNat < 128
  · left
    have := decode_ascii (bs x) p hs (by rw [hc]; exact hl)
    unfold decL decN
    rw [this, hc]
    exact ⟨hl, rfl, rfl⟩
  · right
    have := (decode_high (bs x) p hs (by rw [hc]; omega)).1
    unfold decL
    exact ⟨by omega, by omega⟩
theorem f25_loop (s : List UInt8) : ∀ (d n p : Nat), p + d = s.length → d < n → f25_l1 s n p = some (.inl (0, false)) ∨ f25_l1 s n p = some (.inr ())
  | d, 0, p, hp, hd => by omega
  | 0, n + 1, p, hp, hd => by right; rw [f25_l1, if_neg (by omega)]
  | d + 1, n + 1, p, hp, hd => by
    rw [f25_l1, if_pos (by omega)]
    obtain ⟨c, hc⟩ : ∃ c, s[p]? = some c := ⟨_, List.getElem?_eq_getElem (by omega)⟩
    by_cases h : decL s p > 57
    · rw [if_pos h]; exact .inl rfl
    · rw [if_neg h]
      have e : f32 (decL s p) = some (Lib.isDigitL (decL s p)) := by unfold f32; rw [if_pos (by omega)]
      rw [e, Option.bind_some]
      cases Lib.isDigitL (decL s p) with
      | false => exact .inl rfl
      | true =>
        rw [if_pos rfl]
        rcases dec_at hc with ⟨h1, h2, h3⟩ | ⟨h1, h2⟩
        · rw [h3]; exact f25_loop s d n (p + 1) (by omega) (by omega)
        · omega
theorem f25_some {s : List UInt8} (h : s.length ≤ 40) : ∃ n b, f25 1000 s = some (n, b) ∧ -9223372036854775808 ≤ n ∧ n ≤ 9223372036854775807 := by
  unfold f25
  rcases f25_loop s s.length 1000 0 (by omega) (by omega) with h1 | h1
  · rw [h1]; exact ⟨0, false, rfl, by decide, by decide⟩
  · rw [h1, Option.bind_some]
    have : ∃ n b, f33 s = some (n, b) ∧ -9223372036854775808 ≤ n ∧ n ≤ 9223372036854775807 := by
      unfold f33
      rw [if_pos (by omega)]
      rcases ha : Lib.atoiAll s with v | _ | _
      · have := Lib.atoiAll_bounds ha; exact ⟨_, _, rfl, by omega, by omega⟩
      · exact ⟨_, _, rfl, by decide, by decide⟩
      · have := Lib.atoiSat_bounds s; exact ⟨_, _, rfl, by omega, by omega⟩
    obtain ⟨n, b, h2, h3, h4⟩ := this
    simp only [h2, Option.bind_some]
    cases b
    · exact ⟨_, _, rfl, h3, h4⟩
    · exact ⟨_, _, rfl, h3, h4⟩
theorem cut_len (s : List UInt8) : (Lib.cut s [58]).1.length ≤ s.length ∧ (Lib.cut s [58]).2.1.length ≤ s.length := by
  unfold Lib.cut
  split
  · constructor
    · simp; omega
    · simp
  · simp
theorem f9_ends {s : List UInt8} (h : s.length ≤ 40) : (∃ x, f9 1000 s = some (x, 0) ∧ f7 x = some (s, 0)) ∨ f9 1000 s = some (⟨0, 0, false⟩, 3) := by
  unfold f9
  have hc := cut_len s
  have e24 : f24 s [58] = some (Lib.cut s [58]) := by unfold f24; rw [if_pos (by omega)]
  rw [e24, Option.bind_some]
  generalize Lib.cut s [58] = cc at hc
  obtain ⟨a, b, two⟩ := cc
  simp only at hc
  simp only [Option.bind_some]
  obtain ⟨n, is, h1, h2, h3⟩ := f25_some (s := a) (by omega)
  obtain ⟨m, is2, k1, k2, k3⟩ := f25_some (s := b) (by omega)
  have fin : ∀ (v : Int) (ok : Bool), -9223372036854775808 ≤ v → v ≤ 9223372036854775807 → ∀ fl : Int, ∃ r : Sight × Int, ((f7 (Sight.mk fl v (decide (a = [111, 117, 116])))).bind fun (t40_0, t40_1) =>
      if ok then if t40_1 = 0 then if t40_0 = s then some ((Sight.mk fl v (decide (a = [111, 117, 116]))), (0 : Int)) else some ((Sight.mk 0 0 false), 3) else some ((Sight.mk 0 0 false), 3) else some ((Sight.mk 0 0 false), 3)) = some r ∧ ((r.2 = 0 ∧ f7 r.1 = some (s, 0)) ∨ r = (⟨0, 0, false⟩, 3)) := by
    intro v ok v1 v2 fl
    obtain ⟨⟨t, e⟩, q, -⟩ := f7_8 (x := Sight.mk fl v (decide (a = [111, 117, 116]))) v1 v2
    rw [q, Option.bind_some]
    simp only
    cases ok
    · exact ⟨_, rfl, .inr rfl⟩
    · by_cases q1 : e = 0
      · by_cases q2 : t = s
        · exact ⟨_, by rw [if_pos rfl, if_pos q1, if_pos q2], .inl ⟨rfl, by rw [q, q1, q2]⟩⟩
        · exact ⟨_, by rw [if_pos rfl, if_pos q1, if_neg q2], .inr rfl⟩
      · exact ⟨_, by rw [if_pos rfl, if_neg q1], .inr rfl⟩
  have done : ∀ {o : Option (Sight × Int)}, (∃ r : Sight × Int, o = some r ∧ ((r.2 = 0 ∧ f7 r.1 = some (s, 0)) ∨ r = (⟨0, 0, false⟩, 3))) → (∃ x, o = some (x, 0) ∧ f7 x = some (s, 0)) ∨ o = some (⟨0, 0, false⟩, 3) := by
    rintro o ⟨⟨x, e⟩, q, ⟨q1, q2⟩ | q1⟩
    · simp only at q1 q2; subst q1; exact .inl ⟨x, q, q2⟩
    · rw [q1] at q; exact .inr q
  cases two
  · simp only [Bool.false_eq_true, if_false, Option.bind_some, h1]
    cases is
    · exact done (fin 0 true (by decide) (by decide) _)
    · exact done (fin 0 true (by decide) (by decide) _)
  · simp only [if_true, Option.bind_some, h1, k1]
    cases is
    · exact done (fin m is2 k2 k3 _)
    · exact done (fin m is2 k2 k3 _)
theorem f9_10 {s : List UInt8} (h : s.length ≤ 40) : ∃ r, f9 1000 s = some r ∧ f10 1000 s = some r := by
  rcases f10_eq s with ⟨x, hx, e⟩ | ⟨e, hno⟩
  · obtain ⟨t, h1, -, h3⟩ := tabOf hx.1
    rw [hx.2] at h1
    cases h1
    exact ⟨_, h3, e⟩
  · rcases f9_ends h with ⟨x, h1, h2⟩ | h1
    · exfalso
      obtain ⟨b, hb⟩ := f22_some x
      cases b with
      | true =>
        obtain ⟨t, h3, h4, -⟩ := tabOf hb
        rw [h2] at h4
        cases h4
        exact hno x ⟨hb, h3⟩
      | false =>
        unfold f7 at h2
        cases h20 : f20 x.Panel with
        | none => rw [h20] at h2; cases h2
        | some z =>
          rw [h20, Option.bind_some, f21_22, show f22 (Sight.mk x.Floor x.Panel x.Out) = some false from hb] at h2
          simp at h2
    · exact ⟨_, h1, e⟩
theorem f3_eq {x : Sight} (hx : ok23 x) (s : List UInt8) : f3 1000 x s = some true := by
  unfold f3
  by_cases h : (s.length : Int) > 40
  · rw [if_pos h]; rfl
  · rw [if_neg h]
    have hz := okZ hx.2.1
    obtain ⟨⟨a, b⟩, h1, h2⟩ := f7_8 (x := Sight.mk x.Floor x.Panel x.Out) hz.1 hz.2
    obtain ⟨⟨c, d⟩, h3, h4⟩ := f9_10 (s := s) (by omega)
    rw [h1, h2, h3, h4]
    simp only [Option.bind_some, if_true]
    rfl
theorem pure3 : Pure3 := fun x0 x1 h0 _ => ⟨1000, f3_eq h0 x1⟩
end Go.Proofs.YtenddpplfdgcfaaDoor

set_option linter.unusedVariables false
set_option linter.unusedSimpArgs false
namespace Go.Proofs.YtenddpplfdgcfaaDoor
open Go Go.Det Go.RowKit
theorem apd_ok {α : Type} {by_ : Nat} {l l' : List α} (h : (l.length + l'.length) * by_ ≤ 140737488355328) : apd by_ l l' = some (l ++ l') := by unfold apd; rw [if_pos h]
theorem rd_at {α : Type} {l : List α} {i : Nat} (h : i < l.length) : rd l (i : Int) = some l[i] := by
  unfold rd; rw [if_pos (by omega), Int.toNat_natCast, List.getElem?_eq_getElem h]
theorem rd_nat {α : Type} {l : List α} {i : Nat} : rd l (i : Int) = l[i]? := by
  unfold rd; rw [if_pos (by omega), Int.toNat_natCast]
theorem suc {i : Nat} (h : i < 1000000) : IntKind.i64.wrap ((i : Int) + 1) = ((i + 1 : Nat) : Int) := by rw [w64 (by omega) (by omega)]; omega
theorem f12_eq {x m : Int} (hm : 1 ≤ m) (hm2 : m ≤ 100000000) : ∃ n : Int, f12 x m = some n ∧ 0 ≤ n ∧ n < m := by
  unfold f12
  rw [if_neg (by omega), if_pos (by omega)]
  have h1 : x.tmod m < m := Int.tmod_lt_of_pos x (by omega)
  have h2 : -m < x.tmod m := by
    rcases Int.le_total 0 x with hx | hx
    · have := Int.tmod_nonneg m hx; omega
    · have e : x.tmod m = -((-x).tmod m) := by rw [Int.neg_tmod, Int.neg_neg]
      have := Int.tmod_lt_of_pos (-x) (show 0 < m by omega); omega
  by_cases q : x.tmod m < 0
  · rw [if_pos q]
    exact ⟨x.tmod m + m, by rw [w64 (by omega) (by omega)]; rfl, by omega, by omega⟩
  · rw [if_neg q]; exact ⟨_, rfl, by omega, h1⟩
/-! Gaps, and the places of floors -/
def Gap (l : List Int) : Prop := l.length ≤ 9 ∧ ∀ g ∈ l, 1 ≤ g ∧ g ≤ 12
def ps (l : List Int) (i : Nat) : Int := (l.take i).sum
theorem ps_succ {l : List Int} {i : Nat} (h : i < l.length) : ps l (i + 1) = ps l i + l[i] := by
  unfold ps
  rw [List.take_add_one, List.getElem?_eq_getElem h, List.sum_append]
  show _ + ([l[i]] : List Int).sum = _
  rw [List.sum_cons, List.sum_nil, Int.add_zero]
theorem ps_zero (l : List Int) : ps l 0 = 0 := by simp [ps]
theorem Gap.step {l : List Int} (h : Gap l) {i : Nat} (hi : i < l.length) : ps l i + 1 ≤ ps l (i + 1) ∧ ps l (i + 1) ≤ ps l i + 12 := by
  have := h.2 l[i] (List.getElem_mem hi)
  rw [ps_succ hi]; omega
theorem Gap.bound {l : List Int} (h : Gap l) : ∀ i, i ≤ l.length → (i : Int) ≤ ps l i ∧ ps l i ≤ 12 * (i : Int)
  | 0, _ => by rw [ps_zero]; omega
  | i + 1, hi => by
    have := h.step (i := i) (by omega)
    have := h.bound i (by omega)
    omega
theorem Gap.lt {l : List Int} (h : Gap l) : ∀ (d i : Nat), i + d < l.length → ps l i < ps l (i + d + 1)
  | 0, i, hi => by have := h.step (i := i) (by omega); show ps l i < ps l (i + 1); omega
  | d + 1, i, hi => by
    have h1 := h.lt d i (by omega)
    have h2 := h.step (i := i + d + 1) (by omega)
    have e : i + (d + 1) + 1 = i + d + 1 + 1 := by omega
    rw [e]; omega
theorem Gap.mono {l : List Int} (h : Gap l) {i j : Nat} (hij : i < j) (hj : j ≤ l.length) : ps l i < ps l j := by
  have := h.lt (j - i - 1) i (by omega)
  rw [show i + (j - i - 1) + 1 = j from by omega] at this
  exact this
def pos (l : List Int) : List Int := (List.range (l.length + 1)).map (ps l)
theorem pos_len (l : List Int) : (pos l).length = l.length + 1 := by simp [pos]
theorem pos_at {l : List Int} {i : Nat} (h : i ≤ l.length) : (pos l)[i]? = some (ps l i) := by
  unfold pos; rw [List.getElem?_map, List.getElem?_range (by omega)]; rfl
/-! Shaft -/
theorem f42_eq {x : Int} (h : 1 ≤ x ∧ x ≤ 12) : f42 x = some false := by
  unfold f42; rw [if_neg (by omega)]; simp; omega
theorem f34_loop {l : List Int} (h : Gap l) : ∀ (d n i : Nat), i + d = l.length → d < n → f34_l1 l n (i : Int) = some (.inl ())
  | d, 0, i, hi, hd => by omega
  | 0, n + 1, i, hi, hd => by rw [f34_l1, decide_eq_false (by omega)]; rfl
  | d + 1, n + 1, i, hi, hd => by
    have hl := h.1
    rw [f34_l1, decide_eq_true (by omega), Option.bind_some, if_pos rfl, rd_at (by omega), Option.bind_some, f42_eq (h.2 _ (List.getElem_mem _)), Option.bind_some, if_neg (by decide), suc (by omega)]
    exact f34_loop h d n (i + 1) (by omega) (by omega)
theorem f34_eq {l : List Int} (h : Gap l) (h0 : 1 ≤ l.length) : f34 1000 l = some (0, 0) := by
  unfold f34
  have hl := h.1
  rw [if_neg (by omega), if_neg (by omega), show f34_l1 l 1000 0 = _ from f34_loop h l.length 1000 0 (by omega) (by omega)]
  rfl
theorem f61_loop {l : List Int} (h : Gap l) : ∀ (d n i : Nat) (m : List Int), 1 ≤ i → i + d = l.length + 1 → d < n → m.length = l.length + 1 → (∀ j, j < i → m[j]? = some (ps l j)) → (∀ j, i ≤ j → j ≤ l.length → m[j]? = l[j - 1]?) → ∃ v, f61_l1 n m (ps l (i - 1)) (i : Int) = some (pos l, v)
  | d, 0, i, m, h1, hi, hd, hm, ha, hb => by omega
  | 0, n + 1, i, m, h1, hi, hd, hm, ha, hb => by
    have : m = pos l := List.ext_getElem? fun j => by
      by_cases q : j ≤ l.length
      · rw [ha j (by omega), pos_at q]
      · rw [List.getElem?_eq_none (by omega), List.getElem?_eq_none (by rw [pos_len]; omega)]
    subst this
    rw [f61_l1, if_neg (by omega)]
    exact ⟨_, rfl⟩
  | d + 1, n + 1, i, m, h1, hi, hd, hm, ha, hb => by
    have hl := h.1
    have hk : i - 1 < l.length := by omega
    have hg : m[i]? = some l[i - 1] := by rw [hb i (Nat.le_refl _) (by omega), List.getElem?_eq_getElem hk]
    have hbd := h.bound (i - 1) (by omega)
    have hgap := h.2 _ (List.getElem_mem hk)
    have es : ps l (i - 1) + l[i - 1] = ps l i := by
      have := ps_succ (l := l) (i := i - 1) hk
      rw [show i - 1 + 1 = i from by omega] at this
      exact this.symm
    have ew : IntKind.i64.wrap (ps l (i - 1) + l[i - 1]) = ps l i := by rw [w64 (by omega) (by omega), es]
    rw [f61_l1, if_pos (by omega), rd_nat, hg]
    simp only [Option.bind_some]
    rw [ew, suc (by omega), Int.toNat_natCast]
    have := f61_loop h d n (i + 1) (m.set i (ps l i)) (by omega) (by omega) (by omega) (by rw [List.length_set]; exact hm) (fun j hj => by
      by_cases q : j = i
      · subst q; rw [List.getElem?_set_self (by omega)]
      · rw [List.getElem?_set_ne (fun r => q r.symm)]; exact ha j (by omega)) (fun j hj hj2 => by
      rw [List.getElem?_set_ne (by omega)]; exact hb j (by omega) hj2)
    rw [show i + 1 - 1 = i from by omega] at this
    exact this
theorem f61_eq {l : List Int} (h : Gap l) (h0 : 1 ≤ l.length) : f61 1000 l = some (pos l, 0) := by
  unfold f61
  have hl := h.1
  have ha : apn 8 [0] l = some ([0] ++ l) := by
    cases l with
    | nil => simp at h0
    | cons a l => show apd 8 _ _ = _; rw [apd_ok (by simp at hl ⊢ <;> omega)]
  obtain ⟨v, hv⟩ := f61_loop h l.length 1000 1 ([0] ++ l) (Nat.le_refl _) (by omega) (by omega) (by simp) (fun j hj => by
    have : j = 0 := by omega
    subst this; rw [ps_zero]; rfl) (fun j h1 h2 => by
    obtain ⟨k, rfl⟩ : ∃ k, j = k + 1 := ⟨j - 1, by omega⟩
    rfl)
  rw [f34_eq h h0]
  simp only [Option.bind_some, if_true, ha]
  have hv' : f61_l1 1000 ([0] ++ l) 0 1 = some (pos l, v) := by
    have := hv
    rw [show 1 - 1 = 0 from rfl, ps_zero] at this
    exact this
  rw [hv']; rfl
theorem f44_eq {l : List Int} (h : Gap l) (h0 : 1 ≤ l.length) : f44 1000 l = some (ps l l.length, 0) := by
  unfold f44
  have hl := h.1
  have e : IntKind.i64.wrap (((pos l).length : Int) - 1) = ((l.length : Nat) : Int) := by rw [pos_len, w64 (by omega) (by omega)]; omega
  rw [f61_eq h h0]
  simp only [Option.bind_some, if_true]
  rw [e, rd_nat, pos_at (Nat.le_refl _)]; rfl
theorem f35_eq {l : List Int} (h : Gap l) (h0 : 1 ≤ l.length) {c : Shown} (c1 : 0 ≤ c.Domain ∧ c.Domain ≤ 3) (c2 : 0 ≤ c.At ∧ c.At ≤ ps l l.length) (c3 : 0 ≤ c.Panel ∧ c.Panel ≤ 20) : f35 1000 l c = some 0 := by
  unfold f35
  rw [f44_eq h h0]
  simp only [Option.bind_some, if_true]
  rw [if_neg (by omega), if_neg (by omega), if_neg (by omega), if_neg (by omega), if_neg (by omega), if_neg (by omega)]
theorem f83_eq {l : List Int} (h : Gap l) (h0 : 1 ≤ l.length) {a : Int} (c2 : 0 ≤ a ∧ a ≤ ps l l.length) : f83 1000 l a = some (pos l, 0) := by
  unfold f83
  have hl := h.1
  have e : IntKind.i64.wrap (((pos l).length : Int) - 1) = ((l.length : Nat) : Int) := by rw [pos_len, w64 (by omega) (by omega)]; omega
  rw [f61_eq h h0]
  simp only [Option.bind_some, if_true]
  rw [if_neg (by omega), e, rd_nat, pos_at (Nat.le_refl _), Option.bind_some, if_neg (by omega)]
theorem f90_eq (x y : Int) : f90 x y = some (decide (x < y)) := by
  unfold f90 f92
  simp
theorem half {i j : Nat} (h : i < j) (hj : j ≤ 20) : IntKind.i64.wrap (gshr .u64 (IntKind.u64.wrap (IntKind.i64.wrap ((i : Int) + (j : Int)))) 1) = (((i + j) / 2 : Nat) : Int) := by
  have e1 : IntKind.i64.wrap ((i : Int) + (j : Int)) = ((i + j : Nat) : Int) := by rw [w64 (by omega) (by omega)]; omega
  have e2 : IntKind.u64.wrap ((i + j : Nat) : Int) = ((i + j : Nat) : Int) := by rw [IntKind.wrap_u64]; omega
  rw [e1, e2]
  have e3 : gshr .u64 ((i + j : Nat) : Int) 1 = (((i + j) / 2 : Nat) : Int) := by
    unfold gshr
    rw [show min (1 : Int).toNat IntKind.u64.bits = 1 from rfl, Int.fdiv_eq_ediv_of_nonneg _ (by decide)]
    omega
  rw [e3, w64 (by omega) (by omega)]
theorem f89_loop {l : List Int} (h : Gap l) {a : Int} : ∀ (d n i j : Nat), j = i + d → d < n → j ≤ l.length + 1 → (∀ q, q < i → ps l q < a) → (∀ q, j ≤ q → q ≤ l.length → a ≤ ps l q) → ∃ r : Nat, f89_l1 (pos l) a n (i : Int) (j : Int) = some (r : Int) ∧ r ≤ l.length + 1 ∧ (∀ q, q < r → ps l q < a) ∧ ∀ q, r ≤ q → q ≤ l.length → a ≤ ps l q
  | d, 0, i, j, hj, hd, hl, h1, h2 => by omega
  | 0, n + 1, i, j, hj, hd, hl, h1, h2 => by
    rw [f89_l1, if_neg (by omega)]
    exact ⟨i, rfl, by omega, h1, fun q q1 q2 => h2 q (by omega) q2⟩
  | d + 1, n + 1, i, j, hj, hd, hl, h1, h2 => by
    have hL := h.1
    have hm1 : i ≤ (i + j) / 2 := by omega
    have hm2 : (i + j) / 2 < j := by omega
    rw [f89_l1, if_pos (by omega), half (by omega) (by omega), rd_nat, pos_at (by omega), Option.bind_some, f90_eq, Option.bind_some]
    generalize (i + j) / 2 = m at hm1 hm2
    by_cases q : ps l m < a
    · rw [if_pos (by simpa using q), suc (by omega)]
      have key : ∀ r, r < m + 1 → ps l r < a := fun r hr => by
        by_cases e : r = m
        · subst e; exact q
        · have := h.mono (i := r) (j := m) (by omega) (by omega); omega
      exact f89_up h n (m + 1) j (by omega) (by omega) hl key h2
    · rw [if_neg (by simpa using q)]
      have key : ∀ r, m ≤ r → r ≤ l.length → a ≤ ps l r := fun r hr hr2 => by
        by_cases e : r = m
        · subst e; omega
        · have := h.mono (i := m) (j := r) (by omega) hr2; omega
      exact f89_up h n i m (by omega) (by omega) (by omega) h1 key
where f89_up {l : List Int} (h : Gap l) {a : Int} (n i j : Nat) (hij : i ≤ j) (hd : j - i < n) (hl : j ≤ l.length + 1) (h1 : ∀ q, q < i → ps l q < a) (h2 : ∀ q, j ≤ q → q ≤ l.length → a ≤ ps l q) : ∃ r : Nat, f89_l1 (pos l) a n (i : Int) (j : Int) = some (r : Int) ∧ r ≤ l.length + 1 ∧ (∀ q, q < r → ps l q < a) ∧ ∀ q, r ≤ q → q ≤ l.length → a ≤ ps l q :=
  f89_loop h (j - i) n i j (by omega) hd hl h1 h2
end Go.Proofs.YtenddpplfdgcfaaDoor

set_option linter.unusedVariables false
set_option linter.unusedSimpArgs false
namespace Go.Proofs.YtenddpplfdgcfaaDoor
open Go Go.Det Go.RowKit
def away (l : List Int) (a : Int) (i : Nat) : Int := max (ps l i - a) (a - ps l i)
/-- The floor next to a place. -/
def Nr (l : List Int) (a : Int) (j : Nat) : Prop := j ≤ l.length ∧ ∀ i, i ≤ l.length → away l a j < away l a i ∨ (away l a j = away l a i ∧ j ≤ i)
theorem f84_eq {l : List Int} (h : Gap l) (h0 : 1 ≤ l.length) {a : Int} (c : 0 ≤ a ∧ a ≤ ps l l.length) : ∃ j : Nat, f84 1000 (pos l) a = some (j : Int) ∧ Nr l a j := by
  have hl := h.1
  obtain ⟨r, h1, h2, h3, h4⟩ := f89_loop h (a := a) (l.length + 1) 1000 0 (l.length + 1) (by omega) (by omega) (Nat.le_refl _) (fun q hq => absurd hq (Nat.not_lt_zero _)) (fun q q1 q2 => by omega)
  have hr : r ≤ l.length := by
    rcases Nat.lt_or_ge l.length r with q | q
    · have := h3 l.length q; omega
    · exact q
  have hb := h.bound r hr
  have big : ∀ i, r < i → i ≤ l.length → ps l r < ps l i := fun i q1 q2 => h.mono q1 q2
  have hr4 := h4 r (Nat.le_refl _) hr
  have e89 : f89 1000 (pos l) a = some ((r : Int), decide (ps l r = a)) := by
    unfold f89
    rw [show ((pos l).length : Int) = ((l.length + 1 : Nat) : Int) from by rw [pos_len], show f89_l1 (pos l) a 1000 0 ((l.length + 1 : Nat) : Int) = _ from h1]
    simp only [Option.bind_some]
    rw [if_pos (by omega), rd_nat, pos_at hr]
    simp only [Option.bind_some]
    by_cases q : ps l r = a
    · rw [if_pos q, decide_eq_true q]
    · rw [if_neg q, decide_eq_false q]
      unfold f91; simp
  unfold f84
  rw [e89]
  simp only [Option.bind_some]
  by_cases q : ps l r = a
  · rw [decide_eq_true q, if_pos rfl]
    refine ⟨r, rfl, hr, fun i hi => ?_⟩
    unfold away
    by_cases q2 : i < r
    · have := h.mono q2 hr; omega
    · by_cases q3 : i = r
      · subst q3; omega
      · have := big i (by omega) hi; omega
  · rw [decide_eq_false q, if_neg (by decide)]
    by_cases q0 : r = 0
    · exfalso; subst q0; rw [ps_zero] at hr4 q; omega
    · have hb1 := h.bound (r - 1) (by omega)
      have h31 := h3 (r - 1) (by omega)
      have e1 : IntKind.i64.wrap ((r : Int) - 1) = ((r - 1 : Nat) : Int) := by rw [w64 (by omega) (by omega)]; omega
      rw [if_neg (by omega), e1, rd_nat, pos_at (by omega), Option.bind_some, rd_nat, pos_at hr, Option.bind_some, w64 (by omega) (by omega), w64 (by omega) (by omega)]
      have low : ∀ i, i < r - 1 → ps l i < ps l (r - 1) := fun i q1 => h.mono q1 (by omega)
      by_cases q2 : a - ps l (r - 1) ≤ ps l r - a
      · rw [if_pos q2]
        refine ⟨r - 1, rfl, by omega, fun i hi => ?_⟩
        unfold away
        rcases Nat.lt_trichotomy i (r - 1) with w | w | w
        · have := low i w; omega
        · subst w; omega
        · by_cases w2 : i = r
          · subst w2; omega
          · have := big i (by omega) hi; omega
      · rw [if_neg q2]
        refine ⟨r, rfl, hr, fun i hi => ?_⟩
        unfold away
        rcases Nat.lt_trichotomy i (r - 1) with w | w | w
        · have := low i w; omega
        · subst w; omega
        · by_cases w2 : i = r
          · subst w2; omega
          · have := big i (by omega) hi; omega
theorem f71_eq {l : List Int} (h : Gap l) (h0 : 1 ≤ l.length) {a : Int} (c : 0 ≤ a ∧ a ≤ ps l l.length) : ∃ j : Nat, f71 1000 l a = some ((j : Int), 0) ∧ Nr l a j := by
  obtain ⟨j, h1, h2⟩ := f84_eq h h0 c
  refine ⟨j, ?_, h2⟩
  unfold f71
  rw [f83_eq h h0 c]
  simp only [Option.bind_some, if_true, h1]
/-! What is shown -/
def Sh (l : List Int) (d : Int) (c : Shown) (s : Sight) : Prop :=
  (¬ (c.Domain = d ∧ c.Service = true ∧ c.Faulted = false ∧ c.Homing = false) ∧ s.Floor = -1 ∧ (s.Panel = 0 ∨ (s.Out = true ∧ s.Panel = c.Panel))) ∨
  ((c.Domain = d ∧ c.Service = true ∧ c.Faulted = false ∧ c.Homing = false) ∧ ∃ j : Nat, s = ⟨(j : Int), c.Panel, false⟩ ∧ Nr l c.At j)
theorem f36_eq {l : List Int} (h : Gap l) (h0 : 1 ≤ l.length) {c : Shown} (d : Int) (c2 : 0 ≤ c.At ∧ c.At ≤ ps l l.length) : ∃ s, f36 1000 l d c = some s ∧ Sh l d c s := by
  obtain ⟨cd, cs, cf, ch, ca, cp⟩ := c
  simp only at c2
  obtain ⟨j, h1, h2⟩ := f71_eq h h0 c2
  unfold f36 f63 f64 f66 f68 f69 f62 f65 f67
  simp only [Option.bind_some]
  by_cases q : cd = d
  · subst q
    have e : (cd != cd) = false := by simp
    rw [e, if_neg (by decide)]
    cases cs
    · exact ⟨_, rfl, .inl ⟨fun k => by simp at k, rfl, .inl rfl⟩⟩
    · cases cf
      · cases ch
        · simp only [if_true, Option.bind_some, Bool.false_eq_true, if_false, h1]
          exact ⟨_, rfl, .inr ⟨⟨rfl, rfl, rfl, rfl⟩, j, rfl, h2⟩⟩
        · exact ⟨_, rfl, .inl ⟨fun k => by simp at k, rfl, .inl rfl⟩⟩
      · exact ⟨_, rfl, .inl ⟨fun k => by simp at k, rfl, .inr ⟨rfl, rfl⟩⟩⟩
  · have e : (cd != d) = true := by simp [q]
    rw [e, if_pos rfl]
    exact ⟨_, rfl, .inl ⟨fun k => q k.1, rfl, .inl rfl⟩⟩
theorem f13_eq {l : List Int} (h : Gap l) (h0 : 1 ≤ l.length) {c : Shown} {d : Int} (hd : 1 ≤ d ∧ d ≤ 3) (c1 : 0 ≤ c.Domain ∧ c.Domain ≤ 3) (c2 : 0 ≤ c.At ∧ c.At ≤ ps l l.length) (c3 : 0 ≤ c.Panel ∧ c.Panel ≤ 20) : ∃ s, f13 1000 l d c = some (s, 0) ∧ Sh l d c s := by
  obtain ⟨s, h1, h2⟩ := f36_eq h h0 (c := c) d c2
  refine ⟨s, ?_, h2⟩
  have e35 := f35_eq h h0 c1 c2 c3
  have l1 : f26_l1 1000 l [c] 1000 0 = some (.inl ()) := by
    rw [f26_l1, decide_eq_true (by simp)]
    simp only [Option.bind_some, if_true, show rd [c] 0 = some c from rfl]
    rw [show f35 1000 l (Shown.mk c.Domain c.Service c.Faulted c.Homing c.At c.Panel) = _ from e35]
    simp only [Option.bind_some, if_true]
    rw [show IntKind.i64.wrap (0 + 1) = 1 from by decide, f26_l1, decide_eq_false (by simp)]; rfl
  have l2 : f26_l2 1000 l d [c] 1000 [] 0 = some [s] := by
    rw [f26_l2, decide_eq_true (by simp)]
    simp only [Option.bind_some, if_true, show rd [c] 0 = some c from rfl]
    rw [show f36 1000 l d (Shown.mk c.Domain c.Service c.Faulted c.Homing c.At c.Panel) = _ from h1]
    simp only [Option.bind_some]
    rw [apd_ok (by simp), Option.bind_some, show IntKind.i64.wrap (0 + 1) = 1 from by decide, f26_l2, decide_eq_false (by simp)]; rfl
  unfold f13 f26
  rw [f34_eq h h0]
  simp only [Option.bind_some, if_true]
  rw [show f26_l1 1000 l [Shown.mk c.Domain c.Service c.Faulted c.Homing c.At c.Panel] 1000 0 = _ from l1]
  simp only [Option.bind_some]
  rw [if_neg (by omega), if_neg (by omega), show f26_l2 1000 l d [Shown.mk c.Domain c.Service c.Faulted c.Homing c.At c.Panel] 1000 [] 0 = _ from l2]
  simp only [Option.bind_some, if_true, show rd [s] 0 = some s from rfl]
end Go.Proofs.YtenddpplfdgcfaaDoor

set_option linter.unusedVariables false
set_option linter.unusedSimpArgs false
namespace Go.Proofs.YtenddpplfdgcfaaDoor
open Go Go.Det Go.RowKit
theorem ps_all (l : List Int) : ps l l.length = l.sum := by unfold ps; rw [List.take_length]
theorem f11_loop (x : List Int) : ∀ (d n i : Nat) (l : List Int), i + d = 8 → d < n → l.length = i + 1 → Gap l → ∃ L, f11_l1 x n l (ps l l.length) (i : Int) = some (L, ps L L.length) ∧ Gap L ∧ 1 ≤ L.length
  | d, 0, i, l, hi, hd, hl, g => by omega
  | 0, n + 1, i, l, hi, hd, hl, g => by
    rw [f11_l1]
    by_cases q : (i : Int) < (x.length : Int)
    · rw [if_pos q, if_neg (by omega)]; exact ⟨l, rfl, g, by omega⟩
    · rw [if_neg q]; exact ⟨l, rfl, g, by omega⟩
  | d + 1, n + 1, i, l, hi, hd, hl, g => by
    rw [f11_l1]
    by_cases q : (i : Int) < (x.length : Int)
    · obtain ⟨t, h1, h2, h3⟩ := f12_eq (x := x[i]'(by omega)) (m := 12) (by decide) (by decide)
      have e : IntKind.i64.wrap (1 + t) = 1 + t := w64 (by omega) (by omega)
      have g' : Gap (l ++ [1 + t]) := ⟨by simp; omega, fun y hy => by
        rcases List.mem_append.1 hy with w | w
        · exact g.2 y w
        · simp at w; subst w; omega⟩
      have hb := g.bound l.length (Nat.le_refl _)
      have es : ps (l ++ [1 + t]) (l ++ [1 + t]).length = ps l l.length + (1 + t) := by rw [ps_all, ps_all, List.sum_append]; simp
      have ew : IntKind.i64.wrap (ps l l.length + (1 + t)) = ps (l ++ [1 + t]) (l ++ [1 + t]).length := by rw [es, w64 (by omega) (by omega)]
      rw [if_pos q, if_pos (by omega), rd_at (by omega), Option.bind_some, h1, Option.bind_some, e, apd_ok (by simp; omega), Option.bind_some, suc (by omega), rd_nat]
      have hr : (l ++ [1 + t])[i + 1]? = some (1 + t) := by rw [List.getElem?_append_right (by omega), hl]; simp
      rw [hr, Option.bind_some, ew]
      exact f11_loop x d n (i + 1) (l ++ [1 + t]) (by omega) (by omega) (by simp; omega) g'
    · rw [if_neg q]; exact ⟨l, rfl, g, by omega⟩
theorem tmod_rng {x m : Int} (hx : 0 ≤ x) (hm : 0 < m) : 0 ≤ x.tmod m ∧ x.tmod m < m := ⟨Int.tmod_nonneg m hx, Int.tmod_lt_of_pos x hm⟩
theorem f11_eq (x : List Int) (n : Int) : ∃ L c, f11 1000 x n = some (L, c) ∧ Gap L ∧ 1 ≤ L.length ∧ (0 ≤ c.Domain ∧ c.Domain ≤ 3) ∧ (0 ≤ c.At ∧ c.At ≤ ps L L.length) ∧ (0 ≤ c.Panel ∧ c.Panel ≤ 20) := by
  obtain ⟨L, h1, g, h0⟩ := f11_loop x 8 1000 0 [5] rfl (by decide) rfl ⟨by decide, fun y hy => by simp at hy; subst hy; decide⟩
  obtain ⟨t, k1, k2, k3⟩ := f12_eq (x := n) (m := 16777216) (by decide) (by decide)
  have hb := g.bound L.length (Nat.le_refl _)
  have hL := g.1
  have e7 : IntKind.i64.wrap (ps L L.length + 1) = ps L L.length + 1 := w64 (by omega) (by omega)
  unfold f11
  rw [show f11_l1 x 1000 [5] 5 0 = _ from h1]
  simp only [Option.bind_some, k1]
  rw [e7, if_pos (by omega)]
  have a1 : t.tdiv 8192 = t / 8192 := Int.tdiv_eq_ediv_of_nonneg k2
  have a2 : t.tdiv 256 = t / 256 := Int.tdiv_eq_ediv_of_nonneg k2
  have e1 : IntKind.i64.wrap (t.tdiv 8192) = t / 8192 := by rw [a1, w64 (by omega) (by omega)]
  have e2 : IntKind.i64.wrap (t.tdiv 256) = t / 256 := by rw [a2, w64 (by omega) (by omega)]
  have r1 := tmod_rng k2 (show (0 : Int) < 4 by decide)
  have r2 := tmod_rng (show (0 : Int) ≤ t / 8192 by omega) (show 0 < ps L L.length + 1 by omega)
  have r3 := tmod_rng (show (0 : Int) ≤ t / 256 by omega) (show (0 : Int) < 21 by decide)
  refine ⟨L, _, rfl, g, h0, ⟨r1.1, ?_⟩, ⟨?_, ?_⟩, ⟨?_, ?_⟩⟩
  · have := r1.2; show t.tmod 4 ≤ 3; omega
  · show 0 ≤ (IntKind.i64.wrap (t.tdiv 8192)).tmod _; rw [e1]; exact r2.1
  · show (IntKind.i64.wrap (t.tdiv 8192)).tmod _ ≤ _; rw [e1]; have := r2.2; omega
  · show 0 ≤ (IntKind.i64.wrap (t.tdiv 256)).tmod 21; rw [e2]; exact r3.1
  · show (IntKind.i64.wrap (t.tdiv 256)).tmod 21 ≤ 20; rw [e2]; have := r3.2; omega
theorem aw {l : List Int} (h : Gap l) {a : Int} (c : 0 ≤ a ∧ a ≤ ps l l.length) {i : Nat} (hi : i ≤ l.length) : gmax (IntKind.i64.wrap (ps l i - a)) (IntKind.i64.wrap (a - ps l i)) = away l a i := by
  have := h.bound i hi
  have := h.bound l.length (Nat.le_refl _)
  have := h.1
  unfold away
  rw [w64 (by omega) (by omega), w64 (by omega) (by omega), gmax_eq]
theorem nxt {l : List Int} (h : Gap l) {i : Nat} (hi : i ≤ l.length) : (if (i : Int) < (l.length : Int) then (rd l (i : Int)).bind fun t => some (IntKind.i64.wrap (ps l i + t)) else some (ps l i)) = some (ps l (min (i + 1) l.length)) := by
  by_cases q : i < l.length
  · have := h.step q
    have := h.bound i hi
    have hl := h.1
    rw [if_pos (by omega), rd_at q, Option.bind_some, Nat.min_eq_left (by omega), ← ps_succ q, w64 (by omega) (by omega)]
  · have : i = l.length := by omega
    subst this
    rw [if_neg (by omega), Nat.min_eq_right (by omega)]
theorem f4_l1_eq {l : List Int} (h : Gap l) {a : Int} (c : 0 ≤ a ∧ a ≤ ps l l.length) {j : Nat} (hj : j ≤ l.length) : ∀ (d n i : Nat) (b : Int), i + d = l.length + 1 → d < n → (j < i → b = away l a j) → f4_l1 l (j : Int) a n (ps l (min i l.length)) b (i : Int) = some (away l a j)
  | d, 0, i, b, hi, hd, hb => by omega
  | 0, n + 1, i, b, hi, hd, hb => by rw [f4_l1, if_neg (by omega), hb (by omega)]
  | d + 1, n + 1, i, b, hi, hd, hb => by
    have hl := h.1
    rw [f4_l1, if_pos (by omega), Nat.min_eq_left (by omega), aw h c (by omega)]
    have key : ∀ b', (j < i + 1 → b' = away l a j) → ((if (i : Int) < (l.length : Int) then (rd l (i : Int)).bind fun t147 => some ((IntKind.i64.wrap (ps l i + t147))) else some (ps l i)).bind fun x17_25 => f4_l1 l (j : Int) a n x17_25 b' (IntKind.i64.wrap ((i : Int) + 1))) = some (away l a j) := fun b' hb' => by
      rw [nxt h (by omega), Option.bind_some, suc (by omega)]
      exact f4_l1_eq h c hj d n (i + 1) b' (by omega) (by omega) hb'
    by_cases q : i = j
    · subst q; rw [if_pos rfl, Option.bind_some]; exact key _ fun _ => rfl
    · rw [if_neg (by omega), Option.bind_some]; exact key _ fun w => hb (by omega)
theorem f4_l2_eq {l : List Int} (h : Gap l) {a : Int} (c : 0 ≤ a ∧ a ≤ ps l l.length) {j : Nat} (hn : Nr l a j) : ∀ (d n i : Nat), i + d = l.length + 1 → d < n → f4_l2 l (away l a j) a (j : Int) n (ps l (min i l.length)) (i : Int) = some (.inr ())
  | d, 0, i, hi, hd => by omega
  | 0, n + 1, i, hi, hd => by rw [f4_l2, if_neg (by omega)]
  | d + 1, n + 1, i, hi, hd => by
    have hl := h.1
    have hi2 := hn.2 i (by omega)
    have ih := f4_l2_eq h c hn d n (i + 1) (by omega) (by omega)
    rw [f4_l2, if_pos (by omega), Nat.min_eq_left (by omega), aw h c (by omega), if_neg (by omega)]
    by_cases q : away l a i = away l a j
    · rw [if_pos q, if_neg (by omega)]
      simp only [Option.bind_some]
      rw [nxt h (by omega), Option.bind_some, suc (by omega)]; exact ih
    · rw [if_neg q]
      simp only [Option.bind_some]
      rw [nxt h (by omega), Option.bind_some, suc (by omega)]; exact ih
theorem can_of {l : List Int} (h : Gap l) {d : Int} {c : Shown} {s : Sight} (c3 : 0 ≤ c.Panel ∧ c.Panel ≤ 20) (hs : Sh l d c s) : f22 s = some true := by
  have hl := h.1
  obtain ⟨f, p, o⟩ := s
  unfold f22
  simp only
  rcases hs with ⟨_, h1, h2⟩ | ⟨_, j, h1, h2⟩
  · simp only at h1 h2
    subst h1
    rw [if_neg (by omega), if_neg (by omega), if_pos rfl]
    cases o
    · have : p = 0 := by rcases h2 with w | ⟨w, _⟩ <;> simp_all
      subst this; rfl
    · rfl
  · injection h1 with e1 e2 e3
    subst e1 e2 e3
    have := h2.1
    rw [if_neg (by omega), if_neg (by omega), if_neg (by omega), if_pos (by omega), if_pos (by omega)]; rfl
theorem f4_eq (x : List Int) (n m : Int) : f4 1000 x n m = some true := by
  obtain ⟨L, c, h1, g, h0, c1, c2, c3⟩ := f11_eq x n
  obtain ⟨t, k1, k2, k3⟩ := f12_eq (x := m) (m := 3) (by decide) (by decide)
  have e : IntKind.i64.wrap (1 + t) = 1 + t := w64 (by omega) (by omega)
  obtain ⟨s, h13, hs⟩ := f13_eq g h0 (c := c) (d := 1 + t) (by omega) c1 c2 c3
  obtain ⟨z, -, h7, h9⟩ := tabOf (can_of g c3 hs)
  have hL := g.1
  unfold f4
  rw [h1, Option.bind_some]
  simp only
  rw [k1, Option.bind_some, e, show f13 1000 L (1 + t) (Shown.mk c.Domain c.Service c.Faulted c.Homing c.At c.Panel) = _ from h13, Option.bind_some]
  simp only
  rw [show f7 (Sight.mk s.Floor s.Panel s.Out) = _ from h7, Option.bind_some]
  simp only
  rw [h9, Option.bind_some]
  simp only [if_true]
  have hv : (if c.Domain = 1 + t then if c.Service = true then if c.Faulted = true then some (true, true, c.Homing, false) else if c.Homing = true then some (true, false, true, false) else some (true, false, false, true) else some (false, c.Faulted, c.Homing, false) else some (c.Service, c.Faulted, c.Homing, false)) = some (c.Service, c.Faulted, c.Homing, decide (c.Domain = 1 + t ∧ c.Service = true ∧ c.Faulted = false ∧ c.Homing = false)) := by
    obtain ⟨cd, cs, cf, ch, ca, cp⟩ := c
    simp only
    by_cases q : cd = 1 + t
    · subst q; cases cs <;> cases cf <;> cases ch <;> simp
    · rw [if_neg q]; simp [q]
  rw [hv]
  simp only [Option.bind_some]
  rcases hs with ⟨q1, q2, q3⟩ | ⟨q1, j, q2, q3⟩
  · rw [decide_eq_false q1, q2]
    simp only [Bool.false_eq_true, if_false]
    rw [if_neg (by decide)]
    by_cases q : s.Panel = 0
    · rw [if_pos q]; rfl
    · rw [if_neg q]
      rcases q3 with w | ⟨w1, w2⟩
      · exact absurd w q
      · rw [w1, if_pos rfl, if_pos w2]; rfl
  · subst q2
    rw [decide_eq_true q1]
    have hj := q3.1
    simp only [if_true, Bool.false_eq_true, if_false]
    have hge : decide ((j : Int) ≥ 0) = true := decide_eq_true (by omega)
    have l1 := f4_l1_eq g c2 hj (L.length + 1) 1000 0 0 (by omega) (by omega) (fun w => absurd w (Nat.not_lt_zero _))
    have l2 := f4_l2_eq g c2 q3 (L.length + 1) 1000 0 (by omega) (by omega)
    rw [Nat.zero_min, ps_zero] at l1 l2
    rw [hge, if_neg (by decide), if_neg (by omega), show f4_l1 L (j : Int) c.At 1000 0 0 0 = _ from l1]
    simp only [Option.bind_some]
    rw [show f4_l2 L (away L c.At j) c.At (j : Int) 1000 0 0 = _ from l2]
    rfl
theorem pure4 : Pure4 := fun x0 x1 x2 _ _ _ => ⟨1000, f4_eq x0 x1 x2⟩
end Go.Proofs.YtenddpplfdgcfaaDoor
