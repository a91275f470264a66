import Derived.Test.YtenddpplfdgcfaaDoorSL
import Derived.Laws.RangeAny
set_option linter.unusedVariables false
set_option linter.unusedSimpArgs false
namespace Go.Proofs.YtenddpplfdgcfaaDoor
open Go Go.Det Go.RowKit
theorem w64 {x : Int} (h1 : -9223372036854775808 ≤ x) (h2 : x ≤ 9223372036854775807) : IntKind.i64.wrap x = x := by rw [IntKind.wrap_i64]; omega
theorem okZ {x : Int} (h : okI .i64 x) : -9223372036854775808 ≤ x ∧ x ≤ 9223372036854775807 := by
  simp [okI, Lit.wf, IntKind.min, IntKind.max, IntKind.signed, IntKind.bits] at h
  omega
/-! All sights that can be shown -/
def sights : List Sight := ((List.range 21).map fun p => (⟨-1, (p : Nat), true⟩ : Sight)) ++ [⟨-1, 0, false⟩] ++ (List.range 64).flatMap fun f => (List.range 21).map fun p => (⟨(f : Nat), (p : Nat), false⟩ : Sight)
theorem canOf {x : Sight} (h : f22 x = some true) : x ∈ sights := by
  obtain ⟨f, p, o⟩ := x
  unfold f22 at h
  simp only at h
  split at h
  · cases h
  · split at h
    · cases h
    · rename_i h1 h2
      split at h
      · rename_i h3
        subst h3
        cases o
        · simp at h
          subst h
          simp [sights]
        · refine List.mem_append_left _ (List.mem_append_left _ (List.mem_map.2 ⟨p.toNat, by simp; omega, ?_⟩))
          simp; omega
      · split at h
        · split at h
          · cases o
            · refine List.mem_append_right _ (List.mem_flatMap.2 ⟨f.toNat, by simp; omega, List.mem_map.2 ⟨p.toNat, by simp; omega, ?_⟩⟩)
              simp; omega
            · simp at h
          · cases h
        · cases h
def tab (y : Sight) : Bool := match f23 1000 y with
  | some t => decide (f7 y = some (t, 0)) && decide (f9 1000 t = some (y, 0)) && decide (f22 y = some true)
  | none => false
theorem tabAll : sights.all tab = true := by kernel_rfl
theorem tabOf {y : Sight} (h : f22 y = some true) : ∃ t, f23 1000 y = some t ∧ f7 y = some (t, 0) ∧ f9 1000 t = some (y, 0) := by
  have := List.all_eq_true.1 tabAll y (canOf h)
  unfold tab at this
  split at this
  · rename_i t ht
    simp only [Bool.and_eq_true, decide_eq_true_eq] at this
    exact ⟨t, ht, this.1.1, this.1.2⟩
  · cases this
theorem f21_22 (x : Sight) : f21 x = f22 x := rfl
theorem f22_some (x : Sight) : ∃ b, f22 x = some b := by
  obtain ⟨f, p, o⟩ := x
  unfold f22
  simp only
  repeat' split
  all_goals exact ⟨_, rfl⟩
theorem f20_some {n : Int} (h1 : -9223372036854775808 ≤ n) (h2 : n ≤ 9223372036854775807) : f20 n = some (Lib.itoa n) := by unfold f20; rw [if_pos ⟨h1, h2⟩]
theorem f7_no {x : Sight} (h1 : -9223372036854775808 ≤ x.Panel) (h2 : x.Panel ≤ 9223372036854775807) (h : f22 x = some false) : f7 x = some ([], 2) := by
  unfold f7
  rw [f20_some h1 h2, Option.bind_some, f21_22, h]; rfl
theorem f7_8 {x : Sight} (h1 : -9223372036854775808 ≤ x.Panel) (h2 : x.Panel ≤ 9223372036854775807) : ∃ r, f7 x = some r ∧ f8 1000 x = some r := by
  obtain ⟨b, hb⟩ := f22_some x
  cases b with
  | false => exact ⟨_, f7_no h1 h2 hb, by unfold f8; rw [hb]; rfl⟩
  | true =>
    obtain ⟨t, h3, h4, -⟩ := tabOf hb
    exact ⟨_, h4, by unfold f8; rw [hb, Option.bind_some, if_pos rfl, h3]; rfl⟩
/-! The reference's search -/
def hit (s : List UInt8) (x : Sight) : Prop := f22 x = some true ∧ f23 1000 x = some s
theorem l3 (s : List UInt8) (f p : Int) : ∀ (d n i : Nat), i + d = 2 → d < n → (∃ x, hit s x ∧ f10_l3 1000 s f p n (i : Int) = some (.inl (x, 0))) ∨ (f10_l3 1000 s f p n (i : Int) = some (.inr ()) ∧ ∀ j, i ≤ j → j < 2 → ¬ hit s ⟨f, p, ((j : Nat) : Int) == 1⟩)
  | d, 0, i, hi, hd => by omega
  | 0, n + 1, i, hi, hd => by
    right
    rw [f10_l3, if_neg (by omega)]
    exact ⟨rfl, fun j h1 h2 => by omega⟩
  | d + 1, n + 1, i, hi, hd => by
    have e : IntKind.i64.wrap ((i : Int) + 1) = ((i + 1 : Nat) : Int) := by rw [w64 (by omega) (by omega)]; omega
    rw [f10_l3, if_pos (by omega), Option.bind_some, e]
    obtain ⟨b, hb⟩ := f22_some ⟨f, p, (i : Int) == 1⟩
    have ih := l3 s f p d n (i + 1) (by omega) (by omega)
    have go : ¬ hit s ⟨f, p, (i : Int) == 1⟩ → (∃ x, hit s x ∧ f10_l3 1000 s f p n ((i + 1 : Nat) : Int) = some (.inl (x, 0))) ∨ (f10_l3 1000 s f p n ((i + 1 : Nat) : Int) = some (.inr ()) ∧ ∀ j, i ≤ j → j < 2 → ¬ hit s ⟨f, p, ((j : Nat) : Int) == 1⟩) := fun hn => by
      rcases ih with h | ⟨h1, h2⟩
      · exact .inl h
      · refine .inr ⟨h1, fun j a b => ?_⟩
        by_cases q : j = i
        · subst q; exact hn
        · exact h2 j (by omega) b
    rw [hb, Option.bind_some]
    cases b with
    | false =>
      rw [if_neg (by decide)]
      exact go fun h => by rw [h.1] at hb; cases hb
    | true =>
      rw [if_pos rfl]
      obtain ⟨t, h3, -, -⟩ := tabOf hb
      rw [h3, Option.bind_some]
      by_cases q : t = s
      · rw [if_pos q]
        exact .inl ⟨_, ⟨hb, by rw [h3, q]⟩, rfl⟩
      · rw [if_neg q]
        exact go fun h => q (by have := h.2; rw [h3] at this; exact Option.some.inj this)
theorem l2 (s : List UInt8) (f : Int) : ∀ (d n i : Nat), i + d = 21 → d < n → (∃ x, hit s x ∧ f10_l2 1000 s f n (i : Int) = some (.inl (x, 0))) ∨ (f10_l2 1000 s f n (i : Int) = some (.inr ()) ∧ ∀ j, i ≤ j → j < 21 → ∀ o, ¬ hit s ⟨f, (j : Nat), o⟩)
  | d, 0, i, hi, hd => by omega
  | 0, n + 1, i, hi, hd => by
    right
    rw [f10_l2, if_neg (by omega)]
    exact ⟨rfl, fun j h1 h2 => by omega⟩
  | d + 1, n + 1, i, hi, hd => by
    have e : IntKind.i64.wrap ((i : Int) + 1) = ((i + 1 : Nat) : Int) := by rw [w64 (by omega) (by omega)]; omega
    rw [f10_l2, if_pos (by omega), e]
    rcases l3 s f (i : Int) 2 1000 0 rfl (by decide) with ⟨x, hx, h⟩ | ⟨h, hno⟩
    · rw [show f10_l3 1000 s f (i : Int) 1000 0 = _ from h]
      exact .inl ⟨x, hx, rfl⟩
    · rw [show f10_l3 1000 s f (i : Int) 1000 0 = _ from h]
      simp only [Option.bind_some]
      rcases l2 s f d n (i + 1) (by omega) (by omega) with h | ⟨h1, h2⟩
      · exact .inl h
      · refine .inr ⟨h1, fun j a b o => ?_⟩
        by_cases q : j = i
        · subst q
          cases o
          · exact hno 0 (by decide) (by decide)
          · exact hno 1 (by decide) (by decide)
        · exact h2 j (by omega) b o
theorem l1 (s : List UInt8) : ∀ (d n i : Nat), i + d = 65 → d < n → (∃ x, hit s x ∧ f10_l1 1000 s n ((i : Int) - 1) = some (.inl (x, 0))) ∨ (f10_l1 1000 s n ((i : Int) - 1) = some (.inr ()) ∧ ∀ j, i ≤ j → j < 65 → ∀ p : Nat, p < 21 → ∀ o, ¬ hit s ⟨(j : Int) - 1, p, o⟩)
  | d, 0, i, hi, hd => by omega
  | 0, n + 1, i, hi, hd => by
    right
    rw [f10_l1, if_neg (by omega)]
    exact ⟨rfl, fun j h1 h2 => by omega⟩
  | d + 1, n + 1, i, hi, hd => by
    have e : IntKind.i64.wrap ((i : Int) - 1 + 1) = ((i + 1 : Nat) : Int) - 1 := by rw [w64 (by omega) (by omega)]; omega
    rw [f10_l1, if_pos (by omega), e]
    rcases l2 s ((i : Int) - 1) 21 1000 0 rfl (by decide) with ⟨x, hx, h⟩ | ⟨h, hno⟩
    · rw [show f10_l2 1000 s ((i : Int) - 1) 1000 0 = _ from h]
      exact .inl ⟨x, hx, rfl⟩
    · rw [show f10_l2 1000 s ((i : Int) - 1) 1000 0 = _ from h]
      simp only [Option.bind_some]
      rcases l1 s d n (i + 1) (by omega) (by omega) with h | ⟨h1, h2⟩
      · exact .inl h
      · refine .inr ⟨h1, fun j a b p hp o => ?_⟩
        by_cases q : j = i
        · subst q; exact hno p (by omega) hp o
        · exact h2 j (by omega) b p hp o
theorem f10_eq (s : List UInt8) : (∃ x, hit s x ∧ f10 1000 s = some (x, 0)) ∨ (f10 1000 s = some (⟨0, 0, false⟩, 3) ∧ ∀ x, ¬ hit s x) := by
  unfold f10
  rcases l1 s 65 1000 0 rfl (by decide) with ⟨x, hx, h⟩ | ⟨h, hno⟩
  · rw [show f10_l1 1000 s 1000 (-1) = _ from h]
    exact .inl ⟨x, hx, rfl⟩
  · rw [show f10_l1 1000 s 1000 (-1) = _ from h]
    refine .inr ⟨rfl, fun x hx => ?_⟩
    have hm := canOf hx.1
    simp only [sights, List.mem_append, List.mem_map, List.mem_flatMap, List.mem_range, List.mem_singleton] at hm
    rcases hm with (⟨p, hp, rfl⟩ | rfl) | ⟨f, hf, p, hp, rfl⟩
    · exact hno 0 (by decide) (by decide) p hp true hx
    · exact hno 0 (by decide) (by decide) 0 (by decide) false hx
    · refine hno (f + 1) (by omega) (by omega) p hp false ?_
      have : ((f + 1 : Nat) : Int) - 1 = (f : Int) := by omega
      rw [this]; exact hx
/-! The reader -/
theorem dec_at {x : List UInt8} {p : Nat} {c : UInt8} (h : x[p]? = some c) : (c.toNat < 128 ∧ decL x p = (c.toNat : Int) ∧ decN x p = 1) ∨ (128 ≤ c.toNat ∧ 128 ≤ decL x p) := by
  have hp : p < x.length := (List.getElem?_eq_some_iff.1 h).1
  have hs : p < (bs x).size := hp
  have hc : (bs x)[p]'hs = c := (List.getElem?_eq_some_iff.1 h).2
  by_cases hl : c.toNat < 128
  · left
    have := decode_ascii (bs x) p hs (by rw [hc]; exact hl)
    unfold decL decN
    rw [this, hc]
    exact ⟨hl, rfl, rfl⟩
  · right
    have := (decode_high (bs x) p hs (by rw [hc]; omega)).1
    unfold decL
    exact ⟨by omega, by omega⟩
theorem f25_loop (s : List UInt8) : ∀ (d n p : Nat), p + d = s.length → d < n → f25_l1 s n p = some (.inl (0, false)) ∨ f25_l1 s n p = some (.inr ())
  | d, 0, p, hp, hd => by omega
  | 0, n + 1, p, hp, hd => by right; rw [f25_l1, if_neg (by omega)]
  | d + 1, n + 1, p, hp, hd => by
    rw [f25_l1, if_pos (by omega)]
    obtain ⟨c, hc⟩ : ∃ c, s[p]? = some c := ⟨_, List.getElem?_eq_getElem (by omega)⟩
    by_cases h : decL s p > 57
    · rw [if_pos h]; exact .inl rfl
    · rw [if_neg h]
      have e : f32 (decL s p) = some (Lib.isDigitL (decL s p)) := by unfold f32; rw [if_pos (by omega)]
      rw [e, Option.bind_some]
      cases Lib.isDigitL (decL s p) with
      | false => exact .inl rfl
      | true =>
        rw [if_pos rfl]
        rcases dec_at hc with ⟨h1, h2, h3⟩ | ⟨h1, h2⟩
        · rw [h3]; exact f25_loop s d n (p + 1) (by omega) (by omega)
        · omega
theorem f25_some {s : List UInt8} (h : s.length ≤ 40) : ∃ n b, f25 1000 s = some (n, b) ∧ -9223372036854775808 ≤ n ∧ n ≤ 9223372036854775807 := by
  unfold f25
  rcases f25_loop s s.length 1000 0 (by omega) (by omega) with h1 | h1
  · rw [h1]; exact ⟨0, false, rfl, by decide, by decide⟩
  · rw [h1, Option.bind_some]
    have : ∃ n b, f33 s = some (n, b) ∧ -9223372036854775808 ≤ n ∧ n ≤ 9223372036854775807 := by
      unfold f33
      rw [if_pos (by omega)]
      rcases ha : Lib.atoiAll s with v | _ | _
      · have := Lib.atoiAll_bounds ha; exact ⟨_, _, rfl, by omega, by omega⟩
      · exact ⟨_, _, rfl, by decide, by decide⟩
      · have := Lib.atoiSat_bounds s; exact ⟨_, _, rfl, by omega, by omega⟩
    obtain ⟨n, b, h2, h3, h4⟩ := this
    simp only [h2, Option.bind_some]
    cases b
    · exact ⟨_, _, rfl, h3, h4⟩
    · exact ⟨_, _, rfl, h3, h4⟩
theorem cut_len (s : List UInt8) : (Lib.cut s [58]).1.length ≤ s.length ∧ (Lib.cut s [58]).2.1.length ≤ s.length := by
  unfold Lib.cut
  split
  · constructor
    · simp; omega
    · simp
  · simp
theorem f9_ends {s : List UInt8} (h : s.length ≤ 40) : (∃ x, f9 1000 s = some (x, 0) ∧ f7 x = some (s, 0)) ∨ f9 1000 s = some (⟨0, 0, false⟩, 3) := by
  unfold f9
  have hc := cut_len s
  have e24 : f24 s [58] = some (Lib.cut s [58]) := by unfold f24; rw [if_pos (by omega)]
  rw [e24, Option.bind_some]
  generalize Lib.cut s [58] = cc at hc
  obtain ⟨a, b, two⟩ := cc
  simp only at hc
  simp only [Option.bind_some]
  obtain ⟨n, is, h1, h2, h3⟩ := f25_some (s := a) (by omega)
  obtain ⟨m, is2, k1, k2, k3⟩ := f25_some (s := b) (by omega)
  have fin : ∀ (v : Int) (ok : Bool), -9223372036854775808 ≤ v → v ≤ 9223372036854775807 → ∀ fl : Int, ∃ r : Sight × Int, ((f7 (Sight.mk fl v (decide (a = [111, 117, 116])))).bind fun (t40_0, t40_1) =>
      if ok then if t40_1 = 0 then if t40_0 = s then some ((Sight.mk fl v (decide (a = [111, 117, 116]))), (0 : Int)) else some ((Sight.mk 0 0 false), 3) else some ((Sight.mk 0 0 false), 3) else some ((Sight.mk 0 0 false), 3)) = some r ∧ ((r.2 = 0 ∧ f7 r.1 = some (s, 0)) ∨ r = (⟨0, 0, false⟩, 3)) := by
    intro v ok v1 v2 fl
    obtain ⟨⟨t, e⟩, q, -⟩ := f7_8 (x := Sight.mk fl v (decide (a = [111, 117, 116]))) v1 v2
    rw [q, Option.bind_some]
    simp only
    cases ok
    · exact ⟨_, rfl, .inr rfl⟩
    · by_cases q1 : e = 0
      · by_cases q2 : t = s
        · exact ⟨_, by rw [if_pos rfl, if_pos q1, if_pos q2], .inl ⟨rfl, by rw [q, q1, q2]⟩⟩
        · exact ⟨_, by rw [if_pos rfl, if_pos q1, if_neg q2], .inr rfl⟩
      · exact ⟨_, by rw [if_pos rfl, if_neg q1], .inr rfl⟩
  have done : ∀ {o : Option (Sight × Int)}, (∃ r : Sight × Int, o = some r ∧ ((r.2 = 0 ∧ f7 r.1 = some (s, 0)) ∨ r = (⟨0, 0, false⟩, 3))) → (∃ x, o = some (x, 0) ∧ f7 x = some (s, 0)) ∨ o = some (⟨0, 0, false⟩, 3) := by
    rintro o ⟨⟨x, e⟩, q, ⟨q1, q2⟩ | q1⟩
    · simp only at q1 q2; subst q1; exact .inl ⟨x, q, q2⟩
    · rw [q1] at q; exact .inr q
  cases two
  · simp only [Bool.false_eq_true, if_false, Option.bind_some, h1]
    cases is
    · exact done (fin 0 true (by decide) (by decide) _)
    · exact done (fin 0 true (by decide) (by decide) _)
  · simp only [if_true, Option.bind_some, h1, k1]
    cases is
    · exact done (fin m is2 k2 k3 _)
    · exact done (fin m is2 k2 k3 _)
theorem f9_10 {s : List UInt8} (h : s.length ≤ 40) : ∃ r, f9 1000 s = some r ∧ f10 1000 s = some r := by
  rcases f10_eq s with ⟨x, hx, e⟩ | ⟨e, hno⟩
  · obtain ⟨t, h1, -, h3⟩ := tabOf hx.1
    rw [hx.2] at h1
    cases h1
    exact ⟨_, h3, e⟩
  · rcases f9_ends h with ⟨x, h1, h2⟩ | h1
    · exfalso
      obtain ⟨b, hb⟩ := f22_some x
      cases b with
      | true =>
        obtain ⟨t, h3, h4, -⟩ := tabOf hb
        rw [h2] at h4
        cases h4
        exact hno x ⟨hb, h3⟩
      | false =>
        unfold f7 at h2
        cases h20 : f20 x.Panel with
        | none => rw [h20] at h2; cases h2
        | some z =>
          rw [h20, Option.bind_some, f21_22, show f22 (Sight.mk x.Floor x.Panel x.Out) = some false from hb] at h2
          simp at h2
    · exact ⟨_, h1, e⟩
theorem f3_eq {x : Sight} (hx : ok23 x) (s : List UInt8) : f3 1000 x s = some true := by
  unfold f3
  by_cases h : (s.length : Int) > 40
  · rw [if_pos h]; rfl
  · rw [if_neg h]
    have hz := okZ hx.2.1
    obtain ⟨⟨a, b⟩, h1, h2⟩ := f7_8 (x := Sight.mk x.Floor x.Panel x.Out) hz.1 hz.2
    obtain ⟨⟨c, d⟩, h3, h4⟩ := f9_10 (s := s) (by omega)
    rw [h1, h2, h3, h4]
    simp only [Option.bind_some, if_true]
    rfl
theorem pure3 : Pure3 := fun x0 x1 h0 _ => ⟨1000, f3_eq h0 x1⟩
end Go.Proofs.YtenddpplfdgcfaaDoor
