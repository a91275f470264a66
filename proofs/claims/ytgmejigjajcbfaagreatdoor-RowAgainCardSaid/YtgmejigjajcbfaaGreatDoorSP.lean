import Derived.Test.YtgmejigjajcbfaaGreatDoorSF
import Derived.Lib.AtoiTie
import Derived.Lib.Split
import Derived.Lib.ItoaLen
import Derived.Lib.Join
import Derived.Test.YtgmejigjajcbfaaGreatDoorD52
import Derived.Test.YtgmejigjajcbfaaGreatDoorRows
import Derived.Shelf.Vars
import Derived.Lay
import Derived.Stop.Joined
import Derived.Stop.LaidErr
set_option linter.unusedVariables false
set_option linter.unusedSimpArgs false
namespace Go.Proofs.YtgmejigjajcbfaaGreatDoor
open Go Go.Det Go.RowKit
/-- The length of the rune from 160 on with which a text begins. -/
def longS : List UInt8 → Nat
  | [] => 0
  | b :: t => if 160 ≤ (Lib.decodeL (b :: t)).1 ∧ 2 ≤ (Lib.decodeL (b :: t)).2 then (Lib.decodeL (b :: t)).2 else 0
theorem sub_to {l : List UInt8} {n : Nat} (h : n ≤ l.length) : sub l 0 (n : Int) = some (l.take n) := by
  unfold sub
  rw [if_pos ⟨by omega, by omega, by omega⟩]
  simp
theorem f40_eq (k : Nat) (l : List UInt8) : f40 (k + 1) l = some (longS l : Int) := by
  unfold f40
  rw [f40_l1]
  cases l with
  | nil => rfl
  | cons b t =>
    rw [if_pos (by simp)]
    simp only [decL_eq, List.drop_zero, Option.bind_some]
    cases shape b t with
    | a h e =>
      rw [e]
      rw [if_neg (by simp only; omega)]
      simp only [longS, e, Option.bind_some]
      rw [if_neg (by omega)]; rfl
    | b r n h e h1 h2 h3 h4 h5 h6 h7 h8 =>
      rw [e]
      simp only [longS, e]
      by_cases q : 160 ≤ r
      · rw [if_pos (by omega), h7, List.length_take, Nat.min_eq_left h3, if_pos (by omega), sub_to h3]
        simp only [Option.bind_some, if_true]
        rw [if_pos ⟨q, h1⟩]
      · rw [if_neg (by omega), if_neg (by omega)]; rfl
    | c h e h1 =>
      rw [e]
      simp only [longS, e]
      rw [if_pos (show ((65533 : Nat) : Int) ≥ 160 by omega), if_neg (show ¬ (160 ≤ 65533 ∧ 2 ≤ 1) by omega)]
      have e3 : encR ((65533 : Nat) : Int) = [239, 191, 189] := rfl
      rw [e3]
      by_cases q : (([239, 191, 189] : List UInt8).length : Int) ≤ ((b :: t).length : Int)
      · rw [if_pos q]
        have hl : 3 ≤ (b :: t).length := by simp only [List.length_cons, List.length_nil] at q ⊢; omega
        rw [show ((([239, 191, 189] : List UInt8).length : Nat) : Int) = ((3 : Nat) : Int) from rfl, sub_to hl]
        simp only [Option.bind_some]
        rw [if_neg h1]; rfl
      · rw [if_neg q]; rfl
theorem all256 {P : Nat → Bool} (h : (List.range 256).all P = true) (b : UInt8) : P b.toNat = true :=
  List.all_eq_true.1 h _ (List.mem_range.2 b.toNat_lt)
theorem sub_all {s : List UInt8} {p : Nat} (h : p ≤ s.length) : sub s (p : Int) (s.length : Int) = some (s.drop p) := by
  unfold sub
  rw [if_pos ⟨by omega, by omega, by omega⟩]
  simp only [Int.toNat_natCast]
  rw [List.take_of_length_le (by rw [List.length_drop]; omega)]
theorem sub_mid {s : List UInt8} {p n : Nat} (h : p + n ≤ s.length) : sub s (p : Int) ((p + n : Nat) : Int) = some ((s.drop p).take n) := by
  unfold sub
  rw [if_pos ⟨by omega, by omega, by omega⟩]
  simp only [Int.toNat_natCast]
  rw [Nat.add_sub_cancel_left]
theorem wr64 {p n : Nat} (h : p + n < 1000000) : IntKind.i64.wrap ((p : Int) + (n : Int)) = ((p + n : Nat) : Int) := by
  rw [w64 (by omega) (by omega)]; omega
theorem sc {a b : List UInt8} (h : a.length + b.length < 1000000) : scat a b = some (a ++ b) := if_pos (by omega)
theorem ap1 {α : Type} {a b : List α} (h : a.length + b.length < 1000000) : apd 1 a b = some (a ++ b) := if_pos (by omega)
theorem f41_eq (x : Int) : f41 x = some (decide (32 ≤ x ∧ x ≤ 126 ∧ x ≠ 34 ∧ x ≠ 92)) := by
  unfold f41
  simp only [Option.bind_some, ge_iff_le]
  split
  · split
    · split
      · simp; omega
      · congr 1
        rw [Bool.eq_iff_iff]
        simp; omega
    · simp; omega
  · simp; omega
theorem longS_le (b : UInt8) (t : List UInt8) : longS (b :: t) ≤ (b :: t).length := by
  have := Lib.decodeL_le (b :: t) (by simp)
  simp only [longS]
  split <;> omega
theorem f37_eq (r n : Int) : f37 r n = some (decide (r ≠ 34 ∧ r ≠ 92 ∧ (n = 1 → 32 ≤ r ∧ r ≤ 126) ∧ (n ≠ 1 → 160 ≤ r))) := by
  unfold f37
  simp only [Option.bind_some, ge_iff_le]
  repeat' split
  all_goals first | (simp; omega) | (congr 1; rw [Bool.eq_iff_iff]; simp; omega)
theorem c7_of {b : UInt8} (h : b.toNat < 128) : c7 ((b.toNat : Nat) : Int) = some b := by
  unfold c7
  rw [if_pos (by omega)]
  simp
theorem f35_of {l : List UInt8} (h : l ≠ []) : f35 l = some (((Lib.decodeL l).1 : Int), ((Lib.decodeL l).2 : Int)) := by
  unfold f35; rw [go_eq h]
theorem longS_cont {c : UInt8} {u : List UInt8} (h1 : 128 ≤ c.toNat) (h2 : c.toNat < 194) : longS (c :: u) = 0 := by
  cases shape c u with
  | a h e => omega
  | b r n h e => omega
  | c h e h1 => simp only [longS, e]; rfl
/-! Reading what is quoted -/
def digOk (x : Nat) : Bool := match f70 (x : Int), f57 4000 (x : Int) with
  | some (v, ok), some w => if ok then decide (v = w ∧ 0 ≤ w ∧ w < 16) else decide (w < 0)
  | _, _ => false
theorem dig (b : UInt8) : ∃ v ok w, f70 ((b.toNat : Nat) : Int) = some (v, ok) ∧ f57 4000 ((b.toNat : Nat) : Int) = some w ∧ (ok = true → v = w ∧ 0 ≤ w ∧ w < 16) ∧ (ok = false → w < 0) := by
  have h : digOk b.toNat = true := all256 (P := digOk) (by kernel_rfl) b
  unfold digOk at h
  split at h
  · rename_i v ok w e1 e2
    refine ⟨v, ok, w, e1, e2, ?_, ?_⟩
    · rintro rfl; simpa using h
    · rintro rfl; simpa using h
  · cases h
def hexOk (x : Nat) : Bool := match c8 (bits .or .u8 (gshl .u8 ((x / 16 : Nat) : Int) 4) ((x % 16 : Nat) : Int)) with
  | some u => decide (b8 [IntKind.u8.wrap (IntKind.i64.wrap ((IntKind.i64.wrap (16 * ((x / 16 : Nat) : Int))) + ((x % 16 : Nat) : Int)))] = [u])
  | none => false
theorem hexv {a b : Int} (a0 : 0 ≤ a) (a1 : a < 16) (b0 : 0 ≤ b) (b1 : b < 16) : ∃ u, c8 (bits .or .u8 (gshl .u8 a 4) b) = some u ∧ b8 [IntKind.u8.wrap (IntKind.i64.wrap ((IntKind.i64.wrap (16 * a)) + b))] = [u] := by
  have hall : (List.range 256).all hexOk = true := by kernel_rfl
  have h : hexOk (16 * a.toNat + b.toNat) = true := List.all_eq_true.1 hall _ (List.mem_range.2 (by omega))
  unfold hexOk at h
  rw [show (16 * a.toNat + b.toNat) / 16 = a.toNat by omega, show (16 * a.toNat + b.toNat) % 16 = b.toNat by omega, show ((a.toNat : Nat) : Int) = a by omega, show ((b.toNat : Nat) : Int) = b by omega] at h
  split at h
  · rename_i u e
    exact ⟨u, e, of_decide_eq_true h⟩
  · cases h
theorem f56_q {c : UInt8} {u : List UInt8} (h : c.toNat = 34 ∨ c.toNat = 92) : f56 (c :: u) = some (((c.toNat : Nat) : Int), 1) := by
  unfold f56
  rw [if_neg (by simp)]
  have hr : rd (c :: u) 0 = some c := rfl
  simp only [hr, Option.bind_some]
  by_cases q : c.toNat = 34
  · rw [if_pos (by omega)]
  · rw [if_neg (by omega), if_pos (by omega)]
theorem f56_no {c : UInt8} {u : List UInt8} (h1 : c.toNat ≠ 34) (h2 : c.toNat ≠ 92) (h3 : c.toNat ≠ 120) : f56 (c :: u) = some (0, 0) := by
  unfold f56
  rw [if_neg (by simp)]
  have hr : rd (c :: u) 0 = some c := rfl
  simp only [hr, Option.bind_some]
  rw [if_neg (by omega), if_neg (by omega), if_neg (by omega)]
theorem f56_short {c : UInt8} {u : List UInt8} (h : c.toNat = 120) (hl : (c :: u).length < 3) : f56 (c :: u) = some (0, 0) := by
  unfold f56
  rw [if_neg (by simp)]
  have hr : rd (c :: u) 0 = some c := rfl
  simp only [hr, Option.bind_some]
  rw [if_neg (by omega), if_neg (by omega), if_pos (by omega), if_pos (by omega)]
theorem f56_x {c d e : UInt8} {u : List UInt8} (h : c.toNat = 120) {v1 v2 : Int} {o1 o2 : Bool} (h1 : f70 ((d.toNat : Nat) : Int) = some (v1, o1)) (h2 : f70 ((e.toNat : Nat) : Int) = some (v2, o2)) :
    f56 (c :: d :: e :: u) = some (if o1 = true ∧ o2 = true then (bits .or .u8 (gshl .u8 v1 4) v2, 3) else (0, 0)) := by
  unfold f56
  rw [if_neg (by simp)]
  have hr : rd (c :: d :: e :: u) 0 = some c := rfl
  have hr1 : rd (c :: d :: e :: u) 1 = some d := rfl
  have hr2 : rd (c :: d :: e :: u) 2 = some e := rfl
  simp only [hr, hr1, hr2, h1, h2, Option.bind_some]
  rw [if_neg (by omega), if_neg (by omega), if_pos (by omega), if_neg (by simp; omega)]
  cases o1 <;> cases o2 <;> rfl
theorem f37_1 (x : Int) : f37 x ((1 : Nat) : Int) = some (decide (32 ≤ x ∧ x ≤ 126 ∧ x ≠ 34 ∧ x ≠ 92)) := by
  rw [f37_eq]
  congr 1
  rw [Bool.eq_iff_iff]
  simp; omega
theorem f37_m {x : Int} {m : Nat} (h : m ≠ 1) (hx : 128 ≤ x) : f37 x (m : Int) = some (decide (160 ≤ x)) := by
  rw [f37_eq]
  congr 1
  rw [Bool.eq_iff_iff, decide_eq_true_eq, decide_eq_true_eq]
  constructor
  · rintro ⟨_, _, _, k⟩; exact k (by omega)
  · intro k; exact ⟨by omega, by omega, fun q => by omega, fun _ => k⟩
def ou {α : Type} : (List UInt8 × Int) ⊕ α → List UInt8 × Int
  | .inl st => st
  | .inr _ => ([], 0)
theorem unq_loop (s : List UInt8) (hs : s.length ≤ 1000) : ∀ (n : Nat) (acc : List UInt8) (p : Nat), p ≤ s.length → s.length < n + p → acc.length ≤ p → ∃ x y, f31_l1 s n acc (p : Int) = some x ∧ f32_l1 4000 s n acc (p : Int) = some y ∧ ou x = ou y ∧ 0 ≤ (ou x).2 ∧ (ou x).2 ≤ (s.length : Int) ∧ (ou x).1.length ≤ s.length
  | 0, acc, p, h1, h2, h3 => by omega
  | n + 1, acc, p, h1, h2, h3 => by
    rw [f31_l1, f32_l1]
    by_cases hp : p < s.length
    · rw [if_pos (by omega), if_pos (by omega)]
      obtain ⟨b, hb⟩ : ∃ b, s[p]? = some b := ⟨s[p], List.getElem?_eq_getElem hp⟩
      have hd : s.drop p = b :: s.drop (p + 1) := by
        obtain ⟨hl, e⟩ := List.getElem?_eq_some_iff.1 hb
        rw [List.drop_eq_getElem_cons hl, e]
      have hlen : (b :: s.drop (p + 1)).length = s.length - p := by rw [← hd, List.length_drop]
      have hr : rd s (p : Int) = some b := by rw [rd_nat]; exact hb
      have h1' : IntKind.i64.wrap ((p : Int) + 1) = ((p + 1 : Nat) : Int) := wr64 (n := 1) (by omega)
      have h2' : IntKind.i64.wrap ((p : Int) + 2) = ((p + 2 : Nat) : Int) := wr64 (n := 2) (by omega)
      have h3' : IntKind.i64.wrap ((p : Int) + 3) = ((p + 3 : Nat) : Int) := wr64 (n := 3) (by omega)
      have h4' : IntKind.i64.wrap ((p : Int) + 4) = ((p + 4 : Nat) : Int) := wr64 (n := 4) (by omega)
      have hs1 : sub s (p : Int) ((p + 1 : Nat) : Int) = some [b] := by rw [sub_mid (by omega), hd]; rfl
      have hget : ∀ m, rd s ((p + 1 + m : Nat) : Int) = (s.drop (p + 1))[m]? := by intro m; rw [rd_nat, List.getElem?_drop]
      have hb256 := b.toNat_lt
      rw [sub_all h1]
      have hsa := sub_all (s := s) (p := p + 1) (by omega)
      simp only [Option.bind_some, f40_eq 3999, hd, hr, h1', h2', h3', h4', hsa, f41_eq, f35_of (List.cons_ne_nil _ _)]
      have ih := unq_loop s hs n
      generalize hT : s.drop (p + 1) = t at *
      have z0 : ¬ (((0 : Nat) : Int) > 0) := by omega
      cases shape b t with
      | a h e =>
        have hl0 : longS (b :: t) = 0 := by simp only [longS, e]; rw [if_neg (by omega)]
        simp only [e, hl0, z0, if_false, f37_1, Option.bind_some]
        by_cases q1 : b.toNat = 34
        · have c1 : ((b.toNat : Nat) : Int) = 34 := by omega
          simp only [c1, if_true]
          rw [ap1 (by simp; omega)]
          exact ⟨_, _, rfl, rfl, rfl, by simp only [ou]; omega, by simp only [ou]; omega, by simp [ou]; try omega⟩
        · have c1 : ¬ ((b.toNat : Nat) : Int) = 34 := by omega
          simp only [c1, if_false]
          by_cases q2 : b.toNat = 92
          · have c2 : ((b.toNat : Nat) : Int) = 92 := by omega
            have c3 : decide (32 ≤ ((b.toNat : Nat) : Int) ∧ ((b.toNat : Nat) : Int) ≤ 126 ∧ ((b.toNat : Nat) : Int) ≠ 34 ∧ ((b.toNat : Nat) : Int) ≠ 92) = false := by rw [decide_eq_false_iff_not]; omega
            simp only [c3, Bool.false_eq_true, if_false, c2, if_true]
            have hpl : p + 1 + t.length = s.length := by simp only [List.length_cons] at hlen; omega
            cases t with
            | nil =>
              have c4 : ((p + 1 : Nat) : Int) = (s.length : Int) := by simp at hpl; omega
              simp only [c4, if_true]
              exact ⟨_, _, rfl, rfl, rfl, by simp only [ou]; omega, by simp only [ou]; omega, by simp [ou]; try omega⟩
            | cons c u =>
              simp only [List.length_cons] at hpl
              have c4 : ¬ ((p + 1 : Nat) : Int) = (s.length : Int) := by omega
              have g0 : rd s ((p + 1 : Nat) : Int) = some c := hget 0
              have hc256 := c.toNat_lt
              simp only [c4, if_false, g0, Option.bind_some]
              have hs2 : sub s ((p + 1 : Nat) : Int) ((p + 2 : Nat) : Int) = some [c] := by
                rw [show (p + 2 : Nat) = (p + 1) + 1 from rfl, sub_mid (by omega), hT]; rfl
              have w2 : IntKind.i64.wrap ((p : Int) + IntKind.i64.wrap (1 + 1)) = ((p + 2 : Nat) : Int) := h2'
              have c8c : c8 ((c.toNat : Nat) : Int) = some c := by unfold c8; rw [if_pos (by omega)]; simp
              have n1 : ¬ ((1 : Int) = 0) := by omega
              by_cases q3 : c.toNat = 34
              · have d1 : ((c.toNat : Nat) : Int) = 34 := by omega
                rw [f56_q (.inl q3)]
                simp only [Option.bind_some, n1, if_false, c8c, w2]
                simp only [d1, if_true, hs2, Option.bind_some]
                rw [ap1 (by simp; omega), sc (by simp; omega)]
                exact ih _ (p + 2) (by omega) (by omega) (by simp; omega)
              · by_cases q4 : c.toNat = 92
                · have d1 : ¬ ((c.toNat : Nat) : Int) = 34 := by omega
                  have d2 : ((c.toNat : Nat) : Int) = 92 := by omega
                  rw [f56_q (.inr q4)]
                  simp only [Option.bind_some, n1, if_false, c8c, w2]
                  simp only [d1, if_false, d2, if_true, hs2, Option.bind_some]
                  rw [ap1 (by simp; omega), sc (by simp; omega)]
                  exact ih _ (p + 2) (by omega) (by omega) (by simp; omega)
                · have d1 : ¬ ((c.toNat : Nat) : Int) = 34 := by omega
                  have d2 : ¬ ((c.toNat : Nat) : Int) = 92 := by omega
                  simp only [d1, d2, if_false]
                  by_cases q5 : c.toNat = 120
                  · have d3 : ((c.toNat : Nat) : Int) = 120 := by omega
                    simp only [d3, if_true]
                    by_cases q6 : (c :: u).length < 3
                    · have d4 : ((p + 3 : Nat) : Int) ≥ (s.length : Int) := by simp only [List.length_cons] at q6; omega
                      rw [f56_short q5 q6]
                      simp only [d4, if_true, Option.bind_some]
                      exact ⟨_, _, rfl, rfl, rfl, by simp only [ou]; omega, by simp only [ou]; omega, by simp [ou]; try omega⟩
                    · obtain ⟨d, e', u', rfl⟩ : ∃ d e' u', u = d :: e' :: u' := by
                        rcases u with _ | ⟨d, _ | ⟨e', u'⟩⟩
                        · simp at q6
                        · simp at q6
                        · exact ⟨_, _, _, rfl⟩
                      simp only [List.length_cons] at hpl
                      have d4 : ¬ ((p + 3 : Nat) : Int) ≥ (s.length : Int) := by omega
                      have g1 : rd s ((p + 2 : Nat) : Int) = some d := hget 1
                      have g2 : rd s ((p + 3 : Nat) : Int) = some e' := hget 2
                      obtain ⟨v1, o1, w1, k1, k2, k3, k4⟩ := dig d
                      obtain ⟨v2, o2, w2', m1, m2, m3, m4⟩ := dig e'
                      rw [f56_x q5 k1 m1]
                      simp only [d4, if_false, g1, g2, k2, m2, Option.bind_some]
                      cases o1 with
                      | false =>
                        have l1 : w1 < 0 := k4 rfl
                        simp only [l1, if_true, Bool.false_eq_true, false_and, if_false]
                        exact ⟨_, _, rfl, rfl, rfl, by simp only [ou]; omega, by simp only [ou]; omega, by simp [ou]; try omega⟩
                      | true =>
                        obtain ⟨rfl, b1, b2⟩ := k3 rfl
                        have l1 : ¬ v1 < 0 := by omega
                        simp only [l1, if_false]
                        cases o2 with
                        | false =>
                          have l2 : w2' < 0 := m4 rfl
                          simp only [l2, if_true, Bool.false_eq_true, and_false, if_false]
                          exact ⟨_, _, rfl, rfl, rfl, by simp only [ou]; omega, by simp only [ou]; omega, by simp [ou]; try omega⟩
                        | true =>
                          obtain ⟨rfl, b3, b4⟩ := m3 rfl
                          have l2 : ¬ v2 < 0 := by omega
                          obtain ⟨x, x1, x2⟩ := hexv b1 b2 b3 b4
                          have n3 : ¬ ((3 : Int) = 0) := by omega
                          have w4 : IntKind.i64.wrap ((p : Int) + IntKind.i64.wrap (1 + 3)) = ((p + 4 : Nat) : Int) := h4'
                          simp only [l2, if_false, and_self, if_true, n3, x1, x2, w4, Option.bind_some]
                          rw [ap1 (by simp; omega), sc (by simp; omega)]
                          exact ih _ (p + 4) (by omega) (by omega) (by simp; omega)
                  · have d3 : ¬ ((c.toNat : Nat) : Int) = 120 := by omega
                    rw [f56_no q3 q4 q5]
                    simp only [d3, if_false, Option.bind_some]
                    exact ⟨_, _, rfl, rfl, rfl, by simp only [ou]; omega, by simp only [ou]; omega, by simp [ou]; try omega⟩
          · have c2 : ¬ ((b.toNat : Nat) : Int) = 92 := by omega
            simp only [c2, if_false]
            have w1 : IntKind.i64.wrap ((p : Int) + ((1 : Nat) : Int)) = ((p + 1 : Nat) : Int) := h1'
            simp only [w1, hs1, Option.bind_some]
            by_cases q3 : 32 ≤ b.toNat ∧ b.toNat ≤ 126
            · have c3 : decide (32 ≤ ((b.toNat : Nat) : Int) ∧ ((b.toNat : Nat) : Int) ≤ 126 ∧ ((b.toNat : Nat) : Int) ≠ 34 ∧ ((b.toNat : Nat) : Int) ≠ 92) = true := by rw [decide_eq_true_eq]; omega
              simp only [c3, if_true]
              rw [ap1 (by simp; omega), sc (by simp; omega)]
              exact ih _ (p + 1) (by omega) (by omega) (by simp; omega)
            · have c3 : decide (32 ≤ ((b.toNat : Nat) : Int) ∧ ((b.toNat : Nat) : Int) ≤ 126 ∧ ((b.toNat : Nat) : Int) ≠ 34 ∧ ((b.toNat : Nat) : Int) ≠ 92) = false := by rw [decide_eq_false_iff_not]; omega
              simp only [c3, Bool.false_eq_true, if_false]
              exact ⟨_, _, rfl, rfl, rfl, by simp only [ou]; omega, by simp only [ou]; omega, by simp [ou]; try omega⟩
      | b r m h e h1 h2 h3 h4 h5 h6 h7 h8 =>
        have c1 : ¬ ((b.toNat : Nat) : Int) = 34 := by omega
        have c2 : ¬ ((b.toNat : Nat) : Int) = 92 := by omega
        have r1 : ¬ ((r : Nat) : Int) = 34 := by omega
        have r2 : ¬ ((r : Nat) : Int) = 92 := by omega
        have c3 : decide (32 ≤ ((b.toNat : Nat) : Int) ∧ ((b.toNat : Nat) : Int) ≤ 126 ∧ ((b.toNat : Nat) : Int) ≠ 34 ∧ ((b.toNat : Nat) : Int) ≠ 92) = false := by rw [decide_eq_false_iff_not]; omega
        simp only [e, c1, c2, r1, r2, c3, if_false, Bool.false_eq_true]
        rw [f37_m (by omega) (by omega)]
        simp only [Option.bind_some]
        by_cases q : 160 ≤ r
        · have hl0 : longS (b :: t) = m := by simp only [longS, e]; rw [if_pos ⟨q, h1⟩]
          have z1 : ((m : Nat) : Int) > 0 := by omega
          have z2 : decide (160 ≤ ((r : Nat) : Int)) = true := by rw [decide_eq_true_eq]; omega
          simp only [hl0, z1, z2, if_true]
          rw [wr64 (by omega), sub_mid (by omega), hd]
          simp only [Option.bind_some]
          rw [ap1 (by rw [List.length_take]; omega), sc (by rw [List.length_take]; omega)]
          exact ih _ (p + m) (by omega) (by omega) (by rw [List.length_append, List.length_take]; omega)
        · have hl0 : longS (b :: t) = 0 := by simp only [longS, e]; rw [if_neg (by omega)]
          have z2 : decide (160 ≤ ((r : Nat) : Int)) = false := by rw [decide_eq_false_iff_not]; omega
          simp only [hl0, z0, z2, if_false, Bool.false_eq_true]
          exact ⟨_, _, rfl, rfl, rfl, by simp only [ou]; omega, by simp only [ou]; omega, by simp [ou]; try omega⟩
      | c h e h1 =>
        have hl0 : longS (b :: t) = 0 := by simp only [longS, e]; rfl
        have c1 : ¬ ((b.toNat : Nat) : Int) = 34 := by omega
        have c2 : ¬ ((b.toNat : Nat) : Int) = 92 := by omega
        have r1 : ¬ ((65533 : Nat) : Int) = 34 := by omega
        have r2 : ¬ ((65533 : Nat) : Int) = 92 := by omega
        have c3 : decide (32 ≤ ((b.toNat : Nat) : Int) ∧ ((b.toNat : Nat) : Int) ≤ 126 ∧ ((b.toNat : Nat) : Int) ≠ 34 ∧ ((b.toNat : Nat) : Int) ≠ 92) = false := by rw [decide_eq_false_iff_not]; omega
        have c5 : decide (32 ≤ ((65533 : Nat) : Int) ∧ ((65533 : Nat) : Int) ≤ 126 ∧ ((65533 : Nat) : Int) ≠ 34 ∧ ((65533 : Nat) : Int) ≠ 92) = false := by rw [decide_eq_false_iff_not]; omega
        simp only [e, hl0, z0, c1, c2, r1, r2, c3, c5, f37_1, if_false, Bool.false_eq_true, Option.bind_some]
        exact ⟨_, _, rfl, rfl, rfl, by simp only [ou]; omega, by simp only [ou]; omega, by simp [ou]; try omega⟩
    · rw [if_neg (by omega), if_neg (by omega)]
      exact ⟨_, _, rfl, rfl, rfl, by simp only [ou]; omega, by simp only [ou]; omega, by simp [ou]; try omega⟩
def letB (r : Int) : Bool := decide (97 ≤ r ∧ r ≤ 122 ∨ 65 ≤ r ∧ r ≤ 90)
def goodB (r : Int) : Bool := letB r || decide (r = 45 ∨ 48 ≤ r ∧ r ≤ 57)
theorem f42_eq (r : Int) : f42 r = some (letB r) := by
  unfold f42 letB
  simp only [Option.bind_some, ge_iff_le]
  split
  · split
    · simp; omega
    · split
      · congr 1; rw [decide_eq_decide]; omega
      · simp; omega
  · split
    · congr 1; rw [decide_eq_decide]; omega
    · simp; omega
theorem f43_eq (r : Int) : f43 r = some (letB r) := f42_eq r
theorem f44_eq (r : Int) : f44 r = some (decide (48 ≤ r ∧ r ≤ 57)) := by
  unfold f44
  simp only [Option.bind_some, ge_iff_le]
  split
  · congr 1; rw [decide_eq_decide]; omega
  · simp; omega
def allG (s : List UInt8) : Bool := s.all fun b => goodB (b.toNat : Int)
theorem drop_cons {s : List UInt8} {p : Nat} {b : UInt8} (h : s[p]? = some b) : s.drop p = b :: s.drop (p + 1) := by
  obtain ⟨hl, e⟩ := List.getElem?_eq_some_iff.1 h
  rw [List.drop_eq_getElem_cons hl, e]
theorem f16_loop (s : List UInt8) : ∀ (n p : Nat), p ≤ s.length → s.length < n + p →
    f16_l1 s n p = some (if allG (s.drop p) = true ∧ (p = 0 → ∀ b, s[0]? = some b → letB (b.toNat : Int) = true) then .inr () else .inl false)
  | 0, p, h1, h2 => by omega
  | n + 1, p, h1, h2 => by
    rw [f16_l1]
    by_cases hp : p < s.length
    · rw [if_pos hp]
      obtain ⟨b, hb⟩ : ∃ b, s[p]? = some b := ⟨s[p], List.getElem?_eq_getElem hp⟩
      have hd := drop_cons hb
      have hall : allG (s.drop p) = (goodB (b.toNat : Int) && allG (s.drop (p + 1))) := by rw [hd]; rfl
      have hb256 : b.toNat < 256 := UInt8.toNat_lt b
      simp only [f42_eq, Option.bind_some]
      by_cases h7 : b.toNat < 128
      · obtain ⟨e1, e2⟩ := dec_asc hb h7
        rw [e1, e2, f16_loop s n (p + 1) (by omega) (by omega), hall]
        by_cases hL : letB (b.toNat : Int) = true
        · rw [if_pos hL]
          have hg : goodB (b.toNat : Int) = true := by unfold goodB; rw [hL]; rfl
          have h0 : (p = 0 → ∀ b, s[0]? = some b → letB (b.toNat : Int) = true) := by
            rintro rfl c hc; rw [hb] at hc; cases hc; exact hL
          simp [hg, h0]
          congr 1
          simp [h0]
          intro q; exact h0
        · rw [if_neg hL]
          by_cases hp0 : p = 0
          · subst hp0
            rw [if_pos (by simp)]
            rw [if_neg]
            rintro ⟨_, k⟩
            exact hL (k rfl b hb)
          · rw [if_neg (by omega)]
            have hgd : goodB (b.toNat : Int) = decide ((b.toNat : Int) = 45 ∨ 48 ≤ (b.toNat : Int) ∧ (b.toNat : Int) ≤ 57) := by
              unfold goodB; rw [Bool.not_eq_true] at hL; rw [hL]; rfl
            rw [hgd]
            by_cases h45 : (b.toNat : Int) = 45
            · simp [h45, hp0]
            · rw [if_neg h45]
              by_cases h48 : (b.toNat : Int) < 48
              · rw [if_pos h48, if_neg]
                rintro ⟨k, _⟩
                simp only [Bool.and_eq_true, decide_eq_true_eq] at k
                omega
              · rw [if_neg h48]
                by_cases h57 : (b.toNat : Int) > 57
                · rw [if_pos h57, if_neg]
                  rintro ⟨k, _⟩
                  simp only [Bool.and_eq_true, decide_eq_true_eq] at k
                  omega
                · rw [if_neg h57]
                  have : decide ((b.toNat : Int) = 45 ∨ 48 ≤ (b.toNat : Int) ∧ (b.toNat : Int) ≤ 57) = true := by
                    rw [decide_eq_true_eq]; omega
                  rw [this]
                  simp [hp0]
      · have e1 := dec_big hb (by omega)
        have hL : letB (decL s p) = false := by unfold letB; rw [decide_eq_false_iff_not]; omega
        have hgd : goodB (b.toNat : Int) = false := by
          unfold goodB letB
          rw [Bool.or_eq_false_iff, decide_eq_false_iff_not, decide_eq_false_iff_not]
          omega
        rw [hL, hall, hgd]
        simp only [Bool.false_eq_true, if_false, Bool.false_and, false_and]
        split
        · rfl
        · rw [if_neg (by omega), if_neg (by omega), if_pos (by omega)]
    · rw [if_neg hp]
      have : s.drop p = [] := List.drop_eq_nil_of_le (by omega)
      rw [this, if_pos]
      refine ⟨rfl, ?_⟩
      rintro rfl b hb
      have : s = [] := List.length_eq_zero_iff.1 (by omega)
      subst this
      simp at hb
theorem f17_loop (s : List UInt8) (hs : s.length ≤ 1000) : ∀ (n p : Nat), p ≤ s.length → s.length < n + p →
    f17_l1 s n (p : Int) = some (if allG (s.drop p) = true then .inr () else .inl false)
  | 0, p, h1, h2 => by omega
  | n + 1, p, h1, h2 => by
    rw [f17_l1]
    by_cases hp : p < s.length
    · rw [if_pos (by omega)]
      obtain ⟨b, hb⟩ : ∃ b, s[p]? = some b := ⟨s[p], List.getElem?_eq_getElem hp⟩
      have hd := drop_cons hb
      have hall : allG (s.drop p) = (goodB (b.toNat : Int) && allG (s.drop (p + 1))) := by rw [hd]; rfl
      have hw : IntKind.i64.wrap ((p : Int) + 1) = ((p + 1 : Nat) : Int) := by rw [w64 (by omega) (by omega)]; omega
      simp only [rd_nat, hb, Option.bind_some, f43_eq, f44_eq, hw, f17_loop s hs n (p + 1) (by omega) (by omega), hall]
      unfold goodB
      by_cases hL : letB (b.toNat : Int) = true
      · simp [hL]
      · rw [if_neg hL]
        rw [Bool.not_eq_true] at hL
        rw [hL]
        by_cases h1 : 48 ≤ (b.toNat : Int) ∧ (b.toNat : Int) ≤ 57
        · simp [h1]
        · by_cases h2 : (b.toNat : Int) = 45
          · simp [h2]
          · rw [if_neg (by simpa using h1), if_neg h2, if_neg]
            simp only [Bool.false_or, Bool.and_eq_true, decide_eq_true_eq]
            rintro ⟨q, _⟩
            omega
    · rw [if_neg (by omega)]
      have : s.drop p = [] := List.drop_eq_nil_of_le (by omega)
      rw [this]; rfl
def nameB (s : List UInt8) : Bool := decide (s ≠ [] ∧ s.length ≤ 16) && allG s && (match s with | [] => false | b :: _ => letB (b.toNat : Int))
theorem f16_eq {s : List UInt8} {k : Nat} (hs : s.length ≤ 1000) (hk : 2000 ≤ k) : f16 k s = some (nameB s) := by
  unfold f16
  rw [f16_loop s k 0 (by omega) (by omega), Option.bind_some, List.drop_zero]
  unfold nameB
  cases s with
  | nil => simp [allG]
  | cons b r =>
    by_cases h1 : allG (b :: r) = true
    · by_cases h2 : letB (b.toNat : Int) = true
      · rw [if_pos ⟨h1, fun _ c hc => by simp at hc; subst hc; exact h2⟩]
        simp only [h1, h2, Option.bind_some, reduceCtorEq, if_false]
        simp; omega
      · rw [if_neg (fun q => h2 (q.2 rfl b rfl))]
        rw [Bool.not_eq_true] at h2
        simp [h2]
    · rw [if_neg (fun q => h1 q.1)]
      rw [Bool.not_eq_true] at h1
      simp [h1]
theorem f17_eq {s : List UInt8} {k : Nat} (hs : s.length ≤ 1000) (hk : 2000 ≤ k) : f17 k s = some (nameB s) := by
  unfold f17 nameB
  cases s with
  | nil => simp
  | cons b r =>
    rw [if_neg (by simp; omega)]
    by_cases h16 : (((b :: r).length : Nat) : Int) > 16
    · rw [if_pos h16]
      have : ¬ (b :: r).length ≤ 16 := by omega
      simp [this]
      intro q; simp at h16; omega
    · rw [if_neg h16]
      have hl : (b :: r).length ≤ 16 := by omega
      have h0 : rd (b :: r) 0 = some b := rfl
      have hloop := f17_loop (b :: r) (by omega) k 0 (by omega) (by omega)
      rw [show ((0 : Nat) : Int) = 0 from rfl, List.drop_zero] at hloop
      simp only [h0, Option.bind_some, f43_eq, hloop]
      have hd : decide (b :: r ≠ [] ∧ (b :: r).length ≤ 16) = true := by rw [decide_eq_true_eq]; exact ⟨by simp, hl⟩
      rw [hd]
      cases letB (b.toNat : Int) <;> cases allG (b :: r) <;> rfl
/-! Quoting -/
def hexS : List UInt8 := [48, 49, 50, 51, 52, 53, 54, 55, 56, 57, 97, 98, 99, 100, 101, 102]
def hexB (b : UInt8) : List UInt8 := [92, 120, hexS.getD (b.toNat / 16) 0, hexS.getD (b.toNat % 16) 0]
def escB (b : UInt8) : List UInt8 := if b.toNat = 34 ∨ b.toNat = 92 then [92, b] else if 32 ≤ b.toNat ∧ b.toNat ≤ 126 then [b] else hexB b
def qS : Nat → List UInt8 → List UInt8
  | 0, _ => []
  | _, [] => []
  | n + 1, b :: t => if 0 < longS (b :: t) then (b :: t).take (longS (b :: t)) ++ qS n ((b :: t).drop (longS (b :: t))) else escB b ++ qS n t
theorem hx1 (b : UInt8) : sub ([48, 49, 50, 51, 52, 53, 54, 55, 56, 57, 97, 98, 99, 100, 101, 102] : List UInt8) (IntKind.u8.wrap (((b.toNat : Nat) : Int).tdiv 16)) (IntKind.u8.wrap ((IntKind.u8.wrap (((b.toNat : Nat) : Int).tdiv 16)) + 1)) = some [hexS.getD (b.toNat / 16) 0] :=
  of_decide_eq_true (all256 (P := fun x => decide (sub ([48, 49, 50, 51, 52, 53, 54, 55, 56, 57, 97, 98, 99, 100, 101, 102] : List UInt8) (IntKind.u8.wrap (((x : Nat) : Int).tdiv 16)) (IntKind.u8.wrap ((IntKind.u8.wrap (((x : Nat) : Int).tdiv 16)) + 1)) = some [hexS.getD (x / 16) 0])) (by kernel_rfl) b)
theorem hx2 (b : UInt8) : sub ([48, 49, 50, 51, 52, 53, 54, 55, 56, 57, 97, 98, 99, 100, 101, 102] : List UInt8) (((b.toNat : Nat) : Int).tmod 16) (IntKind.u8.wrap ((((b.toNat : Nat) : Int).tmod 16) + 1)) = some [hexS.getD (b.toNat % 16) 0] :=
  of_decide_eq_true (all256 (P := fun x => decide (sub ([48, 49, 50, 51, 52, 53, 54, 55, 56, 57, 97, 98, 99, 100, 101, 102] : List UInt8) (((x : Nat) : Int).tmod 16) (IntKind.u8.wrap ((((x : Nat) : Int).tmod 16) + 1)) = some [hexS.getD (x % 16) 0])) (by kernel_rfl) b)
theorem hx3 (b : UInt8) : sub ([48, 49, 50, 51, 52, 53, 54, 55, 56, 57, 97, 98, 99, 100, 101, 102] : List UInt8) (gshr .u8 ((b.toNat : Nat) : Int) 4) (IntKind.u8.wrap ((gshr .u8 ((b.toNat : Nat) : Int) 4) + 1)) = some [hexS.getD (b.toNat / 16) 0] :=
  of_decide_eq_true (all256 (P := fun x => decide (sub ([48, 49, 50, 51, 52, 53, 54, 55, 56, 57, 97, 98, 99, 100, 101, 102] : List UInt8) (gshr .u8 ((x : Nat) : Int) 4) (IntKind.u8.wrap ((gshr .u8 ((x : Nat) : Int) 4) + 1)) = some [hexS.getD (x / 16) 0])) (by kernel_rfl) b)
theorem hx4 (b : UInt8) : sub ([48, 49, 50, 51, 52, 53, 54, 55, 56, 57, 97, 98, 99, 100, 101, 102] : List UInt8) (bits .and .u8 ((b.toNat : Nat) : Int) 15) (IntKind.u8.wrap ((bits .and .u8 ((b.toNat : Nat) : Int) 15) + 1)) = some [hexS.getD (b.toNat % 16) 0] :=
  of_decide_eq_true (all256 (P := fun x => decide (sub ([48, 49, 50, 51, 52, 53, 54, 55, 56, 57, 97, 98, 99, 100, 101, 102] : List UInt8) (bits .and .u8 ((x : Nat) : Int) 15) (IntKind.u8.wrap ((bits .and .u8 ((x : Nat) : Int) 15) + 1)) = some [hexS.getD (x % 16) 0])) (by kernel_rfl) b)
theorem escB_len (b : UInt8) : (escB b).length ≤ 4 := by
  unfold escB hexB
  repeat' split
  all_goals simp
theorem qS_len : ∀ (n : Nat) (l : List UInt8), (qS n l).length ≤ 4 * l.length
  | 0, l => by simp [qS]
  | n + 1, [] => by simp [qS]
  | n + 1, b :: t => by
    have hL := longS_le b t
    simp only [qS]
    split
    · have := qS_len n ((b :: t).drop (longS (b :: t)))
      rw [List.length_append, List.length_take]
      rw [List.length_drop] at this
      omega
    · have := qS_len n t
      have := escB_len b
      rw [List.length_append, List.length_cons]
      omega
theorem f34_eq (r : Nat) : f34 (r : Int) = some (Lib.runeLen (r : Int)) := by
  unfold f34 Lib.runeLen
  repeat' split
  all_goals first | rfl | (exfalso; omega) | skip
theorem ne8_of {l : List UInt8} (h : l ≠ []) : ne8 l = some (l.map fun u => ((u.toNat : Nat) : Int)) := if_neg h
theorem f14_hex (l : List UInt8) (p : Nat) (hl : l.length ≤ 10) : ∀ (n : Nat) (acc : List UInt8) (i : Nat), i ≤ l.length → l.length < n + i → acc.length ≤ 5000 + 4 * i → f14_l2 (l.map fun u => ((u.toNat : Nat) : Int)) n acc (i : Int) p = some (acc ++ (l.drop i).flatMap hexB, p)
  | 0, acc, i, h1, h2, h3 => by omega
  | n + 1, acc, i, h1, h2, h3 => by
    rw [f14_l2]
    simp only [Option.bind_some, List.length_map]
    by_cases hi : i < l.length
    · rw [if_pos (by simpa using hi)]
      obtain ⟨b, hb⟩ : ∃ b, l[i]? = some b := ⟨l[i], List.getElem?_eq_getElem hi⟩
      have hd : l.drop i = b :: l.drop (i + 1) := by
        obtain ⟨hl, e⟩ := List.getElem?_eq_some_iff.1 hb
        rw [List.drop_eq_getElem_cons hl, e]
      have hr : rd (l.map fun u => ((u.toNat : Nat) : Int)) (i : Int) = some ((b.toNat : Nat) : Int) := by rw [rd_nat, List.getElem?_map, hb]; rfl
      rw [hr]
      simp only [Option.bind_some, hx3, hx4]
      rw [sc (by simp)]
      simp only [Option.bind_some]
      rw [sc (by simp)]
      simp only [Option.bind_some]
      rw [ap1 (by simp; omega)]
      simp only [Option.bind_some]
      rw [show IntKind.i64.wrap ((i : Int) + 1) = ((i + 1 : Nat) : Int) from wr64 (n := 1) (by omega)]
      rw [f14_hex l p hl n _ (i + 1) (by omega) (by omega) (by simp; omega), hd]
      simp [hexB]
    · rw [if_neg (by simpa using hi), List.drop_eq_nil_of_le (by omega)]
      simp
theorem qS_fuel : ∀ (n m : Nat) (l : List UInt8), l.length ≤ n → l.length ≤ m → qS n l = qS m l
  | 0, m, l, h1, h2 => by
    have : l = [] := List.length_eq_zero_iff.1 (by omega)
    subst this
    cases m <;> rfl
  | n + 1, 0, l, h1, h2 => by
    have : l = [] := List.length_eq_zero_iff.1 (by omega)
    subst this; rfl
  | n + 1, m + 1, [], h1, h2 => rfl
  | n + 1, m + 1, b :: t, h1, h2 => by
    simp only [List.length_cons] at h1 h2
    simp only [qS]
    split
    · rw [qS_fuel n m _ (by rw [List.length_drop, List.length_cons]; omega) (by rw [List.length_drop, List.length_cons]; omega)]
    · rw [qS_fuel n m _ (by omega) (by omega)]
theorem qS_cons {b : UInt8} {t : List UInt8} (h : t.length < 3999) : qS 4000 (b :: t) = if 0 < longS (b :: t) then (b :: t).take (longS (b :: t)) ++ qS 4000 ((b :: t).drop (longS (b :: t))) else escB b ++ qS 4000 t := by
  rw [show qS 4000 (b :: t) = if 0 < longS (b :: t) then (b :: t).take (longS (b :: t)) ++ qS 3999 ((b :: t).drop (longS (b :: t))) else escB b ++ qS 3999 t from rfl]
  split
  · rw [qS_fuel 3999 4000 _ (by rw [List.length_drop, List.length_cons]; omega) (by rw [List.length_drop, List.length_cons]; omega)]
  · rw [qS_fuel 3999 4000 _ (by omega) (by omega)]
theorem f14_loop (s : List UInt8) (hs : s.length ≤ 1100) : ∀ (n : Nat) (acc : List UInt8) (p : Nat), p ≤ s.length → s.length < n + p → acc.length ≤ 1 + 4 * p → f14_l1 4000 s n acc p = some (acc ++ qS 4000 (s.drop p))
  | 0, acc, p, h1, h2, h3 => by omega
  | n + 1, acc, p, h1, h2, h3 => by
    rw [f14_l1]
    by_cases hp : p < s.length
    · rw [if_pos hp]
      obtain ⟨b, hb⟩ : ∃ b, s[p]? = some b := ⟨s[p], List.getElem?_eq_getElem hp⟩
      have hd : s.drop p = b :: s.drop (p + 1) := by
        obtain ⟨hl, e⟩ := List.getElem?_eq_some_iff.1 hb
        rw [List.drop_eq_getElem_cons hl, e]
      have hlen : (b :: s.drop (p + 1)).length = s.length - p := by rw [← hd, List.length_drop]
      have hlt : (s.drop (p + 1)).length < 3999 := by rw [List.length_drop]; omega
      have hdd : ∀ m, s.drop (p + m) = (b :: s.drop (p + 1)).drop m := by intro m; rw [← hd, List.drop_drop]
      have h1' : IntKind.i64.wrap ((p : Int) + 1) = ((p + 1 : Nat) : Int) := wr64 (n := 1) (by omega)
      have hs1 : sub s (p : Int) ((p + 1 : Nat) : Int) = some [b] := by rw [sub_mid (by omega), hd]; rfl
      have hc8 : c8 92 = some 92 := rfl
      have hfin : ∀ e : List UInt8, e = escB b → longS (b :: s.drop (p + 1)) = 0 → f14_l1 4000 s n (acc ++ e) (p + 1) = some (acc ++ qS 4000 (b :: s.drop (p + 1))) := by
        rintro e rfl q
        have := escB_len b
        rw [f14_loop s hs n _ (p + 1) (by omega) (by omega) (by rw [List.length_append]; omega), qS_cons hlt, if_neg (by omega), List.append_assoc]
      simp only [decL_eq, decN_eq, hd]
      generalize hT : s.drop (p + 1) = t at *
      cases shape b t with
      | a h e =>
        have hb256 := b.toNat_lt
        have hrl : Lib.runeLen ((b.toNat : Nat) : Int) = 1 := by unfold Lib.runeLen; rw [if_neg (by omega), if_pos (by omega)]
        have hl0 : longS (b :: t) = 0 := by simp only [longS, e]; rw [if_neg (by omega)]
        simp only [e, f34_eq, hrl, Option.bind_some]
        rw [if_neg (by omega)]
        simp only [Option.bind_some, hc8, c7_of h]
        by_cases q1 : b.toNat = 34
        · rw [if_pos (by omega), ap1 (by simp; omega)]
          simp only [Option.bind_some]
          rw [ap1 (by simp; omega)]
          simp only [Option.bind_some, List.append_assoc]
          exact hfin _ (by unfold escB; rw [if_pos (.inl q1)]; rfl) hl0
        · rw [if_neg (by omega)]
          by_cases q2 : b.toNat = 92
          · rw [if_pos (by omega), ap1 (by simp; omega)]
            simp only [Option.bind_some]
            rw [ap1 (by simp; omega)]
            simp only [Option.bind_some, List.append_assoc]
            exact hfin _ (by unfold escB; rw [if_pos (.inr q2)]; rfl) hl0
          · rw [if_neg (by omega), f37_eq]
            simp only [Option.bind_some, h1', hs1]
            by_cases q3 : 32 ≤ b.toNat ∧ b.toNat ≤ 126
            · rw [if_pos (by rw [decide_eq_true_eq]; omega), ap1 (by simp; omega)]
              simp only [Option.bind_some]
              exact hfin _ (by unfold escB; rw [if_neg (by omega), if_pos q3]) hl0
            · rw [if_neg (by rw [decide_eq_true_eq]; rintro ⟨_, _, k, _⟩; have := k trivial; omega), ne8_of (by simp)]
              simp only [Option.bind_some]
              have := f14_hex [b] (p + 1) (by simp) 4000 acc 0 (by simp) (by simp) (by omega)
              rw [show ((0 : Nat) : Int) = 0 from rfl] at this
              rw [this]
              simp only [Option.bind_some]
              exact hfin _ (by unfold escB; rw [if_neg (by omega), if_neg q3]; simp) hl0
      | b r m h e h1 h2 h3 h4 h5 h6 h7 h8 =>
        simp only [e, f34_eq, h8, Option.bind_some]
        have hx : (if ((r : Nat) : Int) = 65533 then (sub s (p : Int) (s.length : Int)).bind fun s23u1 => (f35 s23u1).bind fun x => match x with | (t24u1_0, t24u1_1) => some (t24u1_1, p + m) else some (((m : Nat) : Int), p + m)) = some (((m : Nat) : Int), p + m) := by
          split
          · rw [sub_all (by omega), hd]
            simp only [Option.bind_some]
            rw [f35_of (by simp), e]; rfl
          · rfl
        rw [hx]
        simp only [Option.bind_some]
        rw [if_neg (by omega), if_neg (by omega), f37_eq]
        simp only [Option.bind_some]
        rw [wr64 (by omega), sub_mid (by omega), hd]
        by_cases q : 160 ≤ r
        · rw [if_pos (by rw [decide_eq_true_eq]; omega)]
          have hl0 : longS (b :: t) = m := by simp only [longS, e]; rw [if_pos ⟨q, h1⟩]
          simp only [Option.bind_some]
          rw [ap1 (by rw [List.length_take]; omega)]
          simp only [Option.bind_some]
          rw [f14_loop s hs n _ (p + m) (by omega) (by omega) (by rw [List.length_append, List.length_take]; omega), qS_cons hlt, hl0, if_pos (by omega), hdd m, List.append_assoc]
        · rw [if_neg (by rw [decide_eq_true_eq]; omega)]
          obtain ⟨rfl, c, u, rfl, k1, k2⟩ := h6 (by omega)
          have hb0 : longS (b :: c :: u) = 0 := by simp only [longS, e]; rw [if_neg (by omega)]
          have hc0 := longS_cont (c := c) (u := u) k1 (by omega)
          simp only [Option.bind_some, List.take_succ_cons, List.take_zero]
          rw [ne8_of (by simp)]
          simp only [Option.bind_some]
          have := f14_hex [b, c] (p + 2) (by simp) 4000 acc 0 (by simp) (by simp) (by omega)
          rw [show ((0 : Nat) : Int) = 0 from rfl] at this
          rw [this]
          simp only [Option.bind_some]
          have hb256 := b.toNat_lt
          have e1 : escB b = hexB b := by unfold escB; rw [if_neg (by omega), if_neg (by omega)]
          have e2 : escB c = hexB c := by unfold escB; rw [if_neg (by omega), if_neg (by omega)]
          have hu : u.length < 3999 := by simp at hlt; omega
          rw [f14_loop s hs n _ (p + 2) (by omega) (by omega) (by simp [hexB]; omega), qS_cons hlt, hb0, if_neg (by omega), qS_cons hu, hc0, if_neg (by omega), hdd 2, e1, e2]
          simp
      | c h e h1 =>
        have hb256 := b.toNat_lt
        have hl0 : longS (b :: t) = 0 := by simp only [longS, e]; rfl
        simp only [e, f34_eq, Option.bind_some]
        rw [if_pos (by rfl), sub_all (by omega), hd]
        simp only [Option.bind_some]
        rw [f35_of (by simp), e]
        simp only [Option.bind_some]
        rw [if_neg (by omega), if_neg (by omega), f37_eq]
        simp only [Option.bind_some]
        rw [if_neg (by rw [decide_eq_true_eq]; omega)]
        rw [show IntKind.i64.wrap ((p : Int) + ((1 : Nat) : Int)) = ((p + 1 : Nat) : Int) from h1', hs1]
        simp only [Option.bind_some]
        rw [ne8_of (by simp)]
        simp only [Option.bind_some]
        have := f14_hex [b] (p + 1) (by simp) 4000 acc 0 (by simp) (by simp) (by omega)
        rw [show ((0 : Nat) : Int) = 0 from rfl] at this
        rw [this]
        simp only [Option.bind_some]
        exact hfin _ (by unfold escB; rw [if_neg (by omega), if_neg (by omega)]; simp) hl0
    · rw [if_neg hp, List.drop_eq_nil_of_le (by omega)]
      simp [qS]
theorem f14_eq {s : List UInt8} (hs : s.length ≤ 1100) : f14 4000 s = some ([34] ++ qS 4000 s ++ [34]) := by
  unfold f14
  have h34 : c8 34 = some 34 := rfl
  have hq := qS_len 4000 s
  rw [h34]
  simp only [Option.bind_some]
  rw [ap1 (by simp)]
  simp only [Option.bind_some]
  have := f14_loop s hs 4000 ([] ++ [34]) 0 (by omega) (by omega) (by simp)
  rw [this, List.drop_zero]
  simp only [Option.bind_some]
  rw [ap1 (by simp; omega)]
  simp only [Option.bind_some]
  rw [ap1 (by simp; omega)]
  simp
end Go.Proofs.YtgmejigjajcbfaaGreatDoor

set_option linter.unusedVariables false
set_option linter.unusedSimpArgs false
namespace Go.Proofs.YtgmejigjajcbfaaGreatDoor
open Go Go.Det Go.RowKit
/-! Numbers -/
def isDg (b : UInt8) : Bool := decide (48 ≤ b.toNat ∧ b.toNat ≤ 57)
theorem has_dg (b : UInt8) : ([48, 49, 50, 51, 52, 53, 54, 55, 56, 57] : List UInt8).contains b = isDg b := by
  have h := all256 (P := fun x => ([48, 49, 50, 51, 52, 53, 54, 55, 56, 57] : List UInt8).contains x.toUInt8 == decide (48 ≤ x ∧ x ≤ 57)) (by kernel_rfl) b
  rw [show b.toNat.toUInt8 = b by simp] at h
  exact beq_iff_eq.1 h
theorem dw_nil {p : UInt8 → Bool} : ∀ (l : List UInt8), l.dropWhile p = [] ↔ l.all p = true
  | [] => by simp
  | a :: l => by
    rw [List.dropWhile_cons, List.all_cons]
    cases h : p a with
    | true => simp only [if_true, Bool.true_and]; exact dw_nil l
    | false => simp
theorem dw_head {p : UInt8 → Bool} {a : UInt8} {r : List UInt8} : ∀ {l : List UInt8}, l.dropWhile p = a :: r → p a = false
  | [], h => by cases h
  | b :: l, h => by
    rw [List.dropWhile_cons] at h
    cases hb : p b with
    | true => rw [hb] at h; exact dw_head (l := l) h
    | false =>
      rw [hb] at h
      simp only [Bool.false_eq_true, if_false, List.cons.injEq] at h
      rw [← h.1]; exact hb
theorem trim_nil (l cs : List UInt8) : Lib.trimS l cs = [] ↔ l.all (cs.contains ·) = true := by
  unfold Lib.trimS Lib.trimLeftS Lib.trimRightS
  rw [dw_nil]
  constructor
  · intro h
    cases q : l.reverse.dropWhile (cs.contains ·) with
    | nil => rw [dw_nil] at q; rw [List.all_reverse] at q; exact q
    | cons a r =>
      have := dw_head q
      rw [q, List.all_reverse, List.all_cons, this] at h
      simp at h
  · intro h
    have : l.reverse.dropWhile (cs.contains ·) = [] := (dw_nil _).2 (by rw [List.all_reverse]; exact h)
    rw [this]; rfl
theorem f83_dg {t : List UInt8} (hl : t.length ≤ 1000) : ∃ z, f83 t [48, 49, 50, 51, 52, 53, 54, 55, 56, 57] = some z ∧ (z = [] ↔ t.all isDg = true) := by
  refine ⟨_, if_pos ⟨by omega, by decide, by decide⟩, ?_⟩
  rw [trim_nil]
  have : (fun x => ([48, 49, 50, 51, 52, 53, 54, 55, 56, 57] : List UInt8).contains x) = isDg := funext has_dg
  rw [this]
theorem f82_eq {c : UInt8} {r : List UInt8} (hl : (c :: r).length ≤ 1000) : f82 (c :: r) [45] = some (if c = 45 then r else c :: r) := by
  unfold f82 f93 f108
  have e1 : sub (c :: r) 0 ((([45] : List UInt8).length : Nat) : Int) = some [c] := sub_to (n := 1) (by simp)
  have e2 : sub (c :: r) ((([45] : List UInt8).length : Nat) : Int) (((c :: r).length : Nat) : Int) = some r := sub_all (s := c :: r) (p := 1) (by simp)
  rw [if_pos (by simp only [List.length_cons, List.length_nil]; omega)]
  simp only [e1, e2, Option.bind_some]
  by_cases h : c = 45
  · subst h; simp
  · have : ¬ [c] = [45] := by simpa using h
    simp [this, h]
theorem f44_dg (b : UInt8) : f44 ((b.toNat : Nat) : Int) = some (isDg b) := by
  rw [f44_eq]
  unfold isDg
  congr 1
  rw [Bool.eq_iff_iff, decide_eq_true_eq, decide_eq_true_eq]
  omega
theorem dec_yes : ∀ {l : List UInt8} (a : Nat), l.all isDg = true → ∃ v, Lib.decFrom a l = some v
  | [], a, _ => ⟨a, rfl⟩
  | b :: l, a, h => by
    rw [List.all_cons, Bool.and_eq_true] at h
    have hb : Lib.digitVal b = some (b.toNat - 48) := if_pos (of_decide_eq_true h.1)
    simp only [Lib.decFrom, hb]
    exact dec_yes _ h.2
theorem dec_no : ∀ {l : List UInt8} (a : Nat), l.all isDg = false → Lib.decFrom a l = none
  | [], a, h => by cases h
  | b :: l, a, h => by
    cases hb : isDg b with
    | true =>
      have hv : Lib.digitVal b = some (b.toNat - 48) := if_pos (of_decide_eq_true hb)
      rw [List.all_cons, hb, Bool.true_and] at h
      simp only [Lib.decFrom, hv]
      exact dec_no _ h
    | false =>
      have hv : Lib.digitVal b = none := if_neg (of_decide_eq_false hb)
      simp only [Lib.decFrom, hv]
theorem p13 {i : Nat} (h : i ≤ 13) : 10 ^ i ≤ 10000000000000 := Nat.le_trans (Nat.pow_le_pow_right (by decide) h) (by decide)
theorem f69_loop (t : List UInt8) (hl : t.length ≤ 13) : ∀ (n i a : Nat), i ≤ t.length → t.length < n + i → a < 10 ^ i →
    (∃ v, Lib.decFrom a (t.drop i) = some v ∧ v < 10 ^ 13 ∧ f69_l1 t n (a : Int) (i : Int) = some (.inr (v : Int))) ∨ (Lib.decFrom a (t.drop i) = none ∧ f69_l1 t n (a : Int) (i : Int) = some (.inl (0, false)))
  | 0, i, a, h1, h2, h3 => by omega
  | n + 1, i, a, h1, h2, h3 => by
    rw [f69_l1]
    by_cases hi : i < t.length
    · obtain ⟨b, hb⟩ : ∃ b, t[i]? = some b := ⟨t[i], List.getElem?_eq_getElem hi⟩
      have hd : t.drop i = b :: t.drop (i + 1) := by
        obtain ⟨hl, e⟩ := List.getElem?_eq_some_iff.1 hb
        rw [List.drop_eq_getElem_cons hl, e]
      rw [if_pos (by omega), rd_nat, hb, hd]
      simp only [Option.bind_some, f44_dg]
      cases hg : isDg b with
      | true =>
        have hg' := of_decide_eq_true hg
        have hv : Lib.digitVal b = some (b.toNat - 48) := if_pos hg'
        have hp := p13 (i := i) (by omega)
        have e : IntKind.i64.wrap (IntKind.i64.wrap (10 * (a : Int)) + IntKind.i64.wrap (IntKind.u8.wrap (((b.toNat : Nat) : Int) - 48))) = ((a * 10 + (b.toNat - 48) : Nat) : Int) := by
          have e1 : IntKind.u8.wrap (((b.toNat : Nat) : Int) - 48) = ((b.toNat - 48 : Nat) : Int) := by rw [IntKind.wrap_u8]; omega
          rw [e1, w64 (x := 10 * (a : Int)) (by omega) (by omega), w64 (x := ((b.toNat - 48 : Nat) : Int)) (by omega) (by omega), w64 (by omega) (by omega)]
          omega
        have e2 : IntKind.i64.wrap ((i : Int) + 1) = ((i + 1 : Nat) : Int) := wr64 (n := 1) (by omega)
        simp only [if_true, e, e2, Lib.decFrom, hv]
        exact f69_loop t hl n (i + 1) _ (by omega) (by omega) (by rw [Nat.pow_succ]; omega)
      | false =>
        have hv : Lib.digitVal b = none := if_neg (of_decide_eq_false hg)
        right
        simp only [Lib.decFrom, hv, Bool.false_eq_true, if_false]
        exact ⟨trivial, trivial⟩
    · left
      rw [if_neg (by omega), List.drop_eq_nil_of_le (by omega)]
      exact ⟨a, rfl, by have := p13 (i := i) (by omega); omega, rfl⟩
theorem atoi_pos {c : UInt8} {r : List UInt8} {v : Nat} (hl : (c :: r).length ≤ 13) (hd : (c :: r).all isDg = true) (hv : Lib.decFrom 0 (c :: r) = some v) : f84 (c :: r) = some ((v : Int), true) := by
  have hc : isDg c = true := by rw [List.all_cons, Bool.and_eq_true] at hd; exact hd.1
  have hc := of_decide_eq_true hc
  unfold f84
  rw [if_pos (by omega), Lib.atoiAll_short _ (by omega)]
  have n1 : (c == 45) = false := by
    rw [beq_eq_false_iff_ne]; intro q; subst q; revert hc; decide
  have n2 : (c == 43) = false := by
    rw [beq_eq_false_iff_ne]; intro q; subst q; revert hc; decide
  simp only [Lib.atoi, n1, n2, Bool.false_eq_true, if_false, Lib.decNat, List.isEmpty_cons, hv, Option.map_some, Lib.NumEnd.ofOption]
theorem atoi_neg {r : List UInt8} {v : Nat} (h0 : r ≠ []) (hl : r.length ≤ 13) (hv : Lib.decFrom 0 r = some v) : f84 (45 :: r) = some (-(v : Int), true) := by
  unfold f84
  rw [if_pos (by simp only [List.length_cons]; omega), Lib.atoiAll_short _ (by simp only [List.length_cons]; omega)]
  have n1 : ((45 : UInt8) == 45) = true := rfl
  have n2 : r.isEmpty = false := by cases r <;> simp at h0 ⊢
  simp only [Lib.atoi, n1, if_true, Lib.decNat, n2, Bool.false_eq_true, if_false, hv, Option.map_some, Lib.NumEnd.ofOption]
theorem num_eq {w : List UInt8} (h1 : w ≠ []) (h2 : w.length ≤ 1000) : ∃ v v' ok, f68 w = some (v, ok) ∧ f69 4000 w = some (v', ok) ∧ (ok = true → v = v' ∧ -1099511627776 ≤ v ∧ v ≤ 1099511627776) := by
  match w, h1 with
  | c :: r, _ =>
  have hloop : ∀ t : List UInt8, t.length ≤ 13 → (∃ v, Lib.decFrom 0 t = some v ∧ v < 10 ^ 13 ∧ f69_l1 t 4000 0 0 = some (.inr (v : Int))) ∨ (Lib.decFrom 0 t = none ∧ f69_l1 t 4000 0 0 = some (.inl (0, false))) := by
    intro t ht
    have := f69_loop t ht 4000 0 0 (by omega) (by omega) (by decide)
    simpa using this
  unfold f68 f69
  rw [f82_eq h2]
  have hr0 : rd (c :: r) 0 = some c := rfl
  by_cases hc : c = 45
  · subst hc
    have c45 : (((45 : UInt8).toNat : Nat) : Int) = 45 := rfl
    have n48 : ¬ (45 : Int) = 48 := by decide
    simp only [Option.bind_some, if_true, hr0, c45, beq_self_eq_true]
    cases r with
    | nil =>
      have hd : Lib.decFrom 0 [45] = none := dec_no _ (by decide)
      have hlp : f69_l1 [45] 4000 0 0 = some (.inl (0, false)) := by
        rcases hloop [45] (by decide) with ⟨v, e, _⟩ | ⟨_, e⟩
        · rw [hd] at e; cases e
        · exact e
      refine ⟨0, 0, false, rfl, ?_, fun h => by cases h⟩
      simp [hlp, hr0, c45, n48]
    | cons d u =>
      have hs : sub (45 :: d :: u) 1 (((45 :: d :: u).length : Nat) : Int) = some (d :: u) := sub_all (s := 45 :: d :: u) (p := 1) (by simp)
      have hlen1 : (((45 :: d :: u).length : Nat) : Int) > 1 := by simp only [List.length_cons]; omega
      have hne : ¬ (d :: u) = ([] : List UInt8) := by simp
      have hrd : rd (d :: u) 0 = some d := rfl
      have hn0 : ¬ (45 :: d :: u) = ([48] : List UInt8) := by simp
      simp only [hlen1, if_true, Option.bind_some, hs, hne, if_false, hrd]
      by_cases h13 : (((d :: u).length : Nat) : Int) > 13
      · simp only [h13, if_true]
        exact ⟨0, 0, false, rfl, rfl, fun h => by cases h⟩
      · simp only [h13, if_false]
        obtain ⟨z, hz, hz2⟩ := f83_dg (t := d :: u) (by omega)
        rw [hz]
        simp only [Option.bind_some]
        cases hall : (d :: u).all isDg with
        | true =>
          have hz0 : z = [] := hz2.2 hall
          obtain ⟨v, hv⟩ := dec_yes 0 hall
          have hlp : v < 10 ^ 13 ∧ f69_l1 (d :: u) 4000 0 0 = some (.inr (v : Int)) := by
            rcases hloop (d :: u) (by omega) with ⟨v', e, e1, e2⟩ | ⟨e, _⟩
            · rw [hv] at e; cases e; exact ⟨e1, e2⟩
            · rw [hv] at e; cases e
          have hv13 : v < 10000000000000 := hlp.1
          rw [if_pos hz0]
          by_cases hd48 : ((d.toNat : Nat) : Int) = 48
          · simp only [hd48, if_true, hn0, if_false, Option.bind_some]
            refine ⟨0, 0, false, rfl, ?_, fun h => by cases h⟩
            split <;> rfl
          · simp only [hd48, if_false, Option.bind_some, hlp.2, atoi_neg hne (by omega) hv, if_true]
            by_cases hbig : (v : Int) > 1099511627776
            · rw [if_pos hbig, if_neg (by omega)]
              exact ⟨-(v : Int), 0, false, rfl, rfl, fun h => by cases h⟩
            · rw [if_neg hbig, if_pos (by omega)]
              have hw : IntKind.i64.wrap (0 - (v : Int)) = -(v : Int) := by rw [w64 (by omega) (by omega)]; omega
              have hd : decide (-(v : Int) ≤ 1099511627776) = true := by rw [decide_eq_true_eq]; omega
              rw [hd, hw]
              exact ⟨-(v : Int), -(v : Int), true, rfl, rfl, fun _ => ⟨rfl, by omega, by omega⟩⟩
        | false =>
          have hz0 : ¬ z = [] := fun h => by have := hz2.1 h; rw [hall] at this; cases this
          have hv := dec_no 0 hall
          have hlp : f69_l1 (d :: u) 4000 0 0 = some (.inl (0, false)) := by
            rcases hloop (d :: u) (by omega) with ⟨v', e, _⟩ | ⟨_, e⟩
            · rw [hv] at e; cases e
            · exact e
          rw [if_neg hz0]
          refine ⟨0, 0, false, rfl, ?_, fun h => by cases h⟩
          by_cases hd48 : ((d.toNat : Nat) : Int) = 48
          · simp only [hd48, if_true]
            split <;> rfl
          · simp only [hd48, if_false, Option.bind_some, hlp]
  · have hc' : ¬ ((c.toNat : Nat) : Int) = 45 := by
      intro q
      refine hc (UInt8.toNat_inj.1 ?_)
      show c.toNat = 45
      omega
    have hx4 : (if (((c :: r).length : Nat) : Int) > 1 then (rd (c :: r) 0).bind fun b12 => (some (((b12.toNat : Nat) : Int) == 45)).bind fun t13 => some (t13) else some (false)) = some false := by
      have hb : (((c.toNat : Nat) : Int) == 45) = false := by rw [beq_eq_false_iff_ne]; exact hc'
      simp only [hr0, Option.bind_some, hb]
      split <;> rfl
    have hne : ¬ (c :: r) = ([] : List UInt8) := by simp
    rw [hx4]
    simp only [hc, if_false, Option.bind_some, hne, Bool.false_eq_true, hr0]
    by_cases h13 : (((c :: r).length : Nat) : Int) > 13
    · simp only [h13, if_true]
      exact ⟨0, 0, false, rfl, rfl, fun h => by cases h⟩
    · simp only [h13, if_false]
      obtain ⟨z, hz, hz2⟩ := f83_dg (t := c :: r) (by omega)
      rw [hz]
      simp only [Option.bind_some]
      cases hall : (c :: r).all isDg with
      | true =>
        have hz0 : z = [] := hz2.2 hall
        obtain ⟨v, hv⟩ := dec_yes 0 hall
        have hlp : v < 10 ^ 13 ∧ f69_l1 (c :: r) 4000 0 0 = some (.inr (v : Int)) := by
          rcases hloop (c :: r) (by omega) with ⟨v', e, e1, e2⟩ | ⟨e, _⟩
          · rw [hv] at e; cases e; exact ⟨e1, e2⟩
          · rw [hv] at e; cases e
        have hv13 : v < 10000000000000 := hlp.1
        have hend : ∃ v1 v2 ok, ((f84 (c :: r)).bind fun (t31_0, t31_1) => if t31_1 then if t31_0 ≥ (-1099511627776) then (some (decide (t31_0 ≤ 1099511627776))).bind fun t43 => some (t31_0, t43) else some (t31_0, false) else some (t31_0, false)) = some (v1, ok) ∧
            ((if (v : Int) > 1099511627776 then some ((0 : Int), false) else some ((v : Int), true)) = some (v2, ok)) ∧ (ok = true → v1 = v2 ∧ -1099511627776 ≤ v1 ∧ v1 ≤ 1099511627776) := by
          rw [atoi_pos (by omega) hall hv]
          simp only [Option.bind_some, if_true]
          rw [if_pos (by omega)]
          by_cases hbig : (v : Int) > 1099511627776
          · rw [if_pos hbig]
            have hd : decide ((v : Int) ≤ 1099511627776) = false := by rw [decide_eq_false_iff_not]; omega
            rw [hd]
            exact ⟨_, _, false, rfl, rfl, fun h => by cases h⟩
          · rw [if_neg hbig]
            have hd : decide ((v : Int) ≤ 1099511627776) = true := by rw [decide_eq_true_eq]; omega
            rw [hd]
            exact ⟨_, _, true, rfl, rfl, fun _ => ⟨rfl, by omega, by omega⟩⟩
        obtain ⟨v1, v2, ok, g1, g2, g3⟩ := hend
        rw [if_pos hz0]
        by_cases hd48 : ((c.toNat : Nat) : Int) = 48
        · simp only [hd48, if_true]
          have hc48 : c = 48 := UInt8.toNat_inj.1 (by show c.toNat = 48; omega)
          cases r with
          | nil =>
            subst hc48
            have hl1 : ¬ ((([48] : List UInt8).length : Nat) : Int) > 1 := by decide
            simp only [if_true, Option.bind_some, hl1, if_false, hlp.2]
            exact ⟨v1, v2, ok, g1, g2, g3⟩
          | cons e u =>
            have hn : ¬ (c :: e :: u) = ([48] : List UInt8) := by simp
            have hl1 : (((c :: e :: u).length : Nat) : Int) > 1 := by simp only [List.length_cons]; omega
            simp only [hn, if_false, hl1, if_true]
            exact ⟨0, 0, false, rfl, rfl, fun h => by cases h⟩
        · simp only [hd48, if_false, Option.bind_some, hlp.2]
          exact ⟨v1, v2, ok, g1, g2, g3⟩
      | false =>
        have hz0 : ¬ z = [] := fun h => by have := hz2.1 h; rw [hall] at this; cases this
        have hv := dec_no 0 hall
        have hlp : f69_l1 (c :: r) 4000 0 0 = some (.inl (0, false)) := by
          rcases hloop (c :: r) (by omega) with ⟨v', e, _⟩ | ⟨_, e⟩
          · rw [hv] at e; cases e
          · exact e
        rw [if_neg hz0]
        refine ⟨0, 0, false, rfl, ?_, fun h => by cases h⟩
        by_cases hd48 : ((c.toNat : Nat) : Int) = 48
        · simp only [hd48, if_true]
          split
          · rfl
          · simp only [Option.bind_some, hlp]
        · simp only [hd48, if_false, Option.bind_some, hlp]
end Go.Proofs.YtgmejigjajcbfaaGreatDoor

set_option linter.unusedVariables false
set_option linter.unusedSimpArgs false
namespace Go.Proofs.YtgmejigjajcbfaaGreatDoor
open Go Go.Det Go.RowKit
/-! Blanks and ends of words -/
def isB (b : UInt8) : Bool := decide (b.toNat = 32 ∨ b.toNat = 9)
theorem f51_eq (b : UInt8) : f51 ((b.toNat : Nat) : Int) = some (isB b) := by
  unfold f51 isB
  by_cases h : b.toNat = 32
  · rw [if_pos (by omega)]; simp [h]
  · rw [if_neg (by omega)]
    simp only [Option.bind_some]
    congr 1
    rw [Bool.eq_iff_iff, beq_iff_eq, decide_eq_true_eq]
    omega
theorem f54_eq (b : UInt8) : f54 ((b.toNat : Nat) : Int) = some (isB b) := f51_eq b
theorem has_B (b : UInt8) : ([32, 9] : List UInt8).contains b = isB b := by
  have h := all256 (P := fun x => ([32, 9] : List UInt8).contains x.toUInt8 == decide (x = 32 ∨ x = 9)) (by kernel_rfl) b
  rw [show b.toNat.toUInt8 = b by simp] at h
  exact beq_iff_eq.1 h
def endB : List UInt8 → Nat
  | [] => 0
  | b :: l => if isB b then 0 else endB l + 1
theorem endB_le : ∀ l : List UInt8, endB l ≤ l.length
  | [] => Nat.le_refl _
  | b :: l => by
    have := endB_le l
    unfold endB
    split
    · omega
    · simp only [List.length_cons]; omega
theorem idx_end : ∀ l : List UInt8, (if Lib.indexAny l [32, 9] < 0 then (l.length : Int) else Lib.indexAny l [32, 9]) = (endB l : Int)
  | [] => by simp [Lib.indexAny, endB]
  | b :: l => by
    have ih := idx_end l
    have hg := Lib.indexAny_ge [32, 9] l
    rw [Lib.indexAny, has_B]
    unfold endB
    cases h : isB b with
    | true => simp
    | false =>
      simp only [Bool.false_eq_true, if_false]
      by_cases q : Lib.indexAny l [32, 9] = -1
      · have e : (Lib.indexAny l [32, 9] == -1) = true := by rw [q]; rfl
        rw [q, if_pos (by decide)] at ih
        rw [e, if_pos rfl, if_pos (by decide), List.length_cons]
        omega
      · have e : (Lib.indexAny l [32, 9] == -1) = false := by rw [beq_eq_false_iff_ne]; exact q
        rw [if_neg (by omega)] at ih
        rw [e]
        simp only [Bool.false_eq_true, if_false]
        rw [if_neg (by omega)]
        omega
theorem dropB {s : List UInt8} {p : Nat} (hp : p < s.length) : ∃ b, s[p]? = some b ∧ s.drop p = b :: s.drop (p + 1) := by
  refine ⟨s[p], List.getElem?_eq_getElem hp, ?_⟩
  rw [List.drop_eq_getElem_cons hp]
theorem f55_loop (s : List UInt8) (hs : s.length ≤ 1000) : ∀ (n p : Nat), p ≤ s.length → s.length < n + p → f55_l1 s n (p : Int) = some ((p + endB (s.drop p) : Nat) : Int)
  | 0, p, h1, h2 => by omega
  | n + 1, p, h1, h2 => by
    rw [f55_l1]
    by_cases hp : p < s.length
    · obtain ⟨b, hb, hd⟩ := dropB hp
      rw [if_pos (by omega), rd_nat, hb]
      simp only [Option.bind_some, f54_eq]
      cases h : isB b with
      | true => rw [if_pos rfl, hd, endB, if_pos h]; rfl
      | false =>
        simp only [Bool.false_eq_true, if_false]
        rw [show IntKind.i64.wrap ((p : Int) + 1) = ((p + 1 : Nat) : Int) from wr64 (n := 1) (by omega), f55_loop s hs n (p + 1) (by omega) (by omega), hd, endB, if_neg (by rw [h]; exact Bool.false_ne_true)]
        congr 2
        omega
    · rw [if_neg (by omega), List.drop_eq_nil_of_le (by omega)]
      simp [endB]
/-! Words -/
def Snd (kind : Int) (name : List UInt8) (num : Int) : Prop := (kind = 1 ∧ nameB name = true ∧ num = 0) ∨ (kind = 2 ∧ name = [] ∧ -1099511627776 ≤ num ∧ num ≤ 1099511627776) ∨ (kind = 3 ∧ num = 0 ∧ name.length ≤ 1000)
def SndW (w : RowWord) : Prop := Snd w.Kind w.Name w.N
def pw (k : Nat) (a : Int) (r : List UInt8) : Option (Int × (List UInt8) × Int × Int × (List UInt8) × Int × Bool) :=
  (rd r 0).bind fun b17u38 =>
            if ((b17u38.toNat : Nat) : Int) = 34 then
              (f31 k r).bind fun (t24u20_0, t24u20_1) =>
              (if t24u20_1 = 0 then
                some (Sum.inl ((a, r, a, 0, ([] : List UInt8), 0, false) : Int × (List UInt8) × Int × Int × (List UInt8) × Int × Bool))
              else
                if t24u20_1 < (r.length : Int) then
                  (rd r t24u20_1).bind fun b43u16 =>
                  (f51 ((b43u16.toNat : Nat) : Int)).bind fun t44u16 =>
                  if t44u16 then
                    some (Sum.inr ())
                  else
                    some (Sum.inl ((a, r, a, 0, ([] : List UInt8), 0, false) : Int × (List UInt8) × Int × Int × (List UInt8) × Int × Bool))
                else
                  some (Sum.inr ())).bind fun s => match s with
                | .inl st => some (st)
                | .inr _ => 
                  (sub r t24u20_1 (r.length : Int)).bind fun s17u39 =>
                  some (((IntKind.i64.wrap (a + t24u20_1), s17u39, a, 3, t24u20_0, 0, true) : Int × (List UInt8) × Int × Int × (List UInt8) × Int × Bool))
            else
              (f67 r ([32, 9] : List UInt8)).bind fun t60u4 =>
              (if t60u4 < 0 then
                some ((r.length : Int))
              else
                some (t60u4)).bind fun x6_95 =>
                (sub r 0 x6_95).bind fun s73u4 =>
                (sub r x6_95 (r.length : Int)).bind fun s17u40 =>
                (f16 k s73u4).bind fun t78u4 =>
                if t78u4 then
                  some (((IntKind.i64.wrap (a + x6_95), s17u40, a, 1, s73u4, 0, true) : Int × (List UInt8) × Int × Int × (List UInt8) × Int × Bool))
                else
                  (f68 s73u4).bind fun (t86u4_0, t86u4_1) =>
                  some (((IntKind.i64.wrap (a + x6_95), s17u40, a, 2, ([] : List UInt8), t86u4_0, t86u4_1) : Int × (List UInt8) × Int × Int × (List UInt8) × Int × Bool))
theorem f9_l2_word {k n : Nat} {l : List RowWord} {a : Int} {b : UInt8} {t : List UInt8} (h1 : isB b = false) (h2 : b.toNat ≠ 35) : f9_l2 k (n + 1) l a (b :: t) = (pw k a (b :: t)).bind fun (v1_0_93, v1_1_93, x34_93_0_0, x34_93_0_1, x34_93_0_2, x34_93_0_3, x34_93_1) =>
      if x34_93_1 then (apd 40 l ([(RowWord.mk x34_93_0_0 x34_93_0_1 x34_93_0_2 x34_93_0_3)])).bind fun l44u17 => f9_l2 k n l44u17 v1_0_93 v1_1_93
      else some (Sum.inr ((v1_0_93, v1_1_93, [], 3, a) : Int × (List UInt8) × (List RowWord) × Int × Int)) := by
  have hr : rd (b :: t) 0 = some b := rfl
  have h2' : ¬ ((b.toNat : Nat) : Int) = 35 := by omega
  rw [f9_l2, if_neg (by simp)]
  unfold pw
  simp only [hr, Option.bind_some, f51_eq, h1, Bool.false_eq_true, if_false, h2']
  rfl
theorem quoted_eq {b : UInt8} {t : List UInt8} (hb : b.toNat = 34) (hl : (b :: t).length ≤ 1000) : ∃ (x : List UInt8) (m : Nat), f31 4000 (b :: t) = some (x, (m : Int)) ∧ f32 4000 (b :: t) = some (x, (m : Int)) ∧ m ≤ (b :: t).length ∧ x.length ≤ 1000 := by
  have hr : rd (b :: t) 0 = some b := rfl
  have hne : ¬ (b :: t) = ([] : List UInt8) := by simp
  have c1 : ((b.toNat : Nat) : Int) = 34 := by omega
  obtain ⟨x, y, e1, e2, e3, e4, e5, e6⟩ := unq_loop (b :: t) hl 4000 [] 1 (by simp) (by omega) (by simp)
  rw [show ((1 : Nat) : Int) = 1 from rfl] at e1 e2
  have h31 : f31 4000 (b :: t) = some (ou x) := by
    unfold f31
    simp only [hne, if_false, hr, Option.bind_some, c1, if_true, e1]
    cases x <;> rfl
  have h32 : f32 4000 (b :: t) = some (ou y) := by
    unfold f32
    simp only [e2, Option.bind_some]
    cases y <;> rfl
  rw [← e3] at h32
  generalize ou x = z at *
  obtain ⟨z1, z2⟩ := z
  simp only at e4 e5 e6
  obtain ⟨m, rfl⟩ : ∃ m : Nat, z2 = m := ⟨z2.toNat, by omega⟩
  exact ⟨z1, m, h31, h32, by omega, by omega⟩
theorem word_eq (line : List UInt8) (hl : line.length ≤ 1000) {p : Nat} {b : UInt8} {t : List UInt8} (hp : p < line.length) (hd : line.drop p = b :: t) (nb : isB b = false) :
    ∃ (kind : Int) (name : List UInt8) (num : Int) (m : Nat) (ok : Bool) (w : RowWord),
      (∀ a, ∃ a' r', pw 4000 a (b :: t) = some (a', r', a, kind, name, num, ok) ∧ (ok = true → a' = IntKind.i64.wrap (a + (m : Int)) ∧ r' = (b :: t).drop m)) ∧
      f55 4000 line (p : Int) = some (w, if ok then (m : Int) else 0) ∧ (ok = true → w = RowWord.mk 0 kind name num ∧ 1 ≤ m ∧ m ≤ (b :: t).length ∧ Snd kind name num) := by
  have hr : rd (b :: t) 0 = some b := rfl
  have hget : ∀ m : Nat, rd line ((p + m : Nat) : Int) = (b :: t)[m]? := by intro m; rw [rd_nat, ← hd, List.getElem?_drop]
  have hrl : rd line (p : Int) = some b := hget 0
  have hlen : (b :: t).length = line.length - p := by rw [← hd, List.length_drop]
  by_cases q : b.toNat = 34
  · have c1 : ((b.toNat : Nat) : Int) = 34 := by omega
    obtain ⟨x, m, h31, h32, hm, hx⟩ := quoted_eq (t := t) q (by omega)
    have hsub : sub line (p : Int) (line.length : Int) = some (b :: t) := by rw [sub_all (by omega), hd]
    have hw : IntKind.i64.wrap ((p : Int) + (m : Int)) = ((p + m : Nat) : Int) := wr64 (by omega)
    have hsm : sub (b :: t) (m : Int) (((b :: t).length : Nat) : Int) = some ((b :: t).drop m) := sub_all hm
    unfold pw f55
    simp only [hr, hrl, Option.bind_some, c1, if_true, h31, h32, hsub, hw]
    by_cases h0 : m = 0
    · subst h0
      rw [if_neg (by omega)]
      refine ⟨0, [], 0, 0, false, RowWord.mk 0 3 x 0, fun a => ⟨a, b :: t, ?_, fun h => by cases h⟩, rfl, fun h => by cases h⟩
      rw [if_pos (show ((0 : Nat) : Int) = 0 from rfl)]
      rfl
    · have n0 : ¬ ((m : Nat) : Int) = 0 := by omega
      simp only [n0, if_false]
      rw [if_pos (show ((m : Nat) : Int) > 0 by omega)]
      by_cases h1 : m < (b :: t).length
      · obtain ⟨c, hc⟩ : ∃ c, (b :: t)[m]? = some c := ⟨(b :: t)[m], List.getElem?_eq_getElem h1⟩
        have hc2 : rd (b :: t) (m : Int) = some c := by rw [rd_nat]; exact hc
        rw [if_pos (show ((p + m : Nat) : Int) < (line.length : Int) by omega), hget m, hc]
        have hlt : ((m : Nat) : Int) < (((b :: t).length : Nat) : Int) := by omega
        simp only [hlt, if_true, hc2, Option.bind_some, f51_eq, f54_eq]
        cases isB c with
        | true =>
          refine ⟨3, x, 0, m, true, RowWord.mk 0 3 x 0, fun a => ⟨_, _, ?_, fun _ => ⟨rfl, rfl⟩⟩, rfl, fun _ => ⟨rfl, by omega, hm, .inr (.inr ⟨rfl, rfl, hx⟩)⟩⟩
          simp only [if_true, Option.bind_some, hsm]
        | false =>
          refine ⟨0, [], 0, 0, false, RowWord.mk 0 3 x 0, fun a => ⟨a, b :: t, ?_, fun h => by cases h⟩, rfl, fun h => by cases h⟩
          rfl
      · rw [if_neg (show ¬ ((p + m : Nat) : Int) < (line.length : Int) by omega)]
        have hlt : ¬ ((m : Nat) : Int) < (((b :: t).length : Nat) : Int) := by omega
        simp only [hlt, if_false, Option.bind_some, hsm]
        exact ⟨3, x, 0, m, true, RowWord.mk 0 3 x 0, fun a => ⟨_, _, rfl, fun _ => ⟨rfl, rfl⟩⟩, rfl, fun _ => ⟨rfl, by omega, hm, .inr (.inr ⟨rfl, rfl, hx⟩)⟩⟩
  · have c1 : ¬ ((b.toNat : Nat) : Int) = 34 := by omega
    have h67 : f67 (b :: t) [32, 9] = some (Lib.indexAny (b :: t) [32, 9]) := if_pos ⟨rfl, by omega⟩
    have hx : (if Lib.indexAny (b :: t) [32, 9] < 0 then some (((b :: t).length : Nat) : Int) else some (Lib.indexAny (b :: t) [32, 9])) = some (endB (b :: t) : Int) := by
      rw [← idx_end]; split <;> rfl
    have hle := endB_le (b :: t)
    have h1 : 1 ≤ endB (b :: t) := by
      unfold endB
      rw [if_neg (by rw [nb]; exact Bool.false_ne_true)]
      omega
    have h55 := f55_loop line hl 4000 p (by omega) (by omega)
    rw [hd] at h55
    generalize endB (b :: t) = m at *
    have hst : sub (b :: t) 0 (m : Int) = some ((b :: t).take m) := sub_to hle
    have hsm : sub (b :: t) (m : Int) (((b :: t).length : Nat) : Int) = some ((b :: t).drop m) := sub_all hle
    have hsl : sub line (p : Int) ((p + m : Nat) : Int) = some ((b :: t).take m) := by rw [sub_mid (by omega), hd]
    have hwl : ((b :: t).take m).length = m := by rw [List.length_take]; omega
    have hw1 : (b :: t).take m ≠ [] := fun h => by rw [h] at hwl; simp at hwl; omega
    generalize hwd : (b :: t).take m = wd at *
    have h16 := f16_eq (s := wd) (k := 4000) (by omega) (by omega)
    have h17 := f17_eq (s := wd) (k := 4000) (by omega) (by omega)
    unfold pw f55
    simp only [hr, hrl, Option.bind_some, c1, if_false, h67, hx, hst, hsm, h55, hsl, h16, h17, hwl]
    cases hnb : nameB wd with
    | true => exact ⟨1, wd, 0, m, true, RowWord.mk 0 1 wd 0, fun a => ⟨_, _, rfl, fun _ => ⟨rfl, rfl⟩⟩, rfl, fun _ => ⟨rfl, h1, hle, .inl ⟨rfl, hnb, rfl⟩⟩⟩
    | false =>
      obtain ⟨v, v', ok, g1, g2, g3⟩ := num_eq hw1 (by omega)
      simp only [Bool.false_eq_true, if_false, g1, g2, Option.bind_some]
      cases ok with
      | true =>
        obtain ⟨rfl, g4, g5⟩ := g3 rfl
        exact ⟨2, [], v, m, true, RowWord.mk 0 2 [] v, fun a => ⟨_, _, rfl, fun _ => ⟨rfl, rfl⟩⟩, rfl, fun _ => ⟨rfl, h1, hle, .inr (.inl ⟨rfl, rfl, g4, g5⟩)⟩⟩
      | false => exact ⟨2, [], v, m, false, RowWord.mk 0 0 [] 0, fun a => ⟨_, _, rfl, fun h => by cases h⟩, rfl, fun h => by cases h⟩
/-! A line -/
theorem line_eq (line : List UInt8) (hl : line.length ≤ 1000) (base : Nat) (hbase : base ≤ 100000) : ∀ (n p : Nat) (l : List RowWord), p ≤ line.length → line.length < n + p → l.length ≤ p → (∀ w ∈ l, SndW w) →
    (∃ ws v0 v1, f9_l2 4000 n l ((base + p : Nat) : Int) (line.drop p) = some (.inl (ws, v0, v1)) ∧ f30_l1 4000 line (base : Int) n l (p : Int) = some (.inl ws) ∧ ws.length ≤ line.length ∧ ∀ w ∈ ws, SndW w) ∨
    (∃ x y q, f9_l2 4000 n l ((base + p : Nat) : Int) (line.drop p) = some (.inr (x, y, [], 3, q)) ∧ f30_l1 4000 line (base : Int) n l (p : Int) = some (.inr (Row.mk 0 [], Fault.mk 3 q)))
  | 0, p, l, h1, h2, h3, hS => by omega
  | n + 1, p, l, h1, h2, h3, hS => by
    by_cases hp : p < line.length
    · obtain ⟨b, hb, hd⟩ := dropB hp
      have hlen : (b :: line.drop (p + 1)).length = line.length - p := by rw [← hd, List.length_drop]
      have hrl : rd line (p : Int) = some b := by rw [rd_nat]; exact hb
      rw [f30_l1, if_pos (by omega), hrl, hd]
      simp only [Option.bind_some, f54_eq]
      cases nb : isB b with
      | true =>
        have hr : rd (b :: line.drop (p + 1)) 0 = some b := rfl
        have hs : sub (b :: line.drop (p + 1)) 1 (((b :: line.drop (p + 1)).length : Nat) : Int) = some (line.drop (p + 1)) := sub_all (s := b :: line.drop (p + 1)) (p := 1) (by simp)
        rw [f9_l2, if_neg (by simp)]
        simp only [hr, Option.bind_some, f51_eq, nb, if_true, hs]
        have e1 : IntKind.i64.wrap (((base + p : Nat) : Int) + 1) = ((base + (p + 1) : Nat) : Int) := wr64 (n := 1) (by omega)
        have e2 : IntKind.i64.wrap ((p : Int) + 1) = ((p + 1 : Nat) : Int) := wr64 (n := 1) (by omega)
        rw [e1, e2]
        exact line_eq line hl base hbase n (p + 1) l (by omega) (by omega) (by omega) hS
      | false =>
        simp only [Bool.false_eq_true, if_false]
        by_cases h35 : b.toNat = 35
        · have c35 : ((b.toNat : Nat) : Int) = 35 := by omega
          have hr : rd (b :: line.drop (p + 1)) 0 = some b := rfl
          rw [f9_l2, if_neg (by simp)]
          simp only [hr, Option.bind_some, f51_eq, nb, Bool.false_eq_true, if_false, c35, if_true]
          exact .inl ⟨_, _, _, rfl, rfl, by omega, hS⟩
        · have c35 : ¬ ((b.toNat : Nat) : Int) = 35 := by omega
          obtain ⟨kind, name, num, m, ok, w, g1, g2, g3⟩ := word_eq line hl hp hd nb
          obtain ⟨a', r', g4, g5⟩ := g1 ((base + p : Nat) : Int)
          have ew : IntKind.i64.wrap ((base : Int) + (p : Int)) = ((base + p : Nat) : Int) := wr64 (by omega)
          rw [f9_l2_word nb h35, g4, if_neg c35, g2, ew]
          simp only [Option.bind_some]
          cases ok with
          | true =>
            obtain ⟨rfl, m1, m2, m3⟩ := g3 rfl
            obtain ⟨rfl, rfl⟩ := g5 rfl
            have n0 : ¬ ((m : Nat) : Int) = 0 := by omega
            have ha : ∀ z : RowWord, apd 40 l [z] = some (l ++ [z]) := fun z => if_pos (by simp only [List.length_cons, List.length_nil]; omega)
            have e1 : IntKind.i64.wrap (((base + p : Nat) : Int) + (m : Int)) = ((base + (p + m) : Nat) : Int) := by rw [wr64 (by omega), Nat.add_assoc]
            have e2 : IntKind.i64.wrap ((p : Int) + (m : Int)) = ((p + m : Nat) : Int) := wr64 (by omega)
            simp only [if_true, n0, if_false, ha, Option.bind_some, e1, e2]
            have hdd : (b :: line.drop (p + 1)).drop m = line.drop (p + m) := by rw [← hd, List.drop_drop]
            rw [hdd]
            exact line_eq line hl base hbase n (p + m) _ (by omega) (by omega) (by simp only [List.length_append, List.length_cons, List.length_nil]; omega) (by
              intro z hz
              rcases List.mem_append.1 hz with hz | hz
              · exact hS z hz
              · simp only [List.mem_singleton] at hz
                subst hz; exact m3)
          | false =>
            simp only [Bool.false_eq_true, if_false, if_true]
            exact .inr ⟨_, _, _, rfl, rfl⟩
    · rw [f9_l2, f30_l1, List.drop_eq_nil_of_le (by omega), if_pos rfl, if_neg (by omega)]
      exact .inl ⟨_, _, _, rfl, rfl, by omega, hS⟩
/-! Lines -/
theorem index1_miss (c : UInt8) : ∀ (p : List UInt8), (∀ x ∈ p, x ≠ c) → Lib.index p [c] = -1
  | [], _ => rfl
  | a :: p, h => by
    have ha := h a (List.mem_cons_self ..)
    rw [Lib.index, index1_miss c p fun x hx => h x (List.mem_cons_of_mem _ hx)]
    have : ([c] : List UInt8).isPrefixOf (a :: p) = false := by simp [List.isPrefixOf, Ne.symm ha]
    rw [this]; rfl
theorem index1_hit (c : UInt8) (q : List UInt8) : ∀ (p : List UInt8), (∀ x ∈ p, x ≠ c) → Lib.index (p ++ c :: q) [c] = (p.length : Int)
  | [], _ => by
    rw [List.nil_append, Lib.index]
    have : ([c] : List UInt8).isPrefixOf (c :: q) = true := by simp [List.isPrefixOf]
    rw [this]; rfl
  | a :: p, h => by
    have ha := h a (List.mem_cons_self ..)
    have ih := index1_hit c q p fun x hx => h x (List.mem_cons_of_mem _ hx)
    rw [List.cons_append, Lib.index, ih]
    have : ([c] : List UInt8).isPrefixOf (a :: (p ++ c :: q)) = false := by simp [List.isPrefixOf, Ne.symm ha]
    rw [this]
    have e : ((p.length : Int) == -1) = false := by rw [beq_eq_false_iff_ne]; omega
    rw [e]; simp
def joinN (p : List UInt8) : List (List UInt8) → List UInt8
  | [] => p
  | q :: qs => p ++ 10 :: joinN q qs
def noN (p : List UInt8) : Prop := ∀ x ∈ p, x ≠ 10
theorem count_noN {p : List UInt8} (h : noN p) : Lib.count p [10] = 0 := Lib.count_miss (index1_miss 10 p h)
theorem split_joinN : ∀ (p : List UInt8) (ps : List (List UInt8)), noN p → (∀ q ∈ ps, noN q) → Lib.splitK [10] 0 (Lib.count (joinN p ps) [10]) (joinN p ps) = p :: ps
  | p, [], hp, _ => by
    rw [joinN, count_noN hp]; rfl
  | p, q :: qs, hp, hq => by
    have hi := index1_hit 10 (joinN q qs) p hp
    have hd : List.drop (p.length + 1) (p ++ 10 :: joinN q qs) = joinN q qs := by
      rw [List.drop_append]; simp
    rw [joinN, Lib.count_hit (by simp) hi, show ([10] : List UInt8).length = 1 from rfl, hd, Nat.add_comm, Lib.splitK, hi]
    have e : ((p.length : Int) == -1) = false := by rw [beq_eq_false_iff_ne]; omega
    rw [e]
    have ih := split_joinN q qs (hq q (List.mem_cons_self ..)) fun r hr => hq r (List.mem_cons_of_mem _ hr)
    simp only [Bool.false_eq_true, if_false, Int.toNat_natCast, Nat.add_zero]
    rw [show ([10] : List UInt8).length = 1 from rfl, hd, ih]
    simp
theorem ex_joinN : ∀ (s : List UInt8), ∃ p ps, s = joinN p ps ∧ noN p ∧ (∀ q ∈ ps, noN q) ∧ ps.length ≤ s.length
  | [] => ⟨[], [], rfl, fun _ h => (nomatch h), fun _ h => (nomatch h), Nat.le_refl _⟩
  | a :: s => by
    obtain ⟨p, ps, h1, h2, h3, h4⟩ := ex_joinN s
    by_cases ha : a = 10
    · subst ha
      refine ⟨[], p :: ps, by rw [joinN, h1]; rfl, fun _ h => (nomatch h), fun q hq => ?_, by simp; omega⟩
      rcases List.mem_cons.1 hq with rfl | hq
      · exact h2
      · exact h3 q hq
    · refine ⟨a :: p, ps, ?_, fun x hx => ?_, h3, by simp; omega⟩
      · rw [h1]; cases ps <;> rfl
      · rcases List.mem_cons.1 hx with rfl | hx
        · exact ha
        · exact h2 x hx
theorem f28_eq {p : List UInt8} {ps : List (List UInt8)} (hp : noN p) (hps : ∀ q ∈ ps, noN q) (hl : (joinN p ps).length < 4294967281) : f28 (joinN p ps) [10] = some (p :: ps) := by
  unfold f28
  rw [if_pos ⟨hl, by simp⟩, Lib.splitB_data]
  have e : (bs (joinN p ps)).data.toList = joinN p ps := by simp [bs]
  have e2 : (bs [10]).data.toList = [10] := rfl
  show some (Lib.splitK (bs [10]).data.toList 0 (Lib.count (bs (joinN p ps)).data.toList (bs [10]).data.toList) (bs (joinN p ps)).data.toList) = _
  rw [e, e2, split_joinN p ps hp hps]
end Go.Proofs.YtgmejigjajcbfaaGreatDoor

set_option linter.unusedVariables false
set_option linter.unusedSimpArgs false
namespace Go.Proofs.YtgmejigjajcbfaaGreatDoor
open Go Go.Det Go.RowKit
def endN : List UInt8 → Nat
  | [] => 0
  | b :: l => if b.toNat = 10 then 0 else endN l + 1
theorem endN_join : ∀ (p : List UInt8) (ps : List (List UInt8)), noN p → endN (joinN p ps) = p.length
  | [], [], _ => rfl
  | [], q :: qs, _ => rfl
  | a :: p, ps, h => by
    have ha : a ≠ 10 := h a (List.mem_cons_self ..)
    have ha' : ¬ a.toNat = 10 := fun e => ha (UInt8.toNat_inj.1 (by show a.toNat = 10; omega))
    have ih := endN_join p ps fun x hx => h x (List.mem_cons_of_mem _ hx)
    have e : joinN (a :: p) ps = a :: joinN p ps := by cases ps <;> rfl
    rw [e, endN, if_neg ha', ih, List.length_cons]
theorem endN_le : ∀ l : List UInt8, endN l ≤ l.length
  | [] => Nat.le_refl _
  | b :: l => by
    have := endN_le l
    unfold endN
    split
    · omega
    · simp only [List.length_cons]; omega
theorem f10_end (s : List UInt8) (hs : s.length ≤ 3000) : ∀ (n p : Nat), p ≤ s.length → s.length < n + p → f10_l2 s n (p : Int) = some ((p + endN (s.drop p) : Nat) : Int)
  | 0, p, h1, h2 => by omega
  | n + 1, p, h1, h2 => by
    rw [f10_l2]
    by_cases hp : p < s.length
    · obtain ⟨b, hb, hd⟩ := dropB hp
      rw [if_pos (by omega), rd_nat, hb, hd]
      simp only [Option.bind_some]
      by_cases h : b.toNat = 10
      · rw [if_pos (by omega), endN, if_pos h]; rfl
      · rw [if_neg (by omega), show IntKind.i64.wrap ((p : Int) + 1) = ((p + 1 : Nat) : Int) from wr64 (n := 1) (by omega), f10_end s hs n (p + 1) (by omega) (by omega), endN, if_neg h]
        congr 2
        omega
    · rw [if_neg (by omega), List.drop_eq_nil_of_le (by omega)]
      simp [endN]
def okW (r : Row) : Prop := r.Words.length ≤ 1000 ∧ r.Words ≠ [] ∧ ∀ w ∈ r.Words, SndW w
def okRs (rs : List Row) : Prop := rs.length ≤ 3001 ∧ ∀ r ∈ rs, okW r
def flipR : (List Row × Fault) ⊕ List Row → List Row ⊕ (List Row × Fault)
  | .inl x => .inr x
  | .inr x => .inl x
def okO : (List Row × Fault) ⊕ List Row → Prop
  | .inl x => x.1 = []
  | .inr x => okRs x
theorem rows_eq (s : List UInt8) (hs : s.length ≤ 3000) (ls : List (List UInt8)) : ∀ (ps : List (List UInt8)) (p pre : List UInt8) (n i : Nat) (rows : List Row), s = pre ++ joinN p ps → noN p → (∀ q ∈ ps, noN q) → ls.drop i = p :: ps → i ≤ pre.length → ps.length + 2 ≤ n →
    rows.length ≤ i → (∀ r ∈ rows, okW r) →
    ∃ o, f9_l1 4000 ls n rows ((pre.length : Nat) : Int) (i : Int) = some (flipR o) ∧ f10_l1 4000 s n rows ((pre.length : Nat) : Int) = some o ∧ okO o := by
  intro ps
  induction ps with
  | nil =>
    intro p pre n i rows h1 h2 h3 h4 h5 h6 h7 h8
    exact rows_step p pre n i rows h1 h2 h3 h4 h5 h6 h7 h8 (by
      intro rows' n' h9 h10 h11
      have hl : ls.length = i + 1 := by
        have := congrArg List.length h4
        rw [List.length_drop, List.length_singleton] at this
        have : i < ls.length := by omega
        omega
      obtain ⟨m, rfl⟩ : ∃ m, n' = m + 1 := ⟨n' - 1, by simp at h9; omega⟩
      have hsl : s.length = pre.length + p.length := by rw [h1, joinN, List.length_append]
      rw [f9_l1, f10_l1, if_neg (by omega)]
      have hd : decide (((i + 1 : Nat) : Int) < (ls.length : Int)) = false := by rw [decide_eq_false_iff_not]; omega
      simp only [Option.bind_some, hd, Bool.false_eq_true, if_false]
      exact ⟨.inr rows', rfl, rfl, by omega, h11⟩)
  | cons q qs ih =>
    intro p pre n i rows h1 h2 h3 h4 h5 h6 h7 h8
    exact rows_step p pre n i rows h1 h2 h3 h4 h5 h6 h7 h8 (by
      intro rows' n' h9 h10 h11
      have e := ih q (pre ++ p ++ [10]) n' (i + 1) rows' (by rw [h1, joinN]; simp) (h3 q (List.mem_cons_self ..)) (fun r hr => h3 r (List.mem_cons_of_mem _ hr))
        (by rw [← List.drop_drop, h4]; rfl) (by simp only [List.length_append, List.length_cons, List.length_nil]; omega) (by simp only [List.length_cons] at h9; omega) h10 h11
      have hl : (pre ++ p ++ [10]).length = pre.length + p.length + 1 := by simp only [List.length_append, List.length_cons, List.length_nil]
      rw [hl] at e
      exact e)
where
  rows_step {ps : List (List UInt8)} (p pre : List UInt8) (n i : Nat) (rows : List Row) (h1 : s = pre ++ joinN p ps) (h2 : noN p) (h3 : ∀ q ∈ ps, noN q) (h4 : ls.drop i = p :: ps) (h5 : i ≤ pre.length) (h6 : ps.length + 2 ≤ n)
      (h7 : rows.length ≤ i) (h8 : ∀ r ∈ rows, okW r)
      (hk : ∀ (rows' : List Row) (n' : Nat), ps.length + 1 ≤ n' → rows'.length ≤ i + 1 → (∀ r ∈ rows', okW r) →
        ∃ o, f9_l1 4000 ls n' rows' ((pre.length + p.length + 1 : Nat) : Int) ((i + 1 : Nat) : Int) = some (flipR o) ∧ f10_l1 4000 s n' rows' ((pre.length + p.length + 1 : Nat) : Int) = some o ∧ okO o) :
      ∃ o, f9_l1 4000 ls n rows ((pre.length : Nat) : Int) (i : Int) = some (flipR o) ∧ f10_l1 4000 s n rows ((pre.length : Nat) : Int) = some o ∧ okO o := by
    obtain ⟨m, rfl⟩ : ∃ m, n = m + 1 := ⟨n - 1, by omega⟩
    have hil : i < ls.length := by
      have := congrArg List.length h4
      rw [List.length_drop, List.length_cons] at this
      omega
    have hp : ls[i]? = some p := by
      have : (ls.drop i)[0]? = some p := by rw [h4]; rfl
      rw [List.getElem?_drop] at this; exact this
    have hdec : decide ((i : Int) < (ls.length : Int)) = true := by rw [decide_eq_true_eq]; omega
    have hjl : p.length ≤ (joinN p ps).length := by
      cases ps with
      | nil => exact Nat.le_refl _
      | cons q qs => rw [joinN, List.length_append]; omega
    have hsl : s.length = pre.length + (joinN p ps).length := by rw [h1, List.length_append]
    have ei : IntKind.i64.wrap ((i : Int) + 1) = ((i + 1 : Nat) : Int) := wr64 (n := 1) (by omega)
    have ep : IntKind.i64.wrap (((pre.length : Nat) : Int) + IntKind.i64.wrap (((p.length : Nat) : Int) + 1)) = ((pre.length + p.length + 1 : Nat) : Int) := by
      rw [show IntKind.i64.wrap (((p.length : Nat) : Int) + 1) = ((p.length + 1 : Nat) : Int) from wr64 (n := 1) (by omega), wr64 (by omega)]; rfl
    rw [f9_l1, f10_l1]
    simp only [Option.bind_some, hdec, if_true, rd_nat, hp]
    by_cases hemp : pre.length < s.length
    · have hend : f10_l2 s 4000 ((pre.length : Nat) : Int) = some ((pre.length + p.length : Nat) : Int) := by
        rw [f10_end s hs 4000 pre.length (by omega) (by omega), h1, List.drop_left, endN_join p ps h2]
      have hsub : sub s ((pre.length : Nat) : Int) ((pre.length + p.length : Nat) : Int) = some p := by
        rw [sub_mid (by omega), h1, List.drop_left]
        congr 1
        cases ps with
        | nil => rw [joinN]; exact List.take_length
        | cons q qs => rw [joinN]; exact List.take_left
      have hdiff : IntKind.i64.wrap (((pre.length + p.length : Nat) : Int) - ((pre.length : Nat) : Int)) = ((p.length : Nat) : Int) := by rw [w64 (by omega) (by omega)]; omega
      have e1 : IntKind.i64.wrap (((pre.length + p.length : Nat) : Int) + 1) = ((pre.length + p.length + 1 : Nat) : Int) := wr64 (n := 1) (by omega)
      rw [if_pos (show ((pre.length : Nat) : Int) < (s.length : Int) by omega), hend]
      simp only [Option.bind_some, hdiff, hsub, e1, ei, ep]
      by_cases hbig : ((p.length : Nat) : Int) > 1000
      · rw [if_pos hbig, if_pos hbig]
        exact ⟨.inl ([], Fault.mk 4 ((pre.length : Nat) : Int)), rfl, rfl, rfl⟩
      · rw [if_neg hbig, if_neg hbig]
        have hle := line_eq p (by omega) pre.length (by omega) 4000 0 [] (by omega) (by omega) (by simp) (by simp)
        rw [List.drop_zero, Nat.add_zero, show ((0 : Nat) : Int) = 0 from rfl] at hle
        rcases hle with ⟨ws, v0, v1, g1, g2, g3, g4⟩ | ⟨x, y, q, g1, g2⟩
        · have h30 : f30 4000 p ((pre.length : Nat) : Int) = some (Row.mk ((pre.length : Nat) : Int) ws, Fault.mk 0 0) := by unfold f30; rw [g2]; rfl
          rw [g1, h30]
          simp only [Option.bind_some, if_true]
          by_cases hw : ((ws.length : Nat) : Int) > 0
          · have ha : ∀ z : Row, apd 32 rows [z] = some (rows ++ [z]) := fun z => if_pos (by simp only [List.length_cons, List.length_nil]; omega)
            simp only [hw, if_true, ha, Option.bind_some]
            refine hk _ m (by omega) (by simp only [List.length_append, List.length_cons, List.length_nil]; omega) ?_
            intro r hr
            rcases List.mem_append.1 hr with hr | hr
            · exact h8 r hr
            · simp only [List.mem_singleton] at hr
              subst hr
              refine ⟨by show ws.length ≤ 1000; omega, fun h => ?_, g4⟩
              have h : ws = [] := h
              subst h; simp at hw
          · simp only [hw, if_false, Option.bind_some]
            exact hk rows m (by omega) (by omega) h8
        · have h30 : f30 4000 p ((pre.length : Nat) : Int) = some (Row.mk 0 [], Fault.mk 3 q) := by unfold f30; rw [g2]; rfl
          rw [g1, h30]
          have n3 : ¬ (3 : Int) = 0 := by decide
          simp only [Option.bind_some, n3, if_false]
          exact ⟨.inl ([], Fault.mk 3 q), rfl, rfl, rfl⟩
    · rw [if_neg (show ¬ ((pre.length : Nat) : Int) < (s.length : Int) by omega)]
      have hp0 : p = [] := List.length_eq_zero_iff.1 (by omega)
      subst hp0
      have hps : ps = [] := by
        cases ps with
        | nil => rfl
        | cons q qs => rw [joinN] at hsl; simp at hsl; omega
      subst hps
      have hll : ls.length = i + 1 := by
        have := congrArg List.length h4
        rw [List.length_drop, List.length_singleton] at this
        omega
      have n0 : ¬ ((([] : List UInt8).length : Nat) : Int) > 1000 := by decide
      have n1 : ¬ ((([] : List RowWord).length : Nat) : Int) > 0 := by decide
      have h92 : f9_l2 4000 4000 [] ((pre.length : Nat) : Int) [] = some (.inl ([], ((pre.length : Nat) : Int), [])) := by rw [f9_l2, if_pos rfl]
      simp only [n0, if_false, h92, Option.bind_some, if_true, n1, ei]
      obtain ⟨m', rfl⟩ : ∃ m', m = m' + 1 := ⟨m - 1, by simp at h6; omega⟩
      rw [f9_l1]
      have hd : decide (((i + 1 : Nat) : Int) < (ls.length : Int)) = false := by rw [decide_eq_false_iff_not]; omega
      simp only [Option.bind_some, hd, Bool.false_eq_true, if_false]
      exact ⟨.inr rows, rfl, rfl, by omega, h8⟩
theorem all_eq {s : List UInt8} (hs : s.length ≤ 3000) : ∃ r f, f9 4000 s = some (r, f) ∧ f10 4000 s = some (r, f) ∧ okRs r := by
  obtain ⟨p, ps, h1, h2, h3, h4⟩ := ex_joinN s
  have h28 : f28 s [10] = some (p :: ps) := by rw [h1]; exact f28_eq h2 h3 (by rw [← h1]; omega)
  obtain ⟨o, g1, g2, g3⟩ := rows_eq s hs (p :: ps) ps p [] 4000 0 [] (by simpa using h1) h2 h3 rfl (Nat.le_refl _) (by omega) (Nat.le_refl _) (by simp)
  rw [show ((([] : List UInt8).length : Nat) : Int) = 0 from rfl, show ((0 : Nat) : Int) = 0 from rfl] at g1
  rw [show ((([] : List UInt8).length : Nat) : Int) = 0 from rfl] at g2
  unfold f9 f10
  rw [if_neg (by omega), if_neg (by omega), h28]
  simp only [Option.bind_some, g1, g2]
  rcases o with ⟨a, f⟩ | r
  · have : a = [] := g3
    subst this
    exact ⟨[], f, rfl, rfl, by simp, by simp⟩
  · exact ⟨r, Fault.mk 0 0, rfl, rfl, g3⟩
end Go.Proofs.YtgmejigjajcbfaaGreatDoor

set_option linter.unusedVariables false
set_option linter.unusedSimpArgs false
namespace Go.Proofs.YtgmejigjajcbfaaGreatDoor
open Go Go.Det Go.RowKit
/-! What is quoted is read back -/
def hexOkB (x : Nat) : Bool := decide (f70 (((hexS.getD (x / 16) 0).toNat : Nat) : Int) = some (((x / 16 : Nat) : Int), true)) && decide (f70 (((hexS.getD (x % 16) 0).toNat : Nat) : Int) = some (((x % 16 : Nat) : Int), true)) && decide (c8 (bits .or .u8 (gshl .u8 ((x / 16 : Nat) : Int) 4) ((x % 16 : Nat) : Int)) = some (UInt8.ofNat x))
theorem hexvB (b : UInt8) : f70 (((hexS.getD (b.toNat / 16) 0).toNat : Nat) : Int) = some (((b.toNat / 16 : Nat) : Int), true) ∧ f70 (((hexS.getD (b.toNat % 16) 0).toNat : Nat) : Int) = some (((b.toNat % 16 : Nat) : Int), true) ∧ c8 (bits .or .u8 (gshl .u8 ((b.toNat / 16 : Nat) : Int) 4) ((b.toNat % 16 : Nat) : Int)) = some b := by
  have h : hexOkB b.toNat = true := all256 (P := hexOkB) (by kernel_rfl) b
  unfold hexOkB at h
  rw [Bool.and_eq_true, Bool.and_eq_true, decide_eq_true_eq, decide_eq_true_eq, decide_eq_true_eq] at h
  refine ⟨h.1.1, h.1.2, h.2.trans ?_⟩
  simp
theorem decN_more {n n' b0 b1 b2 b3 c1 c2 c3 r m : Nat} (h : Lib.decodeN n b0 b1 b2 b3 = (r, m)) (hm : 2 ≤ m) (hn : m ≤ n') (e1 : c1 = b1) (e2 : 2 < m → c2 = b2) (e3 : 3 < m → c3 = b3) : Lib.decodeN n' b0 c1 c2 c3 = (r, m) := by
  subst e1
  rcases Lib.decodeN_shape n b0 c1 b2 b3 with ⟨c, e⟩ | ⟨k1, k2, k3, cv, e⟩ | ⟨k1, k2, k3, k4, cv, cs, e⟩ | ⟨k1, k2, k3, k4, k5, cv, cw, e⟩ | e
  · rw [e] at h; cases h; omega
  · rw [e] at h; cases h
    unfold Lib.decodeN
    rw [if_neg (by omega), if_pos (by omega), if_pos (by omega)]
  · rw [e] at h; cases h
    have := e2 (by omega); subst this
    unfold Lib.decodeN
    rw [if_neg (by omega), if_neg (by omega), if_pos (by omega), if_pos (by omega)]
  · rw [e] at h; cases h
    have := e2 (by omega); subst this
    have := e3 (by omega); subst this
    unfold Lib.decodeN
    rw [if_neg (by omega), if_neg (by omega), if_neg (by omega), if_pos (by omega), if_pos (by omega)]
  · rw [e] at h; cases h; omega
theorem getD_pre {l rest : List UInt8} {m k : Nat} (hk : k < m) (hm : m ≤ l.length) : (l.take m ++ rest).getD k 0 = l.getD k 0 := by
  simp only [List.getD]
  rw [List.getElem?_append_left (by rw [List.length_take]; omega), List.getElem?_take_of_lt hk]
theorem dec_pre {l rest : List UInt8} {r m : Nat} (h : Lib.decodeL l = (r, m)) (hm : 2 ≤ m) (hl : m ≤ l.length) : Lib.decodeL (l.take m ++ rest) = (r, m) := by
  rw [Lib.decodeL_N] at h ⊢
  rw [getD_pre (by omega) hl]
  refine decN_more h hm (by rw [List.length_append, List.length_take]; omega) (by rw [getD_pre (by omega) hl]) (fun q => by rw [getD_pre q hl]) (fun q => by rw [getD_pre q hl])
theorem dec_ascii (b : UInt8) (t : List UInt8) (h : b.toNat < 128) : Lib.decodeL (b :: t) = (b.toNat, 1) := by
  rw [Lib.decodeL_N]
  exact Lib.decodeN_ascii _ _ _ _ _ h
theorem escB_pos (b : UInt8) : 1 ≤ (escB b).length := by
  unfold escB hexB
  repeat' split
  all_goals simp
theorem rb_loop (Q rest : List UInt8) (hQ : Q.length ≤ 2000) (hR : rest.length ≤ Q.length) : ∀ (n : Nat) (l acc : List UInt8) (p : Nat), l.length ≤ 1000 → Q.drop p = qS 4000 l ++ 34 :: rest → Q.length < n + p → acc.length + l.length ≤ 1000 → f31_l1 Q n acc (p : Int) = some (.inl (acc ++ l, ((Q.length - rest.length : Nat) : Int)))
  | 0, l, acc, p, h1, h2, h3, h4 => by
    have := congrArg List.length h2
    rw [List.length_drop, List.length_append, List.length_cons] at this
    omega
  | n + 1, l, acc, p, h1, h2, h3, h4 => by
    have hlen := congrArg List.length h2
    rw [List.length_drop, List.length_append, List.length_cons] at hlen
    have hp : p < Q.length := by omega
    rw [f31_l1, if_pos (by omega), sub_all (by omega)]
    have ih := rb_loop Q rest hQ hR n
    have h1' : IntKind.i64.wrap ((p : Int) + 1) = ((p + 1 : Nat) : Int) := wr64 (n := 1) (by omega)
    have h2' : IntKind.i64.wrap ((p : Int) + IntKind.i64.wrap (1 + 1)) = ((p + 2 : Nat) : Int) := wr64 (n := 2) (by omega)
    have h4' : IntKind.i64.wrap ((p : Int) + IntKind.i64.wrap (1 + 3)) = ((p + 4 : Nat) : Int) := wr64 (n := 4) (by omega)
    have hdd : ∀ m, Q.drop (p + m) = (Q.drop p).drop m := by intro m; rw [List.drop_drop]
    have n1 : ¬ ((1 : Int) = 0) := by omega
    have n3 : ¬ ((3 : Int) = 0) := by omega
    simp only [Option.bind_some]
    cases l with
    | nil =>
      have hq : Q.drop p = 34 :: rest := h2
      rw [hq]
      rw [f35_of (by simp), dec_ascii 34 _ (by decide)]
      simp only [Option.bind_some]
      rw [if_pos (by rfl), ap1 (by simp; omega), h1']
      have : p + 1 = Q.length - rest.length := by simp [qS] at hlen; omega
      simp [this]
    | cons b t =>
      have ht : t.length < 3999 := by simp only [List.length_cons] at h1; omega
      have hL := longS_le b t
      have hb256 := b.toNat_lt
      simp only [List.length_cons] at h1 h4 hL
      rw [qS_cons ht] at h2
      by_cases q : 0 < longS (b :: t)
      · rw [if_pos q, List.append_assoc] at h2
        cases shape b t with
        | a h e => simp only [longS, e] at q; rw [if_neg (by omega)] at q; omega
        | c h e h1 => simp only [longS, e] at q; rw [if_neg (by omega)] at q; omega
        | b r m h e g1 g2 g3 g4 g5 g6 g7 g8 =>
          have hr : 160 ≤ r := by
            by_cases k : 160 ≤ r
            · exact k
            · simp only [longS, e] at q; rw [if_neg (by omega)] at q; omega
          have hl0 : longS (b :: t) = m := by simp only [longS, e]; rw [if_pos ⟨hr, g1⟩]
          rw [hl0] at h2 hL
          have htk : ((b :: t).take m).length = m := by rw [List.length_take]; simp only [List.length_cons] at g3 ⊢; omega
          have hdr := hdd m
          have hmp : p + m ≤ Q.length := by
            have := congrArg List.length h2
            rw [List.length_drop, List.length_append, htk] at this; omega
          have htake : (Q.drop p).take m = (b :: t).take m := by rw [h2, List.take_append_of_le_length (by omega), List.take_of_length_le (by omega)]
          have hdrop : Q.drop (p + m) = qS 4000 ((b :: t).drop m) ++ 34 :: rest := by rw [hdr, h2, List.drop_append_of_le_length (by omega), List.drop_of_length_le (by omega), List.nil_append]
          have hne : Q.drop p ≠ [] := by rw [h2]; intro k; have := congrArg List.length k; rw [List.length_append, htk] at this; simp at this
          have hdec : Lib.decodeL (Q.drop p) = (r, m) := by rw [h2]; exact dec_pre e g1 g3
          rw [f35_of hne, hdec]
          simp only [Option.bind_some]
          rw [if_neg (by omega), if_neg (by omega), f37_m (by omega) (by omega)]
          simp only [Option.bind_some]
          rw [if_pos (by rw [decide_eq_true_eq]; omega), wr64 (by omega), sub_mid hmp, htake]
          simp only [Option.bind_some]
          rw [ap1 (by rw [htk]; omega)]
          simp only [Option.bind_some]
          rw [ih ((b :: t).drop m) _ (p + m) (by rw [List.length_drop, List.length_cons]; omega) hdrop (by omega) (by rw [List.length_append, htk, List.length_drop, List.length_cons]; omega), List.append_assoc, List.take_append_drop]
      · rw [if_neg q, List.append_assoc] at h2
        have hfin : ∀ m : Nat, m = (escB b).length → f31_l1 Q n (acc ++ [b]) ((p + m : Nat) : Int) = some (.inl (acc ++ b :: t, ((Q.length - rest.length : Nat) : Int))) := by
          rintro m rfl
          rw [ih t _ _ (by omega) (by rw [hdd, h2, List.drop_append_of_le_length (by omega), List.drop_of_length_le (by omega), List.nil_append]) (by have := escB_pos b; omega) (by simp; omega)]
          simp
        have hpl : p + (escB b).length ≤ Q.length := by
          have := congrArg List.length h2
          rw [List.length_drop, List.length_append] at this
          have := escB_pos b
          omega
        by_cases q1 : b.toNat = 34 ∨ b.toNat = 92
        · have he : escB b = [92, b] := by unfold escB; rw [if_pos q1]
          rw [he] at h2 hpl hfin
          have c8b : c8 ((b.toNat : Nat) : Int) = some b := by unfold c8; rw [if_pos (by omega)]; simp
          have hd1 : Q.drop (p + 1) = b :: (qS 4000 t ++ 34 :: rest) := by rw [hdd, h2]; rfl
          rw [h2, f35_of (by simp)]
          simp only [List.cons_append, List.nil_append]
          rw [dec_ascii 92 _ (by decide)]
          simp only [Option.bind_some]
          rw [if_neg (by decide), if_pos (by rfl), h1', sub_all (by simp at hpl; omega), hd1]
          simp only [Option.bind_some]
          rw [f56_q q1]
          simp only [Option.bind_some, n1, if_false, c8b, h2']
          rw [ap1 (by simp; omega)]
          exact hfin 2 rfl
        · by_cases q3 : 32 ≤ b.toNat ∧ b.toNat ≤ 126
          · have he : escB b = [b] := by unfold escB; rw [if_neg q1, if_pos q3]
            rw [he] at h2 hpl hfin
            have hs1 : sub Q (p : Int) ((p + 1 : Nat) : Int) = some [b] := by rw [sub_mid (by simpa using hpl), h2]; rfl
            rw [h2, f35_of (by simp)]
            simp only [List.cons_append, List.nil_append]
            rw [dec_ascii b _ (by omega)]
            simp only [Option.bind_some]
            rw [if_neg (by omega), if_neg (by omega), f37_1]
            simp only [Option.bind_some]
            rw [if_pos (by rw [decide_eq_true_eq]; omega), show IntKind.i64.wrap ((p : Int) + ((1 : Nat) : Int)) = ((p + 1 : Nat) : Int) from h1', hs1]
            simp only [Option.bind_some]
            rw [ap1 (by simp; omega)]
            exact hfin 1 rfl
          · have he : escB b = hexB b := by unfold escB; rw [if_neg q1, if_neg q3]
            rw [he] at h2 hpl hfin
            obtain ⟨v1, v2, v3⟩ := hexvB b
            have hd1 : Q.drop (p + 1) = 120 :: hexS.getD (b.toNat / 16) 0 :: hexS.getD (b.toNat % 16) 0 :: (qS 4000 t ++ 34 :: rest) := by rw [hdd, h2]; rfl
            rw [h2, f35_of (by simp [hexB])]
            simp only [hexB, List.cons_append, List.nil_append]
            rw [dec_ascii 92 _ (by decide)]
            simp only [Option.bind_some]
            rw [if_neg (by decide), if_pos (by rfl), h1', sub_all (by simp [hexB] at hpl; omega), hd1]
            simp only [Option.bind_some]
            rw [f56_x (by decide) v1 v2]
            simp only [Option.bind_some, and_self, if_true, n3, if_false, v3, h4']
            rw [ap1 (by simp; omega)]
            exact hfin 4 rfl
end Go.Proofs.YtgmejigjajcbfaaGreatDoor

set_option linter.unusedVariables false
set_option linter.unusedSimpArgs false
namespace Go.Proofs.YtgmejigjajcbfaaGreatDoor
open Go Go.Det Go.RowKit
/-! Numerals -/
def dgt (b : UInt8) : Prop := 48 ≤ b.toNat ∧ b.toNat ≤ 57
def digs (l : List UInt8) : Prop := ∀ b ∈ l, dgt b
theorem digs_append {a b : List UInt8} : digs (a ++ b) ↔ digs a ∧ digs b := by
  unfold digs
  constructor
  · intro h; exact ⟨fun x hx => h x (by simp [hx]), fun x hx => h x (by simp [hx])⟩
  · rintro ⟨h1, h2⟩ x hx
    rcases List.mem_append.1 hx with q | q
    · exact h1 x q
    · exact h2 x q
theorem dv {b : UInt8} (h : dgt b) : Lib.digitVal b = some (b.toNat - 48) := if_pos h
theorem decFrom_snoc {b : UInt8} : ∀ {l : List UInt8} {acc v : Nat}, Lib.decFrom acc l = some v → dgt b → Lib.decFrom acc (l ++ [b]) = some (v * 10 + (b.toNat - 48))
  | [], acc, v, h, hb => by
    simp only [Lib.decFrom, Option.some.injEq] at h; subst h
    simp [Lib.decFrom, dv hb]
  | c :: l, acc, v, h, hb => by
    simp only [Lib.decFrom, List.cons_append] at h ⊢
    split at h
    · exact decFrom_snoc h hb
    · cases h
theorem dd_small {u : Nat} (h : u < 10) : Lib.decDigits u = [UInt8.ofNat (48 + u)] := by rw [Lib.decDigits, dif_pos h]
theorem dd_big {u : Nat} (h : ¬ u < 10) : Lib.decDigits u = Lib.decDigits (u / 10) ++ [UInt8.ofNat (48 + u % 10)] := by rw [Lib.decDigits, dif_neg h]
theorem digU {d : Nat} (h : d < 10) : dgt (UInt8.ofNat (48 + d)) ∧ (UInt8.ofNat (48 + d)).toNat = 48 + d := by
  have : (UInt8.ofNat (48 + d)).toNat = 48 + d := by rw [UInt8.toNat_ofNat_of_lt' (by show _ < 256; omega)]
  exact ⟨⟨by omega, by omega⟩, this⟩
theorem dd_spec (u : Nat) : digs (Lib.decDigits u) ∧ Lib.decDigits u ≠ [] ∧ Lib.decFrom 0 (Lib.decDigits u) = some u ∧ (10 ≤ u → ∃ b r, Lib.decDigits u = b :: r ∧ b.toNat ≠ 48) ∧ (1 ≤ u → ∃ b r, Lib.decDigits u = b :: r ∧ b.toNat ≠ 48) := by
  induction u using Nat.strongRecOn with
  | _ u ih =>
    by_cases h : u < 10
    · rw [dd_small h]
      obtain ⟨h1, h2⟩ := digU h
      refine ⟨fun b hb => by rw [List.mem_singleton] at hb; subst hb; exact h1, by simp, ?_, fun q => by omega, fun q => ⟨_, _, rfl, by rw [h2]; omega⟩⟩
      simp only [Lib.decFrom, dv h1, h2]
      congr 1; omega
    · obtain ⟨k1, k2, k3, k4, k5⟩ := ih (u / 10) (by omega)
      obtain ⟨h1, h2⟩ := digU (show u % 10 < 10 by omega)
      rw [dd_big h]
      have hd : ∃ b r, Lib.decDigits (u / 10) ++ [UInt8.ofNat (48 + u % 10)] = b :: r ∧ b.toNat ≠ 48 := by
        obtain ⟨b, r, e, n⟩ := k5 (by omega)
        exact ⟨b, r ++ [UInt8.ofNat (48 + u % 10)], by rw [e]; rfl, n⟩
      refine ⟨digs_append.2 ⟨k1, fun b hb => by rw [List.mem_singleton] at hb; subst hb; exact h1⟩, by simp, ?_, fun _ => hd, fun _ => hd⟩
      rw [decFrom_snoc k3 h1, h2]
      congr 1; omega
theorem snoc_of {l : List UInt8} (h : l ≠ []) : ∃ a b, l = a ++ [b] := ⟨l.dropLast, l.getLast h, (List.dropLast_concat_getLast h).symm⟩
def okH (x : Nat) : Bool := decide (32 ≤ (hexS.getD (x / 16) 0).toNat ∧ (hexS.getD (x / 16) 0).toNat ≠ 127) && decide (32 ≤ (hexS.getD (x % 16) 0).toNat ∧ (hexS.getD (x % 16) 0).toNat ≠ 127)
theorem escB_ok (b : UInt8) : ∀ x ∈ escB b, 32 ≤ x.toNat ∧ x.toNat ≠ 127 := by
  have h : okH b.toNat = true := all256 (P := okH) (by kernel_rfl) b
  unfold okH at h
  rw [Bool.and_eq_true, decide_eq_true_eq, decide_eq_true_eq] at h
  intro x hx
  unfold escB at hx
  split at hx
  · rename_i q
    simp only [List.mem_cons, List.not_mem_nil, or_false] at hx
    rcases hx with rfl | rfl
    · decide
    · omega
  · split at hx
    · simp only [List.mem_cons, List.not_mem_nil, or_false] at hx
      subst hx; omega
    · simp only [hexB, List.mem_cons, List.not_mem_nil, or_false] at hx
      rcases hx with rfl | rfl | rfl | rfl
      · decide
      · decide
      · exact h.1
      · exact h.2
theorem qS_ok : ∀ (n : Nat) (l : List UInt8), ∀ x ∈ qS n l, 32 ≤ x.toNat ∧ x.toNat ≠ 127
  | 0, l, x, hx => by simp [qS] at hx
  | n + 1, [], x, hx => by simp [qS] at hx
  | n + 1, b :: t, x, hx => by
    simp only [qS] at hx
    split at hx
    · rename_i q
      rcases List.mem_append.1 hx with hx | hx
      · have hle := longS_le b t
        simp only [longS] at q hx hle
        split at q
        · rename_i q2
          rw [if_pos q2] at hx hle
          have := take_big (b := b) (t := t) (r := (Lib.decodeL (b :: t)).1) (m := (Lib.decodeL (b :: t)).2) rfl q2.2 hle x hx
          omega
        · omega
      · exact qS_ok n _ x hx
    · rcases List.mem_append.1 hx with hx | hx
      · exact escB_ok b x hx
      · exact qS_ok n t x hx
theorem dd_len : ∀ (n u : Nat), u < 10 ^ (n + 1) → (Lib.decDigits u).length ≤ n + 1
  | 0, u, h => by rw [dd_small (by simpa using h)]; simp
  | n + 1, u, h => by
    by_cases q : u < 10
    · rw [dd_small q]; simp
    · rw [dd_big q, List.length_append, List.length_singleton]
      have := dd_len n (u / 10) (by rw [Nat.pow_succ] at h; omega)
      omega
theorem all_dg {l : List UInt8} (h : digs l) : l.all isDg = true := by
  rw [List.all_eq_true]
  intro b hb
  exact decide_eq_true (h b hb)
theorem f68_itoa {n : Int} (h1 : -1099511627776 ≤ n) (h2 : n ≤ 1099511627776) : f68 (Lib.itoa n) = some (n, true) := by
  by_cases hn : n < 0
  · obtain ⟨u, rfl⟩ : ∃ u : Nat, n = -(u : Int) := ⟨n.natAbs, by omega⟩
    rw [Lib.itoa_neg u (by omega)]
    obtain ⟨d1, d2, d3, d4, d5⟩ := dd_spec u
    have dl := dd_len 12 u (by show u < 10 ^ 13; omega)
    obtain ⟨b, r, e, hb⟩ := d5 (by omega)
    have ha := all_dg d1
    unfold f68
    rw [f82_eq (by simp only [List.length_cons]; omega), if_pos rfl]
    obtain ⟨z, hz, hz2⟩ := f83_dg (t := Lib.decDigits u) (by omega)
    have h0 := hz2.2 ha
    have hr : rd (Lib.decDigits u) 0 = some b := by rw [e]; rfl
    have n13 : ¬ (((Lib.decDigits u).length : Nat) : Int) > 13 := by omega
    have hb' : ¬ ((b.toNat : Nat) : Int) = 48 := by omega
    simp only [Option.bind_some, d2, if_false, n13, hz, h0, if_true, hr, hb', atoi_neg d2 (by omega) d3]
    rw [if_pos (by omega)]
    have hd : decide (-(u : Int) ≤ 1099511627776) = true := by rw [decide_eq_true_eq]; omega
    rw [hd]
  · obtain ⟨u, rfl⟩ : ∃ u : Nat, n = (u : Int) := ⟨n.toNat, by omega⟩
    rw [Lib.itoa_nonneg u]
    obtain ⟨d1, d2, d3, d4, d5⟩ := dd_spec u
    have dl := dd_len 12 u (by show u < 10 ^ 13; omega)
    have ha := all_dg d1
    cases hc : Lib.decDigits u with
    | nil => exact absurd hc d2
    | cons c r =>
      rw [hc] at d1 d2 d3 dl ha
      have hcd := d1 c (List.mem_cons_self ..)
      have hc45 : ¬ c = 45 := by
        intro q; subst q; exact absurd hcd (by unfold dgt; decide)
      unfold f68
      rw [f82_eq (by omega), if_neg hc45]
      obtain ⟨z, hz, hz2⟩ := f83_dg (t := c :: r) (by omega)
      have h0 := hz2.2 ha
      have hr : rd (c :: r) 0 = some c := rfl
      have n13 : ¬ (((c :: r).length : Nat) : Int) > 13 := by omega
      have hne : ¬ (c :: r) = ([] : List UInt8) := by simp
      have hend : ((f84 (c :: r)).bind fun (t31_0, t31_1) => if t31_1 then if t31_0 ≥ (-1099511627776) then (some (decide (t31_0 ≤ 1099511627776))).bind fun t43 => some (t31_0, t43) else some (t31_0, false) else some (t31_0, false)) = some ((u : Int), true) := by
        rw [atoi_pos (by omega) ha d3]
        simp only [Option.bind_some, if_true]
        rw [if_pos (by omega)]
        have hd : decide ((u : Int) ≤ 1099511627776) = true := by rw [decide_eq_true_eq]; omega
        rw [hd]
      by_cases h48 : ((c.toNat : Nat) : Int) = 48
      · have hu : u < 10 := by
          by_cases q : u < 10
          · exact q
          · obtain ⟨b, r', e, hb⟩ := d4 (by omega)
            rw [hc] at e; cases e; omega
        have e0 := dd_small hu
        rw [hc] at e0
        cases e0
        have hu0 : u = 0 := by
          have := (digU hu).2
          omega
        subst hu0
        have e1 : UInt8.ofNat (48 + 0) = 48 := rfl
        rw [e1] at *
        simp only [Option.bind_some, hne, if_false, n13, hz, h0, if_true, hr, h48]
        exact hend
      · simp only [Option.bind_some, hne, if_false, n13, hz, h0, if_true, hr, h48]
        exact hend
end Go.Proofs.YtgmejigjajcbfaaGreatDoor

set_option linter.unusedVariables false
set_option linter.unusedSimpArgs false
namespace Go.Proofs.YtgmejigjajcbfaaGreatDoor
open Go Go.Det Go.RowKit
/-! Words as texts -/
def fm (w : RowWord) : List UInt8 := if w.Kind = 1 then w.Name else if w.Kind = 2 then Lib.itoa w.N else [34] ++ qS 4000 w.Name ++ [34]
theorem nameB_spec {s : List UInt8} (h : nameB s = true) : s ≠ [] ∧ s.length ≤ 16 ∧ (∀ x ∈ s, goodB (x.toNat : Int) = true) ∧ ∀ b t, s = b :: t → letB (b.toNat : Int) = true := by
  unfold nameB at h
  rw [Bool.and_eq_true, Bool.and_eq_true, decide_eq_true_eq] at h
  obtain ⟨⟨⟨h1, h2⟩, h3⟩, h4⟩ := h
  refine ⟨h1, h2, fun x hx => List.all_eq_true.1 h3 x hx, fun b t e => ?_⟩
  subst e; exact h4
theorem snd_sq {w : RowWord} (h : SndW w) : f22 4000 w = some 0 := by
  unfold SndW Snd at h
  unfold f22
  rcases h with ⟨h1, h2, h3⟩ | ⟨h1, h2, h3, h4⟩ | ⟨h1, h2, h3⟩
  · have hl := (nameB_spec h2).2.1
    rw [f16_eq (s := w.Name) (k := 4000) (by omega) (by omega)]
    simp [h1, h2, h3]
  · simp [h1, h2, h3, h4]
  · simp [h1, h2]
theorem snd_fm {w : RowWord} (h : SndW w) : f46 4000 w = some (fm w) ∧ (fm w).length ≤ 4500 := by
  unfold SndW Snd at h
  unfold f46 fm
  rcases h with ⟨h1, h2, h3⟩ | ⟨h1, h2, h3, h4⟩ | ⟨h1, h2, h3⟩
  · have hl := (nameB_spec h2).2.1
    simp only [h1, if_true]
    exact ⟨trivial, by omega⟩
  · have h61 : f61 w.N = some (Lib.itoa w.N) := by unfold f61; rw [if_pos ⟨by omega, by omega⟩]
    have hl := Lib.itoa_length_le w.N (by omega) (by omega)
    have n1 : ¬ (2 : Int) = 1 := by decide
    simp only [h1, n1, if_false, if_true, h61, Option.bind_some]
    exact ⟨trivial, by omega⟩
  · have hq := qS_len 4000 w.Name
    have n1 : ¬ (3 : Int) = 1 := by decide
    have n2 : ¬ (3 : Int) = 2 := by decide
    simp only [h1, n1, n2, if_false, f14_eq (s := w.Name) (by omega), Option.bind_some]
    exact ⟨trivial, by simp only [List.length_append, List.length_cons, List.length_nil]; omega⟩
/-- What the bytes of a text of a word are. -/
theorem itoa_bytes {n : Int} : (∀ x ∈ Lib.itoa n, x.toNat = 45 ∨ (48 ≤ x.toNat ∧ x.toNat ≤ 57)) ∧ Lib.itoa n ≠ [] := by
  by_cases hn : n < 0
  · obtain ⟨u, rfl⟩ : ∃ u : Nat, n = -(u : Int) := ⟨n.natAbs, by omega⟩
    rw [Lib.itoa_neg u (by omega)]
    refine ⟨fun x hx => ?_, by simp⟩
    rcases List.mem_cons.1 hx with rfl | hx
    · exact .inl rfl
    · exact .inr ((dd_spec u).1 x hx)
  · obtain ⟨u, rfl⟩ : ∃ u : Nat, n = (u : Int) := ⟨n.toNat, by omega⟩
    rw [Lib.itoa_nonneg u]
    exact ⟨fun x hx => .inr ((dd_spec u).1 x hx), (dd_spec u).2.1⟩
theorem good_bytes {x : UInt8} (h : goodB (x.toNat : Int) = true) : 45 ≤ x.toNat := by
  unfold goodB letB at h
  simp only [Bool.or_eq_true, decide_eq_true_eq] at h
  omega
theorem fm_no10 {w : RowWord} (h : SndW w) : noN (fm w) := by
  intro x hx
  have key : x.toNat ≠ 10 → x ≠ 10 := fun k e => k (by subst e; rfl)
  apply key
  unfold SndW Snd at h
  unfold fm at hx
  rcases h with ⟨h1, h2, h3⟩ | ⟨h1, h2, h3, h4⟩ | ⟨h1, h2, h3⟩
  · rw [if_pos h1] at hx
    have := good_bytes ((nameB_spec h2).2.2.1 x hx)
    omega
  · rw [h1, if_neg (by decide), if_pos rfl] at hx
    have := itoa_bytes.1 x hx
    omega
  · rw [h1, if_neg (by decide), if_neg (by decide)] at hx
    simp only [List.mem_append, List.mem_singleton] at hx
    rcases hx with (rfl | hx) | rfl
    · decide
    · have := (qS_ok 4000 w.Name x hx).1; omega
    · decide
theorem fm_head {w : RowWord} (h : SndW w) : ∃ b t, fm w = b :: t ∧ isB b = false ∧ b.toNat ≠ 35 := by
  have mk : ∀ b : UInt8, 34 ≤ b.toNat → b.toNat ≠ 35 → isB b = false ∧ b.toNat ≠ 35 := fun b k1 k2 => ⟨by unfold isB; rw [decide_eq_false_iff_not]; omega, k2⟩
  unfold SndW Snd at h
  unfold fm
  rcases h with ⟨h1, h2, h3⟩ | ⟨h1, h2, h3, h4⟩ | ⟨h1, h2, h3⟩
  · rw [if_pos h1]
    obtain ⟨g1, g2, g3, g4⟩ := nameB_spec h2
    match hn : w.Name, g1 with
    | b :: t, _ =>
      have := good_bytes (g3 b (by rw [hn]; exact List.mem_cons_self ..))
      exact ⟨b, t, rfl, mk b (by omega) (by omega)⟩
  · rw [h1, if_neg (by decide), if_pos rfl]
    match hn : Lib.itoa w.N, (itoa_bytes (n := w.N)).2 with
    | b :: t, _ =>
      have := (itoa_bytes (n := w.N)).1 b (by rw [hn]; exact List.mem_cons_self ..)
      exact ⟨b, t, rfl, mk b (by omega) (by omega)⟩
  · rw [h1, if_neg (by decide), if_neg (by decide)]
    exact ⟨34, _, rfl, mk 34 (by decide) (by decide)⟩
theorem endB_app {rest : List UInt8} (hr : rest = [] ∨ ∃ r, rest = 32 :: r) : ∀ (l : List UInt8), (∀ x ∈ l, isB x = false) → endB (l ++ rest) = l.length
  | [], _ => by
    rcases hr with rfl | ⟨r, rfl⟩
    · rfl
    · show endB (32 :: r) = 0
      rw [endB, if_pos (by decide)]
  | a :: l, h => by
    rw [List.cons_append, endB, if_neg (by rw [h a (List.mem_cons_self ..)]; exact Bool.false_ne_true), endB_app hr l fun x hx => h x (List.mem_cons_of_mem _ hx), List.length_cons]
/-- A word is read back. -/
theorem pw_plain {wd rest : List UInt8} {a : Int} {kind num : Int} {name : List UInt8} {b : UInt8} {t : List UInt8} (hh : wd = b :: t) (h34 : b.toNat ≠ 34) (hn : ∀ x ∈ wd, isB x = false) (hr : rest = [] ∨ ∃ r, rest = 32 :: r) (hl : (wd ++ rest).length ≤ 1000)
    (hk : (nameB wd = true ∧ kind = 1 ∧ name = wd ∧ num = 0) ∨ (nameB wd = false ∧ kind = 2 ∧ name = [] ∧ f68 wd = some (num, true))) :
    pw 4000 a (wd ++ rest) = some (IntKind.i64.wrap (a + (wd.length : Int)), rest, a, kind, name, num, true) := by
  have hrd : rd (wd ++ rest) 0 = some b := by rw [hh]; rfl
  have c1 : ¬ ((b.toNat : Nat) : Int) = 34 := by omega
  have h67 : f67 (wd ++ rest) [32, 9] = some (Lib.indexAny (wd ++ rest) [32, 9]) := if_pos ⟨rfl, by omega⟩
  have hx : (if Lib.indexAny (wd ++ rest) [32, 9] < 0 then some (((wd ++ rest).length : Nat) : Int) else some (Lib.indexAny (wd ++ rest) [32, 9])) = some (wd.length : Int) := by
    have := idx_end (wd ++ rest)
    rw [endB_app hr wd hn] at this
    rw [← this]; split <;> rfl
  have hle : wd.length ≤ (wd ++ rest).length := by rw [List.length_append]; omega
  have hst : sub (wd ++ rest) 0 (wd.length : Int) = some wd := by rw [sub_to hle, List.take_left]
  have hsm : sub (wd ++ rest) (wd.length : Int) (((wd ++ rest).length : Nat) : Int) = some rest := by rw [sub_all hle, List.drop_left]
  have h16 := f16_eq (s := wd) (k := 4000) (by omega) (by omega)
  unfold pw
  simp only [hrd, Option.bind_some, c1, if_false, h67, hx, hst, hsm, h16]
  rcases hk with ⟨k1, rfl, rfl, rfl⟩ | ⟨k1, rfl, rfl, k2⟩
  · simp only [k1, if_true, Option.bind_some]
  · simp only [k1, Bool.false_eq_true, if_false, k2, Option.bind_some]
theorem pw_read {w : RowWord} (h : SndW w) {rest : List UInt8} {a : Int} (hr : rest = [] ∨ ∃ r, rest = 32 :: r) (hl : (fm w ++ rest).length ≤ 1000) :
    pw 4000 a (fm w ++ rest) = some (IntKind.i64.wrap (a + ((fm w).length : Int)), rest, a, w.Kind, w.Name, w.N, true) := by
  have hS := h
  unfold SndW Snd at h
  rcases h with ⟨h1, h2, h3⟩ | ⟨h1, h2, h3, h4⟩ | ⟨h1, h2, h3⟩
  · have e : fm w = w.Name := if_pos h1
    rw [e] at hl ⊢
    obtain ⟨g1, g2, g3, g4⟩ := nameB_spec h2
    match hn : w.Name, g1 with
    | b :: t, _ =>
      rw [hn] at g3 hl h2
      have hb := good_bytes (g3 b (List.mem_cons_self ..))
      exact pw_plain rfl (by omega) (fun x hx => by have := good_bytes (g3 x hx); unfold isB; rw [decide_eq_false_iff_not]; omega) hr hl (.inl ⟨h2, h1, rfl, h3⟩)
  · have e : fm w = Lib.itoa w.N := by unfold fm; rw [h1, if_neg (by decide), if_pos rfl]
    rw [e] at hl ⊢
    obtain ⟨g1, g2⟩ := itoa_bytes (n := w.N)
    have h68 := f68_itoa h3 h4
    match hn : Lib.itoa w.N, g2 with
    | b :: t, _ =>
      rw [hn] at g1 hl h68
      have hb := g1 b (List.mem_cons_self ..)
      have hnn : nameB (b :: t) = false := by
        have : letB (b.toNat : Int) = false := by unfold letB; rw [decide_eq_false_iff_not]; omega
        unfold nameB
        simp [this]
      exact pw_plain rfl (by omega) (fun x hx => by have := g1 x hx; unfold isB; rw [decide_eq_false_iff_not]; omega) hr hl (.inr ⟨hnn, h1, h2, h68⟩)
  · have e : fm w = [34] ++ qS 4000 w.Name ++ [34] := by unfold fm; rw [h1, if_neg (by decide), if_neg (by decide)]
    obtain ⟨Q, hQ⟩ : ∃ Q : List UInt8, Q = [34] ++ qS 4000 w.Name ++ [34] := ⟨_, rfl⟩
    rw [e, ← hQ] at hl ⊢
    have hql : Q.length = (qS 4000 w.Name).length + 2 := by rw [hQ]; simp only [List.length_append, List.length_cons, List.length_nil]; omega
    have hrb := rb_loop (Q ++ rest) rest (by omega) (by rw [List.length_append]; omega) 4000 w.Name [] 1 (by omega) (by rw [hQ]; simp) (by omega) (by simp; omega)
    rw [List.nil_append, List.length_append, Nat.add_sub_cancel, show ((1 : Nat) : Int) = 1 from rfl] at hrb
    have hrd : rd (Q ++ rest) 0 = some 34 := by rw [hQ]; rfl
    have c1 : (((34 : UInt8).toNat : Nat) : Int) = 34 := rfl
    have hne : ¬ (Q ++ rest) = ([] : List UInt8) := by rw [hQ]; simp
    have h31 : f31 4000 (Q ++ rest) = some (w.Name, ((Q.length : Nat) : Int)) := by
      unfold f31
      simp only [hne, if_false, hrd, Option.bind_some, c1, if_true, hrb]
    have hle : Q.length ≤ (Q ++ rest).length := by rw [List.length_append]; omega
    have hsm : sub (Q ++ rest) (Q.length : Int) (((Q ++ rest).length : Nat) : Int) = some rest := by rw [sub_all hle, List.drop_left]
    have n0 : ¬ ((Q.length : Nat) : Int) = 0 := by omega
    unfold pw
    simp only [hrd, Option.bind_some, c1, if_true, h31, n0, if_false]
    rcases hr with rfl | ⟨r, rfl⟩
    · rw [if_neg (by rw [List.append_nil]; omega)]
      simp only [Option.bind_some, hsm, h1, h2]
    · have hlt : ((Q.length : Nat) : Int) < (((Q ++ 32 :: r).length : Nat) : Int) := by rw [List.length_append, List.length_cons]; omega
      have hrq : rd (Q ++ 32 :: r) (Q.length : Int) = some 32 := by
        rw [rd_nat, List.getElem?_append_right (Nat.le_refl _), Nat.sub_self]; rfl
      have hB : isB 32 = true := by decide
      simp only [hlt, if_true, hrq, Option.bind_some, f51_eq, hB, hsm, h1, h2]
/-! A line is read back -/
def SameL : List RowWord → List RowWord → Prop
  | [], [] => True
  | a :: r, b :: s => (a.Kind = b.Kind ∧ a.Name = b.Name ∧ a.N = b.N) ∧ SameL r s
  | _, _ => False
def Rr (ws : List RowWord) : List UInt8 := Lib.joinTail [32] (ws.map fm)
theorem Rr_cons (w : RowWord) (ws : List RowWord) : Rr (w :: ws) = 32 :: (fm w ++ Rr ws) := by simp [Rr, Lib.joinTail]
theorem Rr_form (ws : List RowWord) : Rr ws = [] ∨ ∃ r, Rr ws = 32 :: r := by
  cases ws with
  | nil => exact .inl rfl
  | cons w ws => exact .inr ⟨_, Rr_cons w ws⟩
theorem read_words : ∀ (ws : List RowWord) (w : RowWord) (n : Nat) (l : List RowWord) (a : Int), SndW w → (∀ z ∈ ws, SndW z) → (fm w ++ Rr ws).length ≤ 1000 → 2 * ws.length + 2 ≤ n → l.length + ws.length ≤ 5000 →
    ∃ ws' v0 v1, f9_l2 4000 n l a (fm w ++ Rr ws) = some (.inl (l ++ ws', v0, v1)) ∧ SameL ws' (w :: ws) := by
  intro ws
  induction ws with
  | nil =>
    intro w n l a h1 h2 h3 h4 h5
    obtain ⟨b, t, hf, hb1, hb2⟩ := fm_head h1
    obtain ⟨m, rfl⟩ : ∃ m, n = m + 1 + 1 := ⟨n - 2, by omega⟩
    have hp := pw_read h1 (rest := Rr []) (a := a) (Rr_form []) h3
    have he : fm w ++ Rr [] = b :: t := by rw [hf]; exact List.append_nil _
    rw [he] at hp ⊢
    rw [f9_l2_word hb1 hb2, hp]
    have ha : ∀ z : RowWord, apd 40 l [z] = some (l ++ [z]) := fun z => if_pos (by simp only [List.length_cons, List.length_nil] at *; omega)
    simp only [Option.bind_some, if_true, ha]
    have hR : Rr [] = [] := rfl
    rw [f9_l2, hR, if_pos rfl]
    exact ⟨[RowWord.mk a w.Kind w.Name w.N], _, _, rfl, ⟨rfl, rfl, rfl⟩, trivial⟩
  | cons z zs ih =>
    intro w n l a h1 h2 h3 h4 h5
    obtain ⟨b, t, hf, hb1, hb2⟩ := fm_head h1
    simp only [List.length_cons] at h4 h5
    obtain ⟨m, rfl⟩ : ∃ m, n = m + 1 + 1 := ⟨n - 2, by omega⟩
    have hp := pw_read h1 (rest := Rr (z :: zs)) (a := a) (Rr_form _) h3
    have he : fm w ++ Rr (z :: zs) = b :: (t ++ Rr (z :: zs)) := by rw [hf]; rfl
    have h3' := h3
    rw [he] at hp ⊢
    rw [f9_l2_word hb1 hb2, hp]
    have ha : ∀ y : RowWord, apd 40 l [y] = some (l ++ [y]) := fun y => if_pos (by simp only [List.length_cons, List.length_nil]; omega)
    simp only [Option.bind_some, if_true, ha]
    rw [Rr_cons, f9_l2, if_neg (by simp)]
    have hr : rd (32 :: (fm z ++ Rr zs)) 0 = some 32 := rfl
    have hB : isB 32 = true := by decide
    have hs : sub (32 :: (fm z ++ Rr zs)) 1 (((32 :: (fm z ++ Rr zs)).length : Nat) : Int) = some (fm z ++ Rr zs) := sub_all (s := 32 :: (fm z ++ Rr zs)) (p := 1) (by simp)
    simp only [hr, Option.bind_some, f51_eq, hB, if_true, hs]
    obtain ⟨ws', v0, v1, g1, g2⟩ := ih z m (l ++ [RowWord.mk a w.Kind w.Name w.N]) (IntKind.i64.wrap (IntKind.i64.wrap (a + ((fm w).length : Int)) + 1)) (h2 z (List.mem_cons_self ..)) (fun y hy => h2 y (List.mem_cons_of_mem _ hy))
      (by rw [List.length_append, Rr_cons, List.length_cons] at h3'; omega) (by omega) (by simp only [List.length_append, List.length_cons, List.length_nil]; omega)
    rw [g1]
    exact ⟨RowWord.mk a w.Kind w.Name w.N :: ws', v0, v1, by rw [List.append_assoc]; rfl, ⟨rfl, rfl, rfl⟩, g2⟩
def jn (r : Row) : List UInt8 := Lib.join (r.Words.map fm) [32]
theorem jn_no10 {r : Row} (h : ∀ w ∈ r.Words, SndW w) : noN (jn r) := by
  have key : ∀ ws : List RowWord, (∀ w ∈ ws, SndW w) → noN (Rr ws) := by
    intro ws
    induction ws with
    | nil => intro _ x hx; cases hx
    | cons w ws ih =>
      intro h x hx
      rw [Rr_cons] at hx
      rcases List.mem_cons.1 hx with rfl | hx
      · decide
      · rcases List.mem_append.1 hx with hx | hx
        · exact fm_no10 (h w (List.mem_cons_self ..)) x hx
        · exact ih (fun y hy => h y (List.mem_cons_of_mem _ hy)) x hx
  unfold jn
  cases hw : r.Words with
  | nil => intro x hx; simp [Lib.join_nil] at hx
  | cons w ws =>
    rw [hw] at h
    intro x hx
    rw [List.map_cons, Lib.join_cons] at hx
    rcases List.mem_append.1 hx with hx | hx
    · exact fm_no10 (h w (List.mem_cons_self ..)) x hx
    · exact key ws (fun y hy => h y (List.mem_cons_of_mem _ hy)) x hx
theorem read_line {r : Row} (h : okW r) (hl : (jn r).length ≤ 1000) (a : Int) : ∃ ws' v0 v1, f9_l2 4000 4000 [] a (jn r) = some (.inl (ws', v0, v1)) ∧ SameL ws' r.Words := by
  obtain ⟨h1, h2, h3⟩ := h
  unfold jn at hl ⊢
  match hw : r.Words, h2 with
  | w :: ws, _ =>
    rw [hw] at h1 h3 hl
    rw [List.map_cons, Lib.join_cons] at hl ⊢
    simp only [List.length_cons] at h1
    obtain ⟨ws', v0, v1, g1, g2⟩ := read_words ws w 4000 [] a (h3 w (List.mem_cons_self ..)) (fun y hy => h3 y (List.mem_cons_of_mem _ hy)) hl (by omega) (by simp; omega)
    exact ⟨ws', v0, v1, g1, g2⟩
theorem SameL.len : ∀ {a b : List RowWord}, SameL a b → a.length = b.length
  | [], [], _ => rfl
  | _ :: _, _ :: _, h => by rw [List.length_cons, List.length_cons, SameL.len h.2]
  | [], _ :: _, h => h.elim
  | _ :: _, [], h => h.elim
def SameR : List Row → List Row → Prop
  | [], [] => True
  | a :: r, b :: s => SameL a.Words b.Words ∧ SameR r s
  | _, _ => False
theorem SameR.len : ∀ {a b : List Row}, SameR a b → a.length = b.length
  | [], [], _ => rfl
  | _ :: _, _ :: _, h => by rw [List.length_cons, List.length_cons, SameR.len h.2]
  | [], _ :: _, h => h.elim
  | _ :: _, [], h => h.elim
theorem SameL.get : ∀ {a b : List RowWord}, SameL a b → ∀ {i : Nat} {x y : RowWord}, a[i]? = some x → b[i]? = some y → x.Kind = y.Kind ∧ x.Name = y.Name ∧ x.N = y.N
  | [], [], _, i, x, y, hx, _ => by simp at hx
  | _ :: _, _ :: _, h, 0, x, y, hx, hy => by simp at hx hy; subst hx hy; exact h.1
  | _ :: _, _ :: _, h, i + 1, x, y, hx, hy => SameL.get h.2 (by simpa using hx) (by simpa using hy)
  | [], _ :: _, h, _, _, _, _, _ => h.elim
  | _ :: _, [], h, _, _, _, _, _ => h.elim
theorem SameR.get : ∀ {a b : List Row}, SameR a b → ∀ {i : Nat} {x y : Row}, a[i]? = some x → b[i]? = some y → SameL x.Words y.Words
  | [], [], _, i, x, y, hx, _ => by simp at hx
  | _ :: _, _ :: _, h, 0, x, y, hx, hy => by simp at hx hy; subst hx hy; exact h.1
  | _ :: _, _ :: _, h, i + 1, x, y, hx, hy => SameR.get h.2 (by simpa using hx) (by simpa using hy)
  | [], _ :: _, h, _, _, _, _, _ => h.elim
  | _ :: _, [], h, _, _, _, _, _ => h.elim
end Go.Proofs.YtgmejigjajcbfaaGreatDoor

set_option linter.unusedVariables false
set_option linter.unusedSimpArgs false
namespace Go.Proofs.YtgmejigjajcbfaaGreatDoor
open Go Go.Det Go.RowKit
/-! The text of rows -/
theorem next64 {i : Nat} (h : i < 100000) : IntKind.i64.wrap ((i : Int) + 1) = ((i + 1 : Nat) : Int) := wr64 (n := 1) (by omega)
theorem dropC {α : Type} {l : List α} {i : Nat} (h : i < l.length) : ∃ x, l[i]? = some x ∧ x ∈ l ∧ l.drop i = x :: l.drop (i + 1) := by
  refine ⟨l[i], List.getElem?_eq_getElem h, List.getElem_mem h, ?_⟩
  rw [List.drop_eq_getElem_cons h]
theorem eta (w : RowWord) : RowWord.mk w.At w.Kind w.Name w.N = w := rfl
theorem text_w (ws : List RowWord) (hS : ∀ w ∈ ws, SndW w) (hl : ws.length ≤ 1000) : ∀ (n i : Nat) (l : List (List UInt8)), i ≤ ws.length → ws.length < n + i → l.length ≤ i →
    f24_l2 4000 ws n l (i : Int) = some (.inl (l ++ (ws.drop i).map fm))
  | 0, i, l, h1, h2, h3 => by omega
  | n + 1, i, l, h1, h2, h3 => by
    rw [f24_l2]
    simp only [Option.bind_some]
    by_cases hi : i < ws.length
    · obtain ⟨w, hw, hm, hd⟩ := dropC hi
      have g := hS w hm
      rw [if_pos (by simpa using hi), rd_nat, hw, hd]
      simp only [Option.bind_some, eta, snd_sq g, if_true, (snd_fm g).1]
      have ha : apd 16 l [fm w] = some (l ++ [fm w]) := if_pos (by simp only [List.length_cons, List.length_nil]; omega)
      rw [ha]
      simp only [Option.bind_some]
      rw [next64 (by omega), text_w ws hS hl n (i + 1) _ (by omega) (by omega) (by simp only [List.length_append, List.length_cons, List.length_nil]; omega)]
      simp
    · rw [if_neg (by simpa using hi), List.drop_eq_nil_of_le (by omega)]
      simp
theorem Rr_len : ∀ ws : List RowWord, (∀ w ∈ ws, SndW w) → (Rr ws).length ≤ 4501 * ws.length
  | [], _ => by simp [Rr, Lib.joinTail]
  | w :: ws, h => by
    have ih := Rr_len ws fun y hy => h y (List.mem_cons_of_mem _ hy)
    have hf := (snd_fm (h w (List.mem_cons_self ..))).2
    rw [Rr_cons, List.length_cons, List.length_append, List.length_cons]
    omega
theorem jn_len {r : Row} (h : okW r) : (jn r).length ≤ 5000000 := by
  obtain ⟨h1, h2, h3⟩ := h
  unfold jn
  match hw : r.Words, h2 with
  | w :: ws, _ =>
    rw [hw] at h1 h3
    rw [List.map_cons, Lib.join_cons, List.length_append]
    have hf := (snd_fm (h3 w (List.mem_cons_self ..))).2
    have hr := Rr_len ws fun y hy => h3 y (List.mem_cons_of_mem _ hy)
    unfold Rr at hr
    simp only [List.length_cons] at h1
    omega
def T (rs : List Row) : List UInt8 := rs.flatMap fun r => jn r ++ [10]
theorem T_cons (r : Row) (rs : List Row) : T (r :: rs) = jn r ++ 10 :: T rs := by simp [T]
theorem text_r (rs : List Row) (hg : ∀ r ∈ rs, okW r) (hl : rs.length ≤ 3001) : ∀ (n i : Nat) (acc : List UInt8), i ≤ rs.length → rs.length < n + i → acc.length ≤ 20000 →
    f24_l1 4000 rs n acc (i : Int) = some (.inr ([], 4)) ∨ (f24_l1 4000 rs n acc (i : Int) = some (.inl (acc ++ T (rs.drop i))) ∧ (acc ++ T (rs.drop i)).length ≤ 20000 ∧ ∀ r ∈ rs.drop i, (jn r).length ≤ 1000)
  | 0, i, acc, h1, h2, h3 => by omega
  | n + 1, i, acc, h1, h2, h3 => by
    rw [f24_l1]
    simp only [Option.bind_some]
    by_cases hi : i < rs.length
    · obtain ⟨r, hr, hm, hd⟩ := dropC hi
      have hW := hg r hm
      obtain ⟨hw, hne, hS⟩ := hW
      have hjl := jn_len (hg r hm)
      rw [if_pos (by simpa using hi), rd_nat, hr]
      simp only [Option.bind_some]
      have h0 : ¬ ((r.Words.length : Nat) : Int) = 0 := by
        intro q; exact hne (List.length_eq_zero_iff.1 (by omega))
      have e1 := text_w r.Words hS hw 4000 0 [] (by omega) (by omega) (by simp)
      rw [show ((0 : Nat) : Int) = 0 from rfl, List.drop_zero, List.nil_append] at e1
      have e5 : f47 (r.Words.map fm) [32] = some (jn r) := by
        unfold f47
        rw [if_pos ⟨by rw [List.length_map]; omega, by show (jn r).length ≤ _; omega⟩]; rfl
      rw [if_neg h0, e1]
      simp only [Option.bind_some, e5]
      by_cases hb : (((jn r).length : Nat) : Int) > 1000
      · rw [if_pos hb]; exact .inl rfl
      · rw [if_neg hb, ap1 (a := acc) (by simp only [List.length_nil]; omega), List.append_nil]
        simp only [Option.bind_some]
        have hwr : IntKind.i64.wrap (IntKind.i64.wrap ((acc.length : Int) + (((jn r).length : Nat) : Int)) + 1) = ((acc.length + (jn r).length + 1 : Nat) : Int) := by
          rw [wr64 (by omega), next64 (by omega)]
        rw [hwr]
        by_cases hc : ((acc.length + (jn r).length + 1 : Nat) : Int) > 20000
        · rw [if_pos hc]; exact .inl rfl
        · rw [if_neg hc, sc (a := jn r) (by simp only [List.length_cons, List.length_nil]; omega)]
          simp only [Option.bind_some]
          rw [ap1 (by simp only [List.length_append, List.length_cons, List.length_nil]; omega)]
          simp only [Option.bind_some]
          rw [next64 (by omega), hd, T_cons]
          have e : acc ++ (jn r ++ 10 :: T (rs.drop (i + 1))) = acc ++ (jn r ++ [10]) ++ T (rs.drop (i + 1)) := by simp
          rw [e]
          rcases text_r rs hg hl n (i + 1) (acc ++ (jn r ++ [10])) (by omega) (by omega) (by simp only [List.length_append, List.length_cons, List.length_nil]; omega) with g | ⟨g1, g2, g3⟩
          · exact .inl g
          · refine .inr ⟨g1, g2, fun x hx => ?_⟩
            rcases List.mem_cons.1 hx with rfl | hx
            · omega
            · exact g3 x hx
    · rw [if_neg (by simpa using hi), List.drop_eq_nil_of_le (by omega)]
      exact .inr ⟨by simp [T], by simpa [T] using h3, fun x hx => by cases hx⟩
theorem text_all {rs : List Row} (hg : okRs rs) : f24 4000 rs = some ([], 4) ∨ (f24 4000 rs = some (T rs, 0) ∧ (T rs).length ≤ 20000 ∧ ∀ r ∈ rs, (jn r).length ≤ 1000) := by
  have hl := hg.1
  have h := text_r rs hg.2 hl 4000 0 [] (by omega) (by omega) (by simp)
  rw [show ((0 : Nat) : Int) = 0 from rfl, List.drop_zero, List.nil_append] at h
  unfold f24
  rcases h with e | ⟨e1, e2, e3⟩
  · rw [e]; exact .inl rfl
  · rw [e1]
    simp only [Option.bind_some]
    rw [ap1 (by simp only [List.length_nil]; omega)]
    exact .inr ⟨rfl, e2, e3⟩
/-! It is read back -/
theorem T_join : ∀ rs : List Row, ∃ p ps, rs.map jn ++ [[]] = p :: ps ∧ joinN p ps = T rs
  | [] => ⟨[], [], rfl, rfl⟩
  | r :: rs => by
    obtain ⟨p, ps, h1, h2⟩ := T_join rs
    refine ⟨jn r, p :: ps, by rw [List.map_cons, List.cons_append, h1], ?_⟩
    rw [joinN, h2, T_cons]
theorem read_rows (rs : List Row) (hg : okRs rs) (h1000 : ∀ r ∈ rs, (jn r).length ≤ 1000) : ∀ (n i : Nat) (rows : List Row) (a : Int), i ≤ rs.length → rs.length + 1 < n + i → rows.length ≤ i →
    ∃ rs', f9_l1 4000 (rs.map jn ++ [[]]) n rows a (i : Int) = some (.inl (rows ++ rs')) ∧ SameR rs' (rs.drop i)
  | 0, i, rows, a, h1, h2, h3 => by omega
  | n + 1, i, rows, a, h1, h2, h3 => by
    have hl := hg.1
    have hll : (rs.map jn ++ [[]]).length = rs.length + 1 := by rw [List.length_append, List.length_map]; rfl
    have hdec : decide ((i : Int) < ((rs.map jn ++ [[]]).length : Int)) = true := by rw [decide_eq_true_eq, hll]; omega
    rw [f9_l1]
    simp only [Option.bind_some, hdec, if_true]
    by_cases hi : i < rs.length
    · obtain ⟨r, hr, hm, hd⟩ := dropC hi
      have hW := hg.2 r hm
      have hL := h1000 r hm
      have hget : (rs.map jn ++ [[]])[i]? = some (jn r) := by
        rw [List.getElem?_append_left (by rw [List.length_map]; exact hi), List.getElem?_map, hr]; rfl
      obtain ⟨ws', v0, v1, g1, g2⟩ := read_line hW hL a
      have hwl : 0 < ws'.length := by
        rw [g2.len]
        exact List.length_pos_iff.2 hW.2.1
      have nb : ¬ (((jn r).length : Nat) : Int) > 1000 := by omega
      have hw : ((ws'.length : Nat) : Int) > 0 := by omega
      have ha : ∀ z : Row, apd 32 rows [z] = some (rows ++ [z]) := fun z => if_pos (by simp only [List.length_cons, List.length_nil]; omega)
      simp only [rd_nat, hget, Option.bind_some, nb, if_false, g1, if_true, hw, ha]
      rw [next64 (i := i) (by omega), hd]
      obtain ⟨rs', k1, k2⟩ := read_rows rs hg h1000 n (i + 1) (rows ++ [Row.mk a ws']) (IntKind.i64.wrap (a + IntKind.i64.wrap (((jn r).length : Int) + 1))) (by omega) (by omega) (by simp only [List.length_append, List.length_cons, List.length_nil]; omega)
      rw [k1]
      exact ⟨Row.mk a ws' :: rs', by rw [List.append_assoc]; rfl, g2, k2⟩
    · have he : i = rs.length := by omega
      have hget : (rs.map jn ++ [[]])[i]? = some [] := by
        rw [List.getElem?_append_right (by rw [List.length_map]; omega), List.length_map, he, Nat.sub_self]; rfl
      have n0 : ¬ ((([] : List UInt8).length : Nat) : Int) > 1000 := by decide
      have n1 : ¬ ((([] : List RowWord).length : Nat) : Int) > 0 := by decide
      have h92 : f9_l2 4000 4000 [] a [] = some (.inl ([], a, [])) := by rw [f9_l2, if_pos rfl]
      simp only [rd_nat, hget, Option.bind_some, n0, if_false, h92, if_true, n1]
      obtain ⟨m, rfl⟩ : ∃ m, n = m + 1 := ⟨n - 1, by omega⟩
      rw [next64 (i := i) (by omega), f9_l1]
      have hd : decide (((i + 1 : Nat) : Int) < ((rs.map jn ++ [[]]).length : Int)) = false := by rw [decide_eq_false_iff_not, hll]; omega
      simp only [Option.bind_some, hd, Bool.false_eq_true, if_false]
      exact ⟨[], by rw [List.append_nil], by rw [List.drop_eq_nil_of_le (by omega)]; trivial⟩
theorem read_T {rs : List Row} (hg : okRs rs) (hT : (T rs).length ≤ 20000) (h1000 : ∀ r ∈ rs, (jn r).length ≤ 1000) : ∃ rs', f9 4000 (T rs) = some (rs', Fault.mk 0 0) ∧ SameR rs' rs := by
  have hl := hg.1
  obtain ⟨p, ps, h1, h2⟩ := T_join rs
  have hno : ∀ q ∈ rs.map jn ++ [[]], noN q := by
    intro q hq
    rcases List.mem_append.1 hq with hq | hq
    · obtain ⟨r, hr, rfl⟩ := List.mem_map.1 hq
      exact jn_no10 (hg.2 r hr).2.2
    · simp only [List.mem_singleton] at hq
      subst hq; intro x hx; cases hx
  rw [h1] at hno
  have h28 : f28 (T rs) [10] = some (rs.map jn ++ [[]]) := by
    rw [h1, ← h2]
    exact f28_eq (hno p (List.mem_cons_self ..)) (fun q hq => hno q (List.mem_cons_of_mem _ hq)) (by rw [h2]; omega)
  obtain ⟨rs', g1, g2⟩ := read_rows rs hg h1000 4000 0 [] 0 (by omega) (by omega) (by simp)
  rw [show ((0 : Nat) : Int) = 0 from rfl, List.nil_append] at g1
  rw [List.drop_zero] at g2
  refine ⟨rs', ?_, g2⟩
  unfold f9
  rw [if_neg (by omega), h28]
  simp only [Option.bind_some, g1]
theorem same_w (a b : List Row) (i : Nat) (x y : Row) (hx : a[i]? = some x) (hy : b[i]? = some y) (h : SameL y.Words x.Words) (hl : x.Words.length ≤ 1000) : ∀ (n j : Nat), j ≤ x.Words.length → x.Words.length < n + j → f11_l2 a b false (i : Int) n (j : Int) = some (.inr ())
  | 0, j, h1, h2 => by omega
  | n + 1, j, h1, h2 => by
    rw [f11_l2, rd_nat, hx, rd_nat, hy]
    simp only [Option.bind_some]
    by_cases hj : j < x.Words.length
    · have hlen := h.len
      obtain ⟨w, hw⟩ : ∃ w, x.Words[j]? = some w := ⟨x.Words[j], List.getElem?_eq_getElem hj⟩
      obtain ⟨v, hv⟩ : ∃ v, y.Words[j]? = some v := ⟨y.Words[j], List.getElem?_eq_getElem (by omega)⟩
      obtain ⟨k1, k2, k3⟩ := h.get hv hw
      rw [if_pos (by omega), rd_nat, hw, rd_nat, hv]
      simp only [Option.bind_some, Bool.false_eq_true, if_false, k1, k2, k3, if_true]
      rw [next64 (by omega)]
      exact same_w a b i x y hx hy h hl n (j + 1) (by omega) (by omega)
    · rw [if_neg (by omega)]
theorem same_r (a b : List Row) (hg : okRs a) (h : SameR b a) : ∀ (n i : Nat), i ≤ a.length → a.length < n + i → f11_l1 4000 a b false n (i : Int) = some (.inr ())
  | 0, i, h1, h2 => by omega
  | n + 1, i, h1, h2 => by
    have hl := hg.1
    rw [f11_l1]
    by_cases hi : i < a.length
    · have hlen := h.len
      obtain ⟨x, hx⟩ : ∃ x, a[i]? = some x := ⟨a[i], List.getElem?_eq_getElem hi⟩
      obtain ⟨y, hy⟩ : ∃ y, b[i]? = some y := ⟨b[i], List.getElem?_eq_getElem (by omega)⟩
      have hw := (hg.2 x (List.mem_of_getElem? hx)).1
      have hs := h.get hy hx
      have hsl := hs.len
      have e := same_w a b i x y hx hy hs hw 4000 0 (by omega) (by omega)
      rw [show ((0 : Nat) : Int) = 0 from rfl] at e
      have hc : ((x.Words.length : Nat) : Int) = ((y.Words.length : Nat) : Int) := by omega
      rw [if_pos (by omega), rd_nat, hx, rd_nat, hy]
      simp only [Option.bind_some, Bool.false_eq_true, if_false, hc, if_true, e]
      rw [next64 (by omega)]
      exact same_r a b hg h n (i + 1) (by omega) (by omega)
    · rw [if_neg (by omega)]
theorem same_eq {a b : List Row} (hg : okRs a) (h : SameR b a) : f11 4000 a b false = some true := by
  have hl := hg.1
  have := same_r a b hg h 4000 0 (by omega) (by omega)
  rw [show ((0 : Nat) : Int) = 0 from rfl] at this
  have hlen := h.len
  unfold f11
  rw [if_pos (by omega), this]; rfl
theorem all_eq7 {s : List UInt8} (hs : s.length ≤ 3000) : ∃ r f, f9 4000 s = some (r, f) ∧ okRs r ∧ (f.Err ≠ 0 → r = []) := by
  obtain ⟨p, ps, h1, h2, h3, h4⟩ := ex_joinN s
  have h28 : f28 s [10] = some (p :: ps) := by rw [h1]; exact f28_eq h2 h3 (by rw [← h1]; omega)
  obtain ⟨o, g1, g2, g3⟩ := rows_eq s hs (p :: ps) ps p [] 4000 0 [] (by simpa using h1) h2 h3 rfl (Nat.le_refl _) (by omega) (Nat.le_refl _) (by simp)
  rw [show ((([] : List UInt8).length : Nat) : Int) = 0 from rfl, show ((0 : Nat) : Int) = 0 from rfl] at g1
  unfold f9
  rw [if_neg (by omega), h28]
  simp only [Option.bind_some, g1]
  rcases o with ⟨a, f⟩ | r
  · have : a = [] := g3
    subst this
    exact ⟨[], f, rfl, ⟨by simp, by simp⟩, fun _ => rfl⟩
  · exact ⟨r, Fault.mk 0 0, rfl, g3, fun h => absurd rfl h⟩
theorem pure7 : Pure7 := by
  intro x0 _
  refine ⟨4000, ?_⟩
  have h8 : f8 = some true := rfl
  unfold f7
  by_cases hs : (x0.length : Int) > 1000
  · rw [if_pos hs, h8]; rfl
  · rw [if_neg hs]
    obtain ⟨r, f, h1, h2, h3⟩ := all_eq7 (s := x0) (by omega)
    rw [h1]
    simp only [Option.bind_some]
    by_cases hf : f.Err = 0
    · rw [if_pos hf]
      rcases text_all h2 with e | ⟨e1, e2, e3⟩
      · rw [e, h8]; rfl
      · obtain ⟨rs', g1, g2⟩ := read_T h2 e2 e3
        rw [e1]
        simp only [Option.bind_some, if_true, g1, same_eq h2 g2, h8]
    · rw [if_neg hf, h3 hf, h8]; rfl
end Go.Proofs.YtgmejigjajcbfaaGreatDoor

set_option linter.unusedVariables false
namespace Go.Proofs.YtgmejigjajcbfaaGreatDoor
open Go Go.Det Go.RowKit
theorem star : "*" ++ "errors.errorString" = "*errors.errorString" := by decide
theorem rowErr (u : TypeId) (h : Tryz.prog.typeName? 3 u = some "*errors.errorString") : u = 149 :=
  typeName_ptr_named (nm := "errors.errorString") (by rw [star]; kernel_rfl) (by kernel_rfl) (by decide) u (by rw [star]; exact h)
theorem cells126 : Tryz.prog.cellsOf 151 = 1 := by kernel_rfl
theorem cells9 : Tryz.prog.cellsOf 9 = 1 := by kernel_rfl
theorem lt_cell {w : World} {g : Nat} {v : Value} (h : w.cell? ⟨g, 0, none⟩ = some v) : g < w.heap.size := by
  unfold World.cell? at h
  split at h
  · rename_i hh; exact (Array.getElem?_eq_some_iff.1 hh).1
  · cases h
theorem chunks : ∀ (n s : Nat) (l : List Value), l.length = 2 * n → (∀ i, i < n → (l.drop (i * 2)).take 2 = [.int .u8 (Lib.accLo (s + i) : Int), .int .u8 (Lib.accHi (s + i) : Int)]) → l = accCells (List.range' s n)
  | 0, s, l, h, _ => by
    have : l = [] := List.length_eq_zero_iff.1 (by simpa using h)
    subst this; rfl
  | n + 1, s, l, h, k => by
    rcases l with _ | ⟨a, _ | ⟨b, r⟩⟩
    · simp at h
    · simp at h; omega
    · have k0 := k 0 (by omega)
      simp only [Nat.zero_mul, List.drop_zero, List.take_succ_cons, List.take_zero, Nat.add_zero, List.cons.injEq, and_true] at k0
      obtain ⟨rfl, rfl⟩ := k0
      rw [List.range'_succ, accCells, ← chunks n (s + 1) r (by simp at h; omega) (fun i hi => by
        have := k (i + 1) (by omega)
        rw [show s + (i + 1) = s + 1 + i by omega, Nat.succ_mul] at this
        simpa using this)]
set_option maxRecDepth 100000 in
theorem laid_acc {W : World} (h4 : Lib.VarReads Tryz.prog W "unicode/utf8.acceptRanges" Lib.acceptData) : 1 < W.heap.size ∧ ∃ t fr, W.heap[1]? = some (.cells ⟨accCells (List.range 16)⟩ t fr) := by
  obtain ⟨g, t, cs, fuel, p, hg, hty, hv, hd⟩ := h4
  have hg1 : g = 1 := Option.some.inj (hg.symm.trans (by kernel_rfl))
  subst hg1
  have ht1 : t = 106 := Option.some.inj (hty.symm.trans (by kernel_rfl))
  subst ht1
  have hu : Tryz.prog.underlying 106 = some (.array 16 105) := by kernel_rfl
  have hc : Tryz.prog.cellsOf 105 = 2 := by kernel_rfl
  have hct : Tryz.prog.cellsOf 106 = 32 := by kernel_rfl
  have hl : cs.toList.length = 32 := by
    cases fuel with
    | zero => simp [DataW.trod] at hd
    | succ fuel =>
      simp only [DataW.trod, hu, hc] at hd
      split at hd
      · rename_i q; exact q.trans hct
      · cases hd
  have hcs := chunks 16 0 cs.toList (by rw [hl]) (fun i hi => by
    obtain ⟨fuel', d, q, hdi, he⟩ := Lib.array_elem hu hd i hi
    simp only [Lib.acceptData, List.getElem?_map, List.getElem?_range hi, Option.map_some, Option.some.injEq] at hdi
    subst hdi
    rw [hc] at he
    have := Lib.ints_of_struct (fs := (match Tryz.prog.underlying 105 with | some (.struct fs) => fs | _ => #[])) (k := .u8) (by kernel_rfl) (fun j f hj => by
      match j, hj with
      | 0, hj => cases hj; exact ⟨by kernel_rfl, by kernel_rfl, by kernel_rfl⟩
      | 1, hj => cases hj; exact ⟨by kernel_rfl, by kernel_rfl, by kernel_rfl⟩
      | j + 2, hj => have : (match Tryz.prog.underlying 105 with | some (.struct fs) => fs | _ => #[]).size = 2 := by kernel_rfl
                     rw [Array.getElem?_eq_none (by rw [this]; omega)] at hj; cases hj) (by kernel_rfl) he
    rw [this, Nat.zero_add]; rfl)
  rw [← List.range_eq_range'] at hcs
  unfold World.var? at hv
  rw [hg] at hv
  simp only [Option.bind_some] at hv
  split at hv
  · rename_i c1 t1 f1 hh
    cases hv
    refine ⟨(Array.getElem?_eq_some_iff.1 hh).1, t1, f1, ?_⟩
    rw [hh, ← hcs]
  · cases hv
/-- What the row lists is what the walks ask for. -/
theorem known {W : World} {a b : String × DataW Unit} (h : laidMet Tryz.prog [a, b, ("internal/strconv.uint64pow10", Rows.laid_internal_strconv_uint64pow10), ("unicode/utf8.acceptRanges", Rows.laid_unicode_utf8_acceptRanges), ("strconv.ErrRange", Rows.laid_strconv_ErrRange), ("strconv.ErrSyntax", Rows.laid_strconv_ErrSyntax), ("unicode/utf8.first", Rows.laid_unicode_utf8_first)] W) (hs : W.ShapedOpen Tryz.prog) : Laid W W.heap.size := by
  have e0 : (Rows.laid_unicode_utf8_first : DataW Unit) = Lib.tabData .u8 Lib.firstTab := by kernel_rfl
  have e1 : (Rows.laid_unicode_utf8_acceptRanges : DataW Unit) = Lib.acceptData := by kernel_rfl
  have e2 : (Rows.laid_internal_strconv_uint64pow10 : DataW Unit) = Lib.tabData .u64 Lib.pow10Tab := by kernel_rfl
  have k0 := laid_tab (g := 0) (n := 256) (by kernel_rfl) (t := 103) (e := 5) (by kernel_rfl) (by kernel_rfl) (by kernel_rfl) (by kernel_rfl) (by kernel_rfl) (e0 ▸ Lib.laidMet.reads h (n := "unicode/utf8.first") (d := Rows.laid_unicode_utf8_first) (by simp))
  have k1 := laid_acc (e1 ▸ Lib.laidMet.reads h (n := "unicode/utf8.acceptRanges") (d := Rows.laid_unicode_utf8_acceptRanges) (by simp))
  have k2 := laid_tab (g := 3) (n := 20) (by kernel_rfl) (t := 139) (e := 124) (by kernel_rfl) (by kernel_rfl) (by kernel_rfl) (by kernel_rfl) (by kernel_rfl) (e2 ▸ Lib.laidMet.reads h (n := "internal/strconv.uint64pow10") (d := Rows.laid_internal_strconv_uint64pow10) (by simp))
  have h3 := h.tail.tail.tail.tail
  have h4 := h3.tail
  obtain ⟨a4, s4, v4, _⟩ := laid_sentinel (g := 4) (ti := 65) (tp := 149) (te := 151) (ts := 9) h4 (by kernel_rfl) (by kernel_rfl) Tryz.underlying65 rowErr Tryz.underlying149 Tryz.underlying151 rfl rfl Tryz.underlying9 cells126 cells9
  obtain ⟨a3, s3, v3, _⟩ := laid_sentinel (g := 5) (ti := 65) (tp := 149) (te := 151) (ts := 9) h3 (by kernel_rfl) (by kernel_rfl) Tryz.underlying65 rowErr Tryz.underlying149 Tryz.underlying151 rfl rfl Tryz.underlying9 cells126 cells9
  have c4 : W.cell? ⟨4, 0, none⟩ = some (.iface 149 (.pointer (some a4))) := by simpa using World.var?_cell (g := 4) (by kernel_rfl) v4 0
  have c3 : W.cell? ⟨5, 0, none⟩ = some (.iface 149 (.pointer (some a3))) := by simpa using World.var?_cell (g := 5) (by kernel_rfl) v3 0
  refine ⟨fun p hp => ?_, fun g hg => ?_, fun g hg => ?_⟩
  · simp only [seatCells, List.mem_cons, List.mem_nil_iff, or_false] at hp
    rcases hp with rfl | rfl | rfl
    · exact k0
    · exact k1
    · exact k2
  · simp only [seatInts, List.mem_cons, List.mem_nil_iff, or_false] at hg
    subst hg
    obtain ⟨m, hm⟩ := cell_of_shapedOpen_int (P := Tryz.prog) (g := 2) (t := 3) (zero := #[.int .i64 0]) hs (of_decide_eq_true (by kernel_rfl)) (by kernel_rfl) rfl (by kernel_rfl) (by kernel_rfl) (by kernel_rfl)
    exact ⟨lt_cell hm, m, hm⟩
  · simp only [seatIfs, List.mem_cons, List.mem_nil_iff, or_false] at hg
    rcases hg with rfl | rfl
    · exact ⟨lt_cell c4, _, _, c4⟩
    · exact ⟨lt_cell c3, _, _, c3⟩
end Go.Proofs.YtgmejigjajcbfaaGreatDoor
