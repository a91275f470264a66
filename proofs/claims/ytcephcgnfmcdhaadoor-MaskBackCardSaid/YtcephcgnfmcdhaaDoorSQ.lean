import Derived.Test.YtcephcgnfmcdhaaDoorSP
import Derived.Laws.RangeAny
set_option linter.unusedVariables false
set_option linter.unusedSimpArgs false
namespace Go.Proofs.YtcephcgnfmcdhaaDoor
open Go Go.Det Go.RowKit
/-! Cutting a text at a byte -/
theorem index1_miss (c : UInt8) : ∀ (p : List UInt8), (∀ x ∈ p, x ≠ c) → Lib.index p [c] = -1
  | [], _ => rfl
  | a :: p, h => by
    have ha := h a (List.mem_cons_self ..)
    rw [Lib.index, index1_miss c p fun x hx => h x (List.mem_cons_of_mem _ hx)]
    have : ([c] : List UInt8).isPrefixOf (a :: p) = false := by simp [List.isPrefixOf, Ne.symm ha]
    rw [this]; rfl
theorem index1_hit (c : UInt8) (q : List UInt8) : ∀ (p : List UInt8), (∀ x ∈ p, x ≠ c) → Lib.index (p ++ c :: q) [c] = (p.length : Int)
  | [], _ => by
    rw [List.nil_append, Lib.index]
    have : ([c] : List UInt8).isPrefixOf (c :: q) = true := by simp [List.isPrefixOf]
    rw [this]; rfl
  | a :: p, h => by
    have ha := h a (List.mem_cons_self ..)
    have ih := index1_hit c q p fun x hx => h x (List.mem_cons_of_mem _ hx)
    rw [List.cons_append, Lib.index, ih]
    have : ([c] : List UInt8).isPrefixOf (a :: (p ++ c :: q)) = false := by simp [List.isPrefixOf, Ne.symm ha]
    rw [this]
    have e : ((p.length : Int) == -1) = false := by rw [beq_eq_false_iff_ne]; omega
    rw [e]; simp
theorem cut_miss (c : UInt8) (p : List UInt8) (h : ∀ x ∈ p, x ≠ c) : Lib.cut p [c] = (p, [], false) := by
  unfold Lib.cut; rw [index1_miss c p h]; rfl
theorem cut_hit (c : UInt8) (p q : List UInt8) (h : ∀ x ∈ p, x ≠ c) : Lib.cut (p ++ c :: q) [c] = (p, q, true) := by
  unfold Lib.cut
  rw [index1_hit c q p h, if_pos (by omega)]
  simp
def joinC (p : List UInt8) : List (List UInt8) → List UInt8
  | [] => p
  | q :: qs => p ++ 44 :: joinC q qs
theorem joinC_eq : ∀ (p : List UInt8) (ps : List (List UInt8)), Lib.join (p :: ps) [44] = joinC p ps
  | p, [] => by simp [Lib.join, joinC, List.intercalate]
  | p, q :: qs => by
    have ih := joinC_eq q qs
    unfold Lib.join List.intercalate at *
    rw [joinC, ← ih]
    simp [List.intersperse]
def noC (p : List UInt8) : Prop := ∀ x ∈ p, x ≠ 44
theorem count_noC {p : List UInt8} (h : noC p) : Lib.count p [44] = 0 := Lib.count_miss (index1_miss 44 p h)
theorem split_joinC : ∀ (p : List UInt8) (ps : List (List UInt8)), noC p → (∀ q ∈ ps, noC q) → Lib.splitK [44] 0 (Lib.count (joinC p ps) [44]) (joinC p ps) = p :: ps
  | p, [], hp, _ => by
    rw [joinC, count_noC hp]; rfl
  | p, q :: qs, hp, hq => by
    have hi := index1_hit 44 (joinC q qs) p hp
    have hd : List.drop (p.length + 1) (p ++ 44 :: joinC q qs) = joinC q qs := by
      rw [List.drop_append]; simp
    rw [joinC, Lib.count_hit (by simp) hi, show ([44] : List UInt8).length = 1 from rfl, hd, Nat.add_comm, Lib.splitK, hi]
    have e : ((p.length : Int) == -1) = false := by rw [beq_eq_false_iff_ne]; omega
    rw [e]
    have ih := split_joinC q qs (hq q (List.mem_cons_self ..)) fun r hr => hq r (List.mem_cons_of_mem _ hr)
    simp only [Bool.false_eq_true, if_false, Int.toNat_natCast, Nat.add_zero]
    rw [show ([44] : List UInt8).length = 1 from rfl, hd, ih]
    simp
theorem ex_joinC : ∀ (s : List UInt8), ∃ p ps, s = joinC p ps ∧ noC p ∧ (∀ q ∈ ps, noC q) ∧ ps.length ≤ s.length
  | [] => ⟨[], [], rfl, fun _ h => (nomatch h), fun _ h => (nomatch h), Nat.le_refl _⟩
  | a :: s => by
    obtain ⟨p, ps, h1, h2, h3, h4⟩ := ex_joinC s
    by_cases ha : a = 44
    · subst ha
      refine ⟨[], p :: ps, by rw [joinC, h1]; rfl, fun _ h => (nomatch h), fun q hq => ?_, by simp; omega⟩
      rcases List.mem_cons.1 hq with rfl | hq
      · exact h2
      · exact h3 q hq
    · refine ⟨a :: p, ps, ?_, fun x hx => ?_, h3, by simp; omega⟩
      · rw [h1]; cases ps <;> rfl
      · rcases List.mem_cons.1 hx with rfl | hx
        · exact ha
        · exact h2 x hx
theorem f48_eq {p : List UInt8} {ps : List (List UInt8)} (hp : noC p) (hps : ∀ q ∈ ps, noC q) (hl : (joinC p ps).length < 4294967281) : f48 (joinC p ps) [44] = some (p :: ps) := by
  unfold f48
  rw [if_pos ⟨hl, by simp⟩, Lib.splitB_data]
  have e : (bs (joinC p ps)).data.toList = joinC p ps := by simp [bs]
  have e2 : (bs [44]).data.toList = [44] := rfl
  show some (Lib.splitK (bs [44]).data.toList 0 (Lib.count (bs (joinC p ps)).data.toList (bs [44]).data.toList) (bs (joinC p ps)).data.toList) = _
  rw [e, e2, split_joinC p ps hp hps]
/-! Numbers of one or two digits -/
def dig (c : UInt8) : Bool := decide (48 ≤ c.toNat ∧ c.toNat ≤ 57)
def numOf : List UInt8 → Option Nat
  | [a] => if dig a then some (a.toNat - 48) else none
  | [a, b] => if dig a && dig b && decide (a.toNat ≠ 48) then some (10 * (a.toNat - 48) + (b.toNat - 48)) else none
  | _ => none
theorem dec_at {x : List UInt8} {p : Nat} {c : UInt8} (h : x[p]? = some c) : (c.toNat < 128 ∧ decL x p = (c.toNat : Int) ∧ decN x p = 1) ∨ (128 ≤ c.toNat ∧ 128 ≤ decL x p) := by
  have hp : p < x.length := (List.getElem?_eq_some_iff.1 h).1
  have hs : p < (bs x).size := hp
  have hc : (bs x)[p]'hs = c := by
    have := (List.getElem?_eq_some_iff.1 h).2
    exact this
  by_cases hl : c.toNat < 128
  · left
    have := decode_ascii (bs x) p hs (by rw [hc]; exact hl)
    unfold decL decN
    rw [this, hc]
    exact ⟨hl, rfl, rfl⟩
  · right
    have := (decode_high (bs x) p hs (by rw [hc]; omega)).1
    unfold decL
    exact ⟨by omega, by omega⟩
theorem dec_no {x : List UInt8} {p : Nat} {c : UInt8} (h : x[p]? = some c) (hd : dig c = false) : decL x p < 48 ∨ decL x p > 57 := by
  have : ¬ (48 ≤ c.toNat ∧ c.toNat ≤ 57) := by simpa [dig] using hd
  rcases dec_at h with ⟨h1, h2, h3⟩ | ⟨h1, h2⟩ <;> omega
theorem dec_yes {x : List UInt8} {p : Nat} {c : UInt8} (h : x[p]? = some c) (hd : dig c = true) : decL x p = (c.toNat : Int) ∧ decN x p = 1 ∧ 48 ≤ c.toNat ∧ c.toNat ≤ 57 := by
  have : 48 ≤ c.toNat ∧ c.toNat ≤ 57 := by simpa [dig] using hd
  rcases dec_at h with ⟨h1, h2, h3⟩ | ⟨h1, h2⟩
  · exact ⟨h2, h3, this⟩
  · omega
theorem w32 {x : Int} (h1 : 0 ≤ x) (h2 : x ≤ 1000) : IntKind.i32.wrap x = x := by rw [IntKind.wrap_i32]; omega
theorem f50_no {x : List UInt8} {k p : Nat} {acc : Int} {c : UInt8} (h : x[p]? = some c) (hd : dig c = false) : f50_l1 x (k + 1) acc p = some (.inl (0, false)) := by
  have hp : p < x.length := (List.getElem?_eq_some_iff.1 h).1
  rw [f50_l1, if_pos hp]
  rcases dec_no h hd with q | q
  · rw [if_pos q]; rfl
  · rw [if_neg (by omega), if_pos q]; rfl
theorem f50_end {x : List UInt8} {k p : Nat} {acc : Int} (h : x.length ≤ p) : f50_l1 x (k + 1) acc p = some (.inr acc) := by
  rw [f50_l1, if_neg (by omega)]
theorem f50_two {x : List UInt8} {k p : Nat} {acc : Int} {c : UInt8} (h : x[p]? = some c) (hd : dig c = true) (hp : 1 < p) : f50_l1 x (k + 1) acc p = some (.inl (0, false)) := by
  have hl : p < x.length := (List.getElem?_eq_some_iff.1 h).1
  obtain ⟨h1, h2, h3, h4⟩ := dec_yes h hd
  rw [f50_l1, if_pos hl, if_neg (by omega), if_neg (by omega), if_pos (by omega)]; rfl
theorem f50_zero {x : List UInt8} {k : Nat} {c : UInt8} (h : x[1]? = some c) (hd : dig c = true) : f50_l1 x (k + 1) 0 1 = some (.inl (0, false)) := by
  have hl : 1 < x.length := (List.getElem?_eq_some_iff.1 h).1
  obtain ⟨h1, h2, h3, h4⟩ := dec_yes h hd
  rw [f50_l1, if_pos hl, if_neg (by omega), if_neg (by omega), if_neg (by omega), if_pos (by omega), if_pos rfl]; rfl
theorem f50_step {x : List UInt8} {k p : Nat} {acc : Nat} {c : UInt8} (h : x[p]? = some c) (hd : dig c = true) (hp : p = 0 ∨ p = 1 ∧ acc ≠ 0) (ha : acc ≤ 9) : f50_l1 x (k + 1) (acc : Int) p = f50_l1 x k ((10 * acc + (c.toNat - 48) : Nat) : Int) (p + 1) := by
  have hl : p < x.length := (List.getElem?_eq_some_iff.1 h).1
  obtain ⟨h1, h2, h3, h4⟩ := dec_yes h hd
  have e1 : IntKind.i32.wrap ((c.toNat : Int) - 48) = ((c.toNat - 48 : Nat) : Int) := by rw [w32 (by omega) (by omega)]; omega
  have e2 : IntKind.i64.wrap (IntKind.i64.wrap (10 * (acc : Int)) + IntKind.i64.wrap ((c.toNat - 48 : Nat) : Int)) = ((10 * acc + (c.toNat - 48) : Nat) : Int) := by
    rw [w64 (x := 10 * (acc : Int)) (by omega) (by omega), w64 (x := ((c.toNat - 48 : Nat) : Int)) (by omega) (by omega), w64 (by omega) (by omega)]; omega
  rw [f50_l1, if_pos hl, h1, h2, e1, e2, if_neg (by omega), if_neg (by omega), if_neg (by omega)]
  rcases hp with rfl | ⟨rfl, h0⟩
  · rw [if_neg (by omega)]; rfl
  · rw [if_pos (by omega), if_neg (by omega)]; rfl
theorem f50_eq (k : Nat) (s : List UInt8) : ∃ v : Int, f50 (k + 3) s = some (v, (numOf s).isSome) ∧ ∀ n, numOf s = some n → v = (n : Int) := by
  unfold f50
  have e0 : f50_l1 s (k + 3) 0 0 = f50_l1 s (k + 2 + 1) ((0 : Nat) : Int) 0 := rfl
  rw [e0]
  match s with
  | [] => exact ⟨0, by rw [f50_end (by simp)]; rfl, fun n h => (nomatch h)⟩
  | [a] =>
    cases ha : dig a with
    | false =>
      refine ⟨0, ?_, fun n h => ?_⟩
      · rw [f50_no (c := a) rfl ha]; simp [numOf, ha]
      · simp [numOf, ha] at h
    | true =>
      refine ⟨((a.toNat - 48 : Nat) : Int), ?_, fun n h => ?_⟩
      · rw [f50_step (c := a) rfl ha (.inl rfl) (by decide), f50_end (by simp)]; simp [numOf, ha]
      · simp [numOf, ha] at h; omega
  | [a, b] =>
    cases ha : dig a with
    | false =>
      refine ⟨0, ?_, fun n h => ?_⟩
      · rw [f50_no (c := a) rfl ha]; simp [numOf, ha]
      · simp [numOf, ha] at h
    | true =>
      obtain ⟨-, -, a1, a2⟩ := dec_yes (x := [a, b]) (p := 0) (c := a) rfl ha
      rw [f50_step (c := a) rfl ha (.inl rfl) (by decide)]
      cases hb : dig b with
      | false =>
        refine ⟨0, ?_, fun n h => ?_⟩
        · rw [f50_no (c := b) rfl hb]; simp [numOf, hb]
        · simp [numOf, hb] at h
      | true =>
        by_cases h0 : a.toNat = 48
        · refine ⟨0, ?_, fun n h => ?_⟩
          · have e : ((10 * 0 + (a.toNat - 48) : Nat) : Int) = 0 := by omega
            rw [e, f50_zero (c := b) rfl hb]; simp [numOf, ha, hb, h0]
          · simp [numOf, h0] at h
        · refine ⟨((10 * (a.toNat - 48) + (b.toNat - 48) : Nat) : Int), ?_, fun n h => ?_⟩
          · rw [f50_step (c := b) rfl hb (.inr ⟨rfl, by omega⟩) (by omega), f50_end (by simp)]
            simp [numOf, ha, hb, h0]
          · simp [numOf, ha, hb, h0] at h; omega
  | a :: b :: c :: u =>
    have hn : numOf (a :: b :: c :: u) = none := rfl
    rw [hn]
    refine ⟨0, ?_, fun n h => (nomatch h)⟩
    cases ha : dig a with
    | false => rw [f50_no (c := a) rfl ha]; rfl
    | true =>
      obtain ⟨-, -, a1, a2⟩ := dec_yes (x := [a, b]) (p := 0) (c := a) rfl ha
      rw [f50_step (c := a) rfl ha (.inl rfl) (by decide)]
      cases hb : dig b with
      | false => rw [f50_no (c := b) rfl hb]; rfl
      | true =>
        by_cases h0 : a.toNat = 48
        · have e : ((10 * 0 + (a.toNat - 48) : Nat) : Int) = 0 := by omega
          rw [e, f50_zero (c := b) rfl hb]; rfl
        · rw [f50_step (c := b) rfl hb (.inr ⟨rfl, by omega⟩) (by omega)]
          cases hc : dig c with
          | false => rw [f50_no (c := c) rfl hc]; rfl
          | true => rw [f50_two (c := c) rfl hc (by decide)]; rfl
/-! Pieces of a text -/
def pieceOf (p : List UInt8) : Option T47 :=
  match Lib.cut p [45] with
  | (a, b, true) => (numOf a).bind fun m => (numOf b).bind fun n => some ⟨m, n⟩
  | (a, _, false) => (numOf a).bind fun m => some ⟨m, -1⟩
theorem f36_loop (t : List (List UInt8)) (k : Nat) : ∀ (rest : List (List UInt8)) (n i : Nat) (l0 : List T47), t.drop i = rest → (∀ p ∈ rest, p.length < 1000) → rest.length < n → l0.length + rest.length ≤ 1000 → i + rest.length ≤ 1000 → f36_l1 (k + 3) t n l0 (i : Int) = match rest.mapM pieceOf with | none => some (.inr ([], false)) | some l => some (.inl (l0 ++ l))
  | rest, 0, i, l0, h, hb, hn, hl, hi => by omega
  | [], n + 1, i, l0, h, hb, hn, hl, hi => by
    have : t.length ≤ i := List.drop_eq_nil_iff.1 h
    rw [f36_l1, decide_eq_false (by omega)]
    simp
  | p :: rest, n + 1, i, l0, h, hb, hn, hl, hi => by
    have hlt : i < t.length := by
      rcases Nat.lt_or_ge i t.length with q | q
      · exact q
      · rw [List.drop_eq_nil_of_le q] at h; cases h
    have hg : t[i]? = some p := by
      have := congrArg (·[0]?) h
      simpa using this
    have hr : rd t (i : Int) = some p := by unfold rd; rw [if_pos (by omega)]; simpa using hg
    have hd : t.drop (i + 1) = rest := by
      have := congrArg (List.drop 1) h
      simpa [List.drop_drop] using this
    have ew : IntKind.i64.wrap ((i : Int) + 1) = ((i + 1 : Nat) : Int) := by simp at hi; rw [w64 (by omega) (by omega)]; omega
    have ih := fun (l1 : List T47) (h1 : l1.length = l0.length + 1) => f36_loop t k rest n (i + 1) l1 hd (fun q hq => hb q (List.mem_cons_of_mem _ hq)) (by simp at hn; omega) (by simp at hl; omega) (by simp at hi; omega)
    have hcut : f49 p [45] = some (Lib.cut p [45]) := by
      unfold f49; rw [if_pos]; have := hb p (List.mem_cons_self ..); omega
    rw [f36_l1, decide_eq_true (by omega)]
    simp only [Option.bind_some, if_true, hr, hcut, List.mapM_cons, pieceOf]
    obtain ⟨a, b, f⟩ := Lib.cut p [45]
    obtain ⟨va, ha, na⟩ := f50_eq k a
    obtain ⟨vb, hb', nb⟩ := f50_eq k b
    simp only [List.length_cons] at hl
    cases f with
    | true =>
      simp only [if_true, ha, hb', Option.bind_some]
      cases hna : numOf a with
      | none => simp
      | some m =>
        cases hnb : numOf b with
        | none => simp
        | some o =>
          rw [na m hna, nb o hnb]
          simp only [Option.isSome_some, if_true, Option.bind_some]
          rw [apd_ok (by simp; omega), Option.bind_some, ew, ih _ (by simp)]
          cases rest.mapM pieceOf <;> simp
    | false =>
      simp only [Bool.false_eq_true, if_false, ha, Option.bind_some]
      cases hna : numOf a with
      | none => simp
      | some m =>
        rw [na m hna]
        simp only [Option.isSome_some, if_true, Option.bind_some]
        rw [apd_ok (by simp; omega), Option.bind_some, ew, ih _ (by simp)]
        cases rest.mapM pieceOf <;> simp
end Go.Proofs.YtcephcgnfmcdhaaDoor

set_option linter.unusedVariables false
set_option linter.unusedSimpArgs false
namespace Go.Proofs.YtcephcgnfmcdhaaDoor
open Go Go.Det Go.RowKit
/-! A number at the head of a text -/
def num : List UInt8 → Option (Nat × List UInt8)
  | [] => none
  | [a] => if dig a then some (a.toNat - 48, []) else none
  | [a, b] => if dig a then (if dig b then (if a.toNat = 48 then none else some (10 * (a.toNat - 48) + (b.toNat - 48), [])) else some (a.toNat - 48, [b])) else none
  | a :: b :: c :: u => if dig a then (if dig b then (if dig c then none else if a.toNat = 48 then none else some (10 * (a.toNat - 48) + (b.toNat - 48), c :: u)) else some (a.toNat - 48, b :: c :: u)) else none
def noD (r : List UInt8) : Prop := ∀ c u, r = c :: u → dig c = false
theorem num_span : ∀ (d r : List UInt8), (∀ x ∈ d, dig x = true) → noD r → num (d ++ r) = (numOf d).map fun v => (v, r)
  | [], [], _, _ => rfl
  | [], [c], _, hr => by have := hr c _ rfl; simp [num, numOf, this]
  | [], [c, e], _, hr => by have := hr c _ rfl; simp [num, numOf, this]
  | [], c :: e :: f :: u, _, hr => by have := hr c _ rfl; simp [num, numOf, this]
  | [a], [], hd, _ => by have := hd a (by simp); simp [num, numOf, this]
  | [a], [c], hd, hr => by have := hd a (by simp); have h2 := hr c _ rfl; simp [num, numOf, this, h2]
  | [a], c :: e :: u, hd, hr => by have := hd a (by simp); have h2 := hr c _ rfl; simp [num, numOf, this, h2]
  | [a, b], [], hd, _ => by
    have h1 := hd a (by simp); have h2 := hd b (by simp)
    by_cases q : a.toNat = 48 <;> simp [num, numOf, h1, h2, q]
  | [a, b], c :: u, hd, hr => by
    have h1 := hd a (by simp); have h2 := hd b (by simp); have h3 := hr c _ rfl
    by_cases q : a.toNat = 48 <;> simp [num, numOf, h1, h2, h3, q]
  | a :: b :: c :: u, r, hd, _ => by
    have h1 := hd a (by simp); have h2 := hd b (by simp); have h3 := hd c (by simp)
    simp [num, numOf, h1, h2, h3]
theorem span_dig : ∀ (p : List UInt8), ∃ d r, p = d ++ r ∧ (∀ x ∈ d, dig x = true) ∧ noD r
  | [] => ⟨[], [], rfl, fun _ h => (nomatch h), fun _ _ h => (nomatch h)⟩
  | a :: p => by
    cases ha : dig a with
    | false => exact ⟨[], a :: p, rfl, fun _ h => (nomatch h), fun c u h => by cases h; exact ha⟩
    | true =>
      obtain ⟨d, r, h1, h2, h3⟩ := span_dig p
      refine ⟨a :: d, r, by rw [h1]; rfl, fun x hx => ?_, h3⟩
      rcases List.mem_cons.1 hx with rfl | hx
      · exact ha
      · exact h2 x hx
theorem numOf_bad {d : List UInt8} {c : UInt8} (h : c ∈ d) (hc : dig c = false) : numOf d = none := by
  match d with
  | [] => rfl
  | [a] => simp at h; subst h; simp [numOf, hc]
  | [a, b] =>
    simp at h
    rcases h with rfl | rfl
    · simp [numOf, hc]
    · simp [numOf, hc]
  | a :: b :: e :: u => rfl
theorem dig45 : dig 45 = false := by decide
theorem dig44 : dig 44 = false := by decide
theorem dig_ne {c x : UInt8} (hc : dig c = false) (hx : dig x = true) : x ≠ c := fun e => by subst e; rw [hc] at hx; cases hx
/-! One part at the head of a text -/
def headp (s : List UInt8) : Option (T47 × List UInt8) :=
  match num s with
  | none => none
  | some (a, 45 :: r) => (num r).map fun x => (⟨a, x.1⟩, x.2)
  | some (a, r) => some (⟨a, -1⟩, r)
def tailC (t : List UInt8) : Prop := t = [] ∨ ∃ q, t = 44 :: q
def badT (o : Option (T47 × List UInt8)) : Prop := o = none ∨ ∃ x c u, o = some (x, c :: u) ∧ c ≠ 44
theorem noD_tail {t : List UInt8} (ht : tailC t) : noD t := fun c u h => by
  rcases ht with rfl | ⟨q, rfl⟩
  · cases h
  · cases h; exact dig44
theorem headp_piece {p t : List UInt8} (hp : noC p) (ht : tailC t) : (∃ x, pieceOf p = some x ∧ headp (p ++ t) = some (x, t)) ∨ (pieceOf p = none ∧ badT (headp (p ++ t))) := by
  obtain ⟨d, r, rfl, hd, hr⟩ := span_dig p
  have d45 : ∀ x ∈ d, x ≠ 45 := fun x hx => dig_ne dig45 (hd x hx)
  match r, hr with
  | [], hr =>
    have hn : num (d ++ [] ++ t) = (numOf d).map fun v => (v, t) := by rw [List.append_nil]; exact num_span d t hd (noD_tail ht)
    have hc : pieceOf (d ++ []) = (numOf d).bind fun m => some ⟨m, -1⟩ := by rw [List.append_nil]; unfold pieceOf; rw [cut_miss 45 d d45]
    unfold headp
    rw [hn, hc]
    cases numOf d with
    | none => exact .inr ⟨rfl, .inl rfl⟩
    | some m =>
      refine .inl ⟨_, rfl, ?_⟩
      rcases ht with rfl | ⟨q, rfl⟩ <;> rfl
  | 45 :: r, hr =>
    have hn : num (d ++ 45 :: r ++ t) = (numOf d).map fun v => (v, 45 :: (r ++ t)) := by rw [List.append_assoc, List.cons_append]; exact num_span d _ hd (fun c u h => by cases h; exact dig45)
    have hc : pieceOf (d ++ 45 :: r) = (numOf d).bind fun m => (numOf r).bind fun n => some ⟨m, n⟩ := by unfold pieceOf; rw [cut_hit 45 d r d45]
    unfold headp
    rw [hn, hc]
    cases numOf d with
    | none => exact .inr ⟨rfl, .inl rfl⟩
    | some m =>
      simp only [Option.map_some, Option.bind_some]
      obtain ⟨e, s, rfl, he, hs⟩ := span_dig r
      match s, hs with
      | [], hs =>
        rw [List.append_nil, num_span e t he (noD_tail ht)]
        cases numOf e with
        | none => exact .inr ⟨rfl, .inl rfl⟩
        | some o => exact .inl ⟨_, rfl, rfl⟩
      | c :: s, hs =>
        have hcd := hs c s rfl
        have h44 : c ≠ 44 := hp c (by simp)
        rw [numOf_bad (d := e ++ c :: s) (c := c) (by simp) hcd, List.append_assoc, List.cons_append, num_span e _ he (fun c' u h => by cases h; exact hcd)]
        refine .inr ⟨rfl, ?_⟩
        cases numOf e with
        | none => exact .inl rfl
        | some o => exact .inr ⟨_, c, s ++ t, rfl, h44⟩
  | c :: r, hr =>
    by_cases h45 : c = 45
    · subst h45
      have hn : num (d ++ 45 :: r ++ t) = (numOf d).map fun v => (v, 45 :: (r ++ t)) := by rw [List.append_assoc, List.cons_append]; exact num_span d _ hd (fun c u h => by cases h; exact dig45)
      have hc : pieceOf (d ++ 45 :: r) = (numOf d).bind fun m => (numOf r).bind fun n => some ⟨m, n⟩ := by unfold pieceOf; rw [cut_hit 45 d r d45]
      unfold headp
      rw [hn, hc]
      cases numOf d with
      | none => exact .inr ⟨rfl, .inl rfl⟩
      | some m =>
        simp only [Option.map_some, Option.bind_some]
        obtain ⟨e, s, rfl, he, hs⟩ := span_dig r
        match s, hs with
        | [], hs =>
          rw [List.append_nil, num_span e t he (noD_tail ht)]
          cases numOf e with
          | none => exact .inr ⟨rfl, .inl rfl⟩
          | some o => exact .inl ⟨_, rfl, rfl⟩
        | c :: s, hs =>
          have hcd := hs c s rfl
          have h44 : c ≠ 44 := hp c (by simp)
          rw [numOf_bad (d := e ++ c :: s) (c := c) (by simp) hcd, List.append_assoc, List.cons_append, num_span e _ he (fun c' u h => by cases h; exact hcd)]
          refine .inr ⟨rfl, ?_⟩
          cases numOf e with
          | none => exact .inl rfl
          | some o => exact .inr ⟨_, c, s ++ t, rfl, h44⟩
    · have hcd := hr c r rfl
      have h44 : c ≠ 44 := hp c (by simp)
      have hn : num (d ++ c :: r ++ t) = (numOf d).map fun v => (v, c :: (r ++ t)) := by rw [List.append_assoc, List.cons_append]; exact num_span d _ hd (fun c' u h => by cases h; exact hcd)
      have hc : pieceOf (d ++ c :: r) = none := by
        unfold pieceOf
        by_cases q : ∀ x ∈ d ++ c :: r, x ≠ 45
        · rw [cut_miss 45 _ q]; simp only []; rw [numOf_bad (d := d ++ c :: r) (c := c) (by simp) hcd]; rfl
        · have : ∃ r1 r2, r = r1 ++ 45 :: r2 ∧ ∀ x ∈ r1, x ≠ 45 := by
            have hm : (45 : UInt8) ∈ r := by
              have q' : ∃ x, x ∈ d ++ c :: r ∧ x = 45 := by
                apply Classical.byContradiction
                intro k
                exact q fun x hx e => k ⟨x, hx, e⟩
              obtain ⟨x, hx, rfl⟩ := q'
              rcases List.mem_append.1 hx with w | w
              · exact absurd rfl (d45 _ w)
              · rcases List.mem_cons.1 w with w | w
                · exact absurd w.symm h45
                · exact w
            clear hn hp q hr
            induction r with
            | nil => cases hm
            | cons a r ih =>
              by_cases ha : a = 45
              · subst ha; exact ⟨[], r, rfl, fun _ h => (nomatch h)⟩
              · obtain ⟨r1, r2, h1, h2⟩ := ih (by rcases List.mem_cons.1 hm with w | w; exact absurd w.symm ha; exact w)
                refine ⟨a :: r1, r2, by rw [h1]; rfl, fun x hx => ?_⟩
                rcases List.mem_cons.1 hx with rfl | hx
                · exact ha
                · exact h2 x hx
          obtain ⟨r1, r2, rfl, h1⟩ := this
          have e : d ++ c :: (r1 ++ 45 :: r2) = (d ++ c :: r1) ++ 45 :: r2 := by simp
          rw [e, cut_hit 45 (d ++ c :: r1) r2 (fun x hx => by
            rcases List.mem_append.1 hx with w | w
            · exact d45 x w
            · rcases List.mem_cons.1 w with rfl | w
              · exact h45
              · exact h1 x w)]
          simp only []
          rw [numOf_bad (d := d ++ c :: r1) (c := c) (by simp) hcd]; rfl
      unfold headp
      rw [hn, hc]
      refine .inr ⟨rfl, ?_⟩
      cases numOf d with
      | none => exact .inl rfl
      | some m =>
        right
        refine ⟨⟨m, -1⟩, c, r ++ t, ?_, h44⟩
        simp only [Option.map_some]
        split
        · rename_i e; cases e
        · rename_i e; cases e; exact absurd rfl h45
        · rename_i e; cases e; rfl
/-! The reference's number -/
theorem rd_drop {x : List UInt8} {p j : Nat} : rd x ((p + j : Nat) : Int) = (x.drop p)[j]? := by
  unfold rd
  rw [if_pos (by omega), Int.toNat_natCast, List.getElem?_drop]
theorem f40_in {x : List UInt8} {p j n : Nat} {acc : Nat} {c : UInt8} (h : (x.drop p)[j]? = some c) (hd : dig c = true) (hj : j < 3) (hp : p < 1000) (ha : acc < 100) : f40_l1 x (p : Int) (n + 1) (acc : Int) (j : Int) = f40_l1 x (p : Int) n ((10 * acc + (c.toNat - 48) : Nat) : Int) ((j + 1 : Nat) : Int) := by
  have hc : 48 ≤ c.toNat ∧ c.toNat ≤ 57 := by simpa [dig] using hd
  have hl : p + j < x.length := by
    have := (List.getElem?_eq_some_iff.1 h).1
    simp at this; omega
  have e : IntKind.i64.wrap ((p : Int) + (j : Int)) = ((p + j : Nat) : Int) := by rw [w64 (by omega) (by omega)]; omega
  have e1 : IntKind.i64.wrap ((j : Int) + 1) = ((j + 1 : Nat) : Int) := by rw [w64 (by omega) (by omega)]; omega
  have e2 : IntKind.u8.wrap ((c.toNat : Int) - 48) = ((c.toNat - 48 : Nat) : Int) := by rw [IntKind.wrap_u8]; omega
  have e3 : IntKind.i64.wrap (IntKind.i64.wrap (10 * (acc : Int)) + IntKind.i64.wrap ((c.toNat - 48 : Nat) : Int)) = ((10 * acc + (c.toNat - 48) : Nat) : Int) := by
    rw [w64 (x := 10 * (acc : Int)) (by omega) (by omega), w64 (x := ((c.toNat - 48 : Nat) : Int)) (by omega) (by omega), w64 (by omega) (by omega)]; omega
  rw [f40_l1, e, if_pos (by omega), rd_drop, h]
  simp only [Option.bind_some]
  rw [if_pos (by omega), if_pos (by omega), if_pos (by omega), e1, e2, e3]
theorem f40_out {x : List UInt8} {p j n : Nat} {acc : Int} {c : UInt8} (h : (x.drop p)[j]? = some c) (hd : dig c = false) (hj : j ≤ 3) (hp : p < 1000) : f40_l1 x (p : Int) (n + 1) acc (j : Int) = some (acc, (j : Int)) := by
  have hc : ¬ (48 ≤ c.toNat ∧ c.toNat ≤ 57) := by simpa [dig] using hd
  have hl : p + j < x.length := by
    have := (List.getElem?_eq_some_iff.1 h).1
    simp at this; omega
  have e : IntKind.i64.wrap ((p : Int) + (j : Int)) = ((p + j : Nat) : Int) := by rw [w64 (by omega) (by omega)]; omega
  rw [f40_l1, e, if_pos (by omega), rd_drop, h]
  simp only [Option.bind_some]
  by_cases q : 48 ≤ c.toNat
  · rw [if_pos (by omega), if_neg (by omega)]
  · rw [if_neg (by omega)]
theorem f40_end {x : List UInt8} {p j n : Nat} {acc : Int} (h : (x.drop p)[j]? = none) (hj : j ≤ 3) (hp : p < 1000) : f40_l1 x (p : Int) (n + 1) acc (j : Int) = some (acc, (j : Int)) := by
  have hl : x.length ≤ p + j := by
    have := List.getElem?_eq_none_iff.1 h
    simp at this; omega
  have e : IntKind.i64.wrap ((p : Int) + (j : Int)) = ((p + j : Nat) : Int) := by rw [w64 (by omega) (by omega)]; omega
  rw [f40_l1, e, if_neg (by omega)]
theorem f40_three {x : List UInt8} {p n : Nat} {acc : Int} (hp : p < 1000) : f40_l1 x (p : Int) (n + 1) acc ((3 : Nat) : Int) = some (acc, ((3 : Nat) : Int)) := by
  cases h : (x.drop p)[3]? with
  | none => exact f40_end h (by decide) hp
  | some c =>
    cases hd : dig c with
    | false => exact f40_out h hd (by decide) hp
    | true =>
      have hc : 48 ≤ c.toNat ∧ c.toNat ≤ 57 := by simpa [dig] using hd
      have hl : p + 3 < x.length := by
        have := (List.getElem?_eq_some_iff.1 h).1
        simp at this; omega
      have e : IntKind.i64.wrap ((p : Int) + ((3 : Nat) : Int)) = ((p + 3 : Nat) : Int) := by rw [w64 (by omega) (by omega)]; omega
      rw [f40_l1, e, if_pos (by omega), rd_drop, h]
      simp only [Option.bind_some]
      rw [if_pos (by omega), if_pos (by omega), if_neg (by omega)]
def NumIs (x : List UInt8) (p : Nat) (o : Option (Int × Int)) : Prop :=
  match num (x.drop p) with
  | none => ∃ v, o = some (v, 0)
  | some (v, r) => ∃ w : Nat, 0 < w ∧ x.drop (p + w) = r ∧ p + w ≤ x.length ∧ o = some ((v : Int), (w : Int))
theorem f40_eq {x : List UInt8} {p : Nat} (k : Nat) (hp : p < 1000) : NumIs x p (f40 (k + 4) x (p : Int)) := by
  unfold NumIs f40
  have e0 : f40_l1 x (p : Int) (k + 4) 0 0 = f40_l1 x (p : Int) (k + 3 + 1) ((0 : Nat) : Int) ((0 : Nat) : Int) := rfl
  rw [e0]
  have hdr : ∀ w, x.drop (p + w) = (x.drop p).drop w := fun w => by rw [List.drop_drop]
  have hlen : (x.drop p).length = x.length - p := List.length_drop
  have hrd : rd x (p : Int) = (x.drop p)[0]? := by have := rd_drop (x := x) (p := p) (j := 0); simpa using this
  generalize hs : x.drop p = s at *
  match s with
  | [] =>
    rw [f40_end (by rw [hs]; rfl) (by decide) hp]
    exact ⟨0, rfl⟩
  | a :: s =>
    cases ha : dig a with
    | false =>
      have hn : num (a :: s) = none := by match s with | [] => simp [num, ha] | [b] => simp [num, ha] | b :: c :: u => simp [num, ha]
      rw [hn, f40_out (c := a) (by rw [hs]; rfl) ha (by decide) hp]
      exact ⟨0, rfl⟩
    | true =>
      have hc : 48 ≤ a.toNat ∧ a.toNat ≤ 57 := by simpa [dig] using ha
      rw [f40_in (c := a) (by rw [hs]; rfl) ha (by decide) hp (by decide)]
      match s with
      | [] =>
        rw [f40_end (by rw [hs]; rfl) (by decide) hp]
        simp only [num, ha, if_true]
        refine ⟨1, by decide, by rw [hdr]; rfl, by simp at hlen; omega, ?_⟩
        simp
      | b :: s =>
        cases hb : dig b with
        | false =>
          have hn : num (a :: b :: s) = some (a.toNat - 48, b :: s) := by match s with | [] => simp [num, ha, hb] | c :: u => simp [num, ha, hb]
          rw [hn, f40_out (c := b) (by rw [hs]; rfl) hb (by decide) hp]
          refine ⟨1, by decide, by rw [hdr]; rfl, by simp at hlen; omega, ?_⟩
          simp
        | true =>
          have hc2 : 48 ≤ b.toNat ∧ b.toNat ≤ 57 := by simpa [dig] using hb
          rw [f40_in (c := b) (by rw [hs]; rfl) hb (by decide) hp (by omega)]
          have two : ∀ u, (u = s) → noD s → num (a :: b :: s) = (if a.toNat = 48 then none else some (10 * (a.toNat - 48) + (b.toNat - 48), s)) := fun u hu hn => by
            match s, hn with
            | [], hn => simp [num, ha, hb]
            | c :: u, hn => simp [num, ha, hb, hn c u rfl]
          have fin2 : noD s → f40_l1 x (p : Int) (k + 2) ((10 * (10 * 0 + (a.toNat - 48)) + (b.toNat - 48) : Nat) : Int) ((0 + 1 + 1 : Nat) : Int) = some (((10 * (10 * 0 + (a.toNat - 48)) + (b.toNat - 48) : Nat) : Int), ((2 : Nat) : Int)) := fun hn => by
            match s, hn with
            | [], hn => exact f40_end (by rw [hs]; rfl) (by decide) hp
            | c :: u, hn => exact f40_out (c := c) (by rw [hs]; rfl) (hn c u rfl) (by decide) hp
          by_cases hn : noD s
          · rw [two s rfl hn, fin2 hn]
            have ra : rd x (p : Int) = some a := by rw [hrd]; rfl
            by_cases q : a.toNat = 48
            · rw [if_pos q]
              refine ⟨0, ?_⟩
              simp only [Option.bind_some]
              rw [if_neg (by omega), if_pos (by rfl), ra]
              simp [q]
            · rw [if_neg q]
              refine ⟨2, by decide, by rw [hdr]; rfl, by simp at hlen; omega, ?_⟩
              simp only [Option.bind_some]
              rw [if_neg (by omega), if_pos (by rfl), ra]
              simp only [Option.bind_some]
              rw [if_neg (by omega)]
              simp
          · have : ∃ c u, s = c :: u ∧ dig c = true := by
              match s, hn with
              | [], hn => exact absurd (fun _ _ h => (nomatch h)) hn
              | c :: u, hn =>
                refine ⟨c, u, rfl, ?_⟩
                cases hc : dig c with
                | true => rfl
                | false => exact absurd (fun c' u' h => by cases h; exact hc) hn
            obtain ⟨c, u, rfl, hc3⟩ := this
            have hn : num (a :: b :: c :: u) = none := by simp [num, ha, hb, hc3]
            rw [hn, f40_in (c := c) (by rw [hs]; rfl) hc3 (by decide) hp (by omega), f40_three hp]
            exact ⟨0, rfl⟩
end Go.Proofs.YtcephcgnfmcdhaaDoor

set_option linter.unusedVariables false
set_option linter.unusedSimpArgs false
namespace Go.Proofs.YtcephcgnfmcdhaaDoor
open Go Go.Det Go.RowKit
/-! The reference's reader -/
theorem numIs_none {x : List UInt8} {p : Nat} {o : Option (Int × Int)} (h : NumIs x p o) (hn : num (x.drop p) = none) : ∃ v, o = some (v, 0) := by
  unfold NumIs at h; rw [hn] at h; exact h
theorem numIs_some {x : List UInt8} {p : Nat} {o : Option (Int × Int)} {v : Nat} {r : List UInt8} (h : NumIs x p o) (hn : num (x.drop p) = some (v, r)) : ∃ w : Nat, 0 < w ∧ x.drop (p + w) = r ∧ p + w ≤ x.length ∧ o = some ((v : Int), (w : Int)) := by
  unfold NumIs at h; rw [hn] at h; exact h
theorem rd_nat {x : List UInt8} {p : Nat} : rd x (p : Int) = x[p]? := by
  unfold rd; rw [if_pos (by omega), Int.toNat_natCast]
def after (k : Nat) (x : List UInt8) (n : Nat) (l0 l1 : List Int) (w : Nat) : Option ((Int × Int) ⊕ ((List Int) × (List Int))) :=
  if (w : Int) = (x.length : Int) then some (Sum.inr (l0, l1))
  else (rd x (w : Int)).bind fun b69 =>
    if ((b69.toNat : Nat) : Int) = 44 then f13_l1 k x n l0 l1 (IntKind.i64.wrap ((w : Int) + 1)) else some (Sum.inl ((0, 3) : Int × Int))
theorem f13_no {x : List UInt8} {k n p : Nat} {l0 l1 : List Int} (hp : p ≤ x.length) (hx : x.length < 900) (h : headp (x.drop p) = none) : f13_l1 (k + 4) x (n + 1) l0 l1 (p : Int) = some (.inl (0, 3)) := by
  have h1 := f40_eq (x := x) (p := p) k (by omega)
  rw [f13_l1]
  cases hn : num (x.drop p) with
  | none =>
    obtain ⟨v, hv⟩ := numIs_none h1 hn
    rw [hv]; rfl
  | some y =>
    obtain ⟨v, r⟩ := y
    obtain ⟨w, w0, wd, wl, hv⟩ := numIs_some h1 hn
    unfold headp at h
    rw [hn] at h
    match r, wd, h with
    | [], wd, h => cases h
    | c :: r, wd, h =>
      by_cases hc : c = 45
      · subst hc
        have hlt : p + w < x.length := by
          rcases Nat.lt_or_ge (p + w) x.length with q | q
          · exact q
          · rw [List.drop_eq_nil_of_le q] at wd; cases wd
        have hr : rd x ((p + w : Nat) : Int) = some 45 := by rw [rd_drop, List.getElem?_drop, ← Nat.add_zero (p + w), ← List.getElem?_drop, wd]; rfl
        have e1 : IntKind.i64.wrap ((p : Int) + (w : Int)) = ((p + w : Nat) : Int) := by rw [w64 (by omega) (by omega)]; omega
        have e2 : IntKind.i64.wrap (((p + w : Nat) : Int) + 1) = ((p + w + 1 : Nat) : Int) := by rw [w64 (by omega) (by omega)]; omega
        have hd : x.drop (p + w + 1) = r := by have := congrArg (List.drop 1) wd; simpa [List.drop_drop, Nat.add_assoc] using this
        have h2 := f40_eq (x := x) (p := p + w + 1) k (by omega)
        have hn2 : num (x.drop (p + w + 1)) = none := by
          rw [hd]
          cases q : num r with
          | none => rfl
          | some z => simp [q] at h
        obtain ⟨v2, hv2⟩ := numIs_none h2 hn2
        rw [hv]
        simp only [Option.bind_some]
        rw [if_neg (by omega), e1, if_pos (by omega), hr]
        simp only [Option.bind_some]
        rw [if_pos (by rfl), e2, hv2]; rfl
      · exfalso
        split at h
        · rename_i e; cases e
        · rename_i e; cases e; exact hc rfl
        · cases h
theorem f13_yes {x : List UInt8} {k n p : Nat} {l0 l1 : List Int} {y : T47} {r : List UInt8} (hp : p ≤ x.length) (hx : x.length < 900) (hl0 : l0.length < 1000) (hl1 : l1.length < 1000) (h : headp (x.drop p) = some (y, r)) : ∃ w : Nat, x.drop w = r ∧ w ≤ x.length ∧ f13_l1 (k + 4) x (n + 1) l0 l1 (p : Int) = after (k + 4) x n (l0 ++ [y.c0]) (l1 ++ [y.c1]) w := by
  have h1 := f40_eq (x := x) (p := p) k (by omega)
  rw [f13_l1]
  cases hn : num (x.drop p) with
  | none => unfold headp at h; rw [hn] at h; cases h
  | some y' =>
    obtain ⟨v, r'⟩ := y'
    obtain ⟨w, w0, wd, wl, hv⟩ := numIs_some h1 hn
    unfold headp at h
    rw [hn] at h
    have e1 : IntKind.i64.wrap ((p : Int) + (w : Int)) = ((p + w : Nat) : Int) := by rw [w64 (by omega) (by omega)]; omega
    rw [hv]
    simp only [Option.bind_some]
    rw [if_neg (by omega), e1]
    match r', wd, h with
    | [], wd, h =>
      cases h
      refine ⟨p + w, wd, wl, ?_⟩
      have : x.length ≤ p + w := List.drop_eq_nil_iff.1 wd
      rw [if_neg (by omega)]
      simp only [Option.bind_some]
      rw [apd_ok (by simp; omega)]
      simp only [Option.bind_some, if_pos (show (-1 : Int) < 0 by decide)]
      rw [apd_ok (by simp; omega)]
      rfl
    | c :: r', wd, h =>
      have hlt : p + w < x.length := by
        rcases Nat.lt_or_ge (p + w) x.length with q | q
        · exact q
        · rw [List.drop_eq_nil_of_le q] at wd; cases wd
      have hr : rd x ((p + w : Nat) : Int) = some c := by rw [rd_drop, List.getElem?_drop, ← Nat.add_zero (p + w), ← List.getElem?_drop, wd]; rfl
      rw [if_pos (by omega), hr]
      simp only [Option.bind_some]
      by_cases hc : c = 45
      · subst hc
        have e2 : IntKind.i64.wrap (((p + w : Nat) : Int) + 1) = ((p + w + 1 : Nat) : Int) := by rw [w64 (by omega) (by omega)]; omega
        have hd : x.drop (p + w + 1) = r' := by have := congrArg (List.drop 1) wd; simpa [List.drop_drop, Nat.add_assoc] using this
        have h2 := f40_eq (x := x) (p := p + w + 1) k (by omega)
        cases hn2 : num r' with
        | none => simp [hn2] at h
        | some z =>
          obtain ⟨v2, r2⟩ := z
          simp only [hn2, Option.map_some, Option.some.injEq, Prod.mk.injEq] at h
          obtain ⟨rfl, rfl⟩ := h
          obtain ⟨w2, w20, wd2, wl2, hv2⟩ := numIs_some h2 (by rw [hd]; exact hn2)
          have e3 : IntKind.i64.wrap (((p + w + 1 : Nat) : Int) + (w2 : Int)) = ((p + w + 1 + w2 : Nat) : Int) := by rw [w64 (by omega) (by omega)]; omega
          refine ⟨p + w + 1 + w2, wd2, wl2, ?_⟩
          rw [if_pos (by rfl), e2, hv2]
          simp only [Option.bind_some]
          rw [if_neg (by omega), e3]
          simp only [Option.bind_some]
          rw [apd_ok (by simp; omega)]
          simp only [Option.bind_some]
          rw [if_neg (by omega)]
          simp only [Option.bind_some]
          rw [apd_ok (by simp; omega)]
          rfl
      · have hy : y = ⟨v, -1⟩ ∧ r = c :: r' := by
          split at h
          · rename_i e; cases e
          · rename_i e; cases e; exact absurd rfl hc
          · rename_i e; cases e; cases h; exact ⟨rfl, rfl⟩
        obtain ⟨rfl, rfl⟩ := hy
        refine ⟨p + w, wd, wl, ?_⟩
        rw [if_neg (fun e => hc (by apply UInt8.toNat_inj.1; have e' : (c.toNat : Int) = 45 := e; show c.toNat = 45; omega))]
        simp only [Option.bind_some]
        rw [apd_ok (by simp; omega)]
        simp only [Option.bind_some, if_pos (show (-1 : Int) < 0 by decide)]
        rw [apd_ok (by simp; omega)]
        rfl
theorem joinC_split (p : List UInt8) (ps : List (List UInt8)) : ∃ t, joinC p ps = p ++ t ∧ tailC t ∧ ((ps = [] ∧ t = []) ∨ ∃ q qs, ps = q :: qs ∧ t = 44 :: joinC q qs) := by
  cases ps with
  | nil => exact ⟨[], by simp [joinC], .inl rfl, .inl ⟨rfl, rfl⟩⟩
  | cons q qs => exact ⟨44 :: joinC q qs, rfl, .inr ⟨_, rfl⟩, .inr ⟨q, qs, rfl, rfl⟩⟩
theorem f13_loop {x : List UInt8} (k : Nat) (hx : x.length < 900) : ∀ (ps : List (List UInt8)) (p : List UInt8) (n pos : Nat) (l0 l1 : List Int), x.drop pos = joinC p ps → pos ≤ x.length → noC p → (∀ q ∈ ps, noC q) → ps.length < n → l0.length + ps.length < 1000 → l1.length + ps.length < 1000 → f13_l1 (k + 4) x n l0 l1 (pos : Int) = match (p :: ps).mapM pieceOf with | none => some (.inl (0, 3)) | some l => some (.inr (l0 ++ l.map T47.c0, l1 ++ l.map T47.c1))
  | ps, p, 0, pos, l0, l1, h, hpos, hp, hps, hn, h0, h1 => by omega
  | ps, p, n + 1, pos, l0, l1, h, hpos, hp, hps, hn, h0, h1 => by
    obtain ⟨t, ht, tc, hcase⟩ := joinC_split p ps
    rw [ht] at h
    rcases headp_piece hp tc with ⟨y, e1, e2⟩ | ⟨e1, e2⟩
    · obtain ⟨w, wd, wl, he⟩ := f13_yes (k := k) (n := n) (l0 := l0) (l1 := l1) hpos hx (by omega) (by omega) (h ▸ e2)
      rw [he, List.mapM_cons, e1]
      unfold after
      rcases hcase with ⟨rfl, rfl⟩ | ⟨q, qs, rfl, rfl⟩
      · have : x.length ≤ w := List.drop_eq_nil_iff.1 wd
        rw [if_pos (by omega)]
        simp
      · have hlt : w < x.length := by
          rcases Nat.lt_or_ge w x.length with q | q
          · exact q
          · rw [List.drop_eq_nil_of_le q] at wd; cases wd
        have hr : rd x (w : Int) = some 44 := by rw [rd_nat, ← Nat.add_zero w, ← List.getElem?_drop, wd]; rfl
        have hd : x.drop (w + 1) = joinC q qs := by have := congrArg (List.drop 1) wd; simpa [List.drop_drop] using this
        have ew : IntKind.i64.wrap ((w : Int) + 1) = ((w + 1 : Nat) : Int) := by rw [w64 (by omega) (by omega)]; omega
        have ih := f13_loop k hx qs q n (w + 1) (l0 ++ [y.c0]) (l1 ++ [y.c1]) hd (by omega) (hps q (List.mem_cons_self ..)) (fun r hr => hps r (List.mem_cons_of_mem _ hr)) (by simp at hn; omega) (by simp at h0 ⊢; omega) (by simp at h1 ⊢; omega)
        rw [if_neg (by omega), hr]
        simp only [Option.bind_some]
        rw [if_pos (by rfl), ew, ih]
        cases (q :: qs).mapM pieceOf <;> simp
    · have hm : (p :: ps).mapM pieceOf = none := by rw [List.mapM_cons, e1]; rfl
      rw [hm]
      rcases e2 with e2 | ⟨y, c, u, e2, h44⟩
      · exact f13_no hpos hx (h ▸ e2)
      · obtain ⟨w, wd, wl, he⟩ := f13_yes (k := k) (n := n) (l0 := l0) (l1 := l1) hpos hx (by omega) (by omega) (h ▸ e2)
        have hlt : w < x.length := by
          rcases Nat.lt_or_ge w x.length with q | q
          · exact q
          · rw [List.drop_eq_nil_of_le q] at wd; cases wd
        have hr : rd x (w : Int) = some c := by rw [rd_nat, ← Nat.add_zero w, ← List.getElem?_drop, wd]; rfl
        rw [he]
        unfold after
        rw [if_neg (by omega), hr]
        simp only [Option.bind_some]
        rw [if_neg (fun e => h44 (by apply UInt8.toNat_inj.1; have e' : (c.toNat : Int) = 44 := e; show c.toNat = 44; omega))]
/-! Parts put together -/
def Raw (p : T47) : Prop := 0 ≤ p.c0 ∧ p.c0 < 100 ∧ -1 ≤ p.c1 ∧ p.c1 < 100
theorem numOf_lt {d : List UInt8} {v : Nat} (h : numOf d = some v) : v < 100 := by
  match d, h with
  | [a], h =>
    cases ha : dig a with
    | false => simp [numOf, ha] at h
    | true =>
      have : 48 ≤ a.toNat ∧ a.toNat ≤ 57 := by simpa [dig] using ha
      simp [numOf, ha] at h; omega
  | [a, b], h =>
    cases ha : dig a with
    | false => simp [numOf, ha] at h
    | true =>
      cases hb : dig b with
      | false => simp [numOf, hb] at h
      | true =>
        have : 48 ≤ a.toNat ∧ a.toNat ≤ 57 := by simpa [dig] using ha
        have : 48 ≤ b.toNat ∧ b.toNat ≤ 57 := by simpa [dig] using hb
        simp [numOf, ha, hb] at h; omega
theorem pieceOf_raw {p : List UInt8} {y : T47} (h : pieceOf p = some y) : Raw y := by
  unfold pieceOf at h
  split at h
  · rename_i a b e
    cases ha : numOf a with
    | none => simp [ha] at h
    | some m =>
      cases hb : numOf b with
      | none => simp [ha, hb] at h
      | some n =>
        simp [ha, hb] at h
        have := numOf_lt ha
        have := numOf_lt hb
        subst h
        exact ⟨by simp, by simp; omega, by simp; try omega, by simp; omega⟩
  · rename_i a b e
    cases ha : numOf a with
    | none => simp [ha] at h
    | some m =>
      simp [ha] at h
      have := numOf_lt ha
      subst h
      exact ⟨by simp, by simp; omega, by simp, by simp⟩
theorem mapM_raw : ∀ {ps : List (List UInt8)} {l : List T47}, ps.mapM pieceOf = some l → (∀ y ∈ l, Raw y) ∧ l.length = ps.length
  | [], l, h => by simp at h; subst h; exact ⟨fun _ h => (nomatch h), rfl⟩
  | p :: ps, l, h => by
    rw [List.mapM_cons] at h
    cases h1 : pieceOf p with
    | none => simp [h1] at h
    | some y =>
      cases h2 : ps.mapM pieceOf with
      | none => simp [h1, h2] at h
      | some l2 =>
        simp [h1, h2] at h
        subst h
        obtain ⟨i1, i2⟩ := mapM_raw h2
        refine ⟨fun z hz => ?_, by simp [i2]⟩
        rcases List.mem_cons.1 hz with rfl | hz
        · exact pieceOf_raw h1
        · exact i1 z hz
def foldP : List T47 → Nat → Int → Nat ⊕ (Int × Int)
  | [], M, _ => .inl M
  | p :: d, M, last => if p.c0 ≤ 63 ∧ p.c1 ≤ 63 then (if (p.c1 = -1 ∨ p.c0 < p.c1) ∧ last + 2 ≤ p.c0 then foldP d (putN M p.c0.toNat (max p.c0 p.c1).toNat true) (max p.c0 p.c1) else .inr (0, 8)) else .inr (0, 2)
theorem rd_nat' {α : Type} {x : List α} {p : Nat} : rd x (p : Int) = x[p]? := by
  unfold rd; rw [if_pos (by omega), Int.toNat_natCast]
theorem rd_cons {α : Type} {t rest : List α} {p : α} {i : Nat} (h : t.drop i = p :: rest) : i < t.length ∧ rd t (i : Int) = some p ∧ t.drop (i + 1) = rest := by
  have hlt : i < t.length := by
    rcases Nat.lt_or_ge i t.length with q | q
    · exact q
    · rw [List.drop_eq_nil_of_le q] at h; cases h
  refine ⟨hlt, ?_, ?_⟩
  · unfold rd
    rw [if_pos (by omega), Int.toNat_natCast]
    have := congrArg (·[0]?) h
    simpa using this
  · have := congrArg (List.drop 1) h
    simpa [List.drop_drop] using this
theorem f12_loop (t : List T47) (ht : t.length < 1000) : ∀ (rest : List T47) (n i M : Nat) (last : Int), t.drop i = rest → (∀ y ∈ rest, Raw y) → rest.length < n → M < 18446744073709551616 → -2 ≤ last → last ≤ 100 → f12_l1 t n (M : Int) last (i : Int) = some (match foldP rest M last with | .inl R => .inl (R : Int) | .inr e => .inr e)
  | rest, 0, i, M, last, h, hr, hn, hM, hl, hl2 => by omega
  | [], n + 1, i, M, last, h, hr, hn, hM, hl, hl2 => by
    have : t.length ≤ i := List.drop_eq_nil_iff.1 h
    rw [f12_l1, decide_eq_false (by omega)]
    rfl
  | p :: rest, n + 1, i, M, last, h, hr, hn, hM, hl, hl2 => by
    obtain ⟨hlt, hg, hd⟩ := rd_cons h
    obtain ⟨r1, r2, r3, r4⟩ := hr p (List.mem_cons_self ..)
    have ew : IntKind.i64.wrap ((i : Int) + 1) = ((i + 1 : Nat) : Int) := by rw [w64 (by omega) (by omega)]; omega
    have el : IntKind.i64.wrap (last + 2) = last + 2 := w64 (by omega) (by omega)
    rw [f12_l1, decide_eq_true (by omega)]
    simp only [Option.bind_some, if_true, hg]
    rw [f37_eq]
    simp only [Option.bind_some, foldP]
    by_cases q1 : p.c0 ≤ 63
    · rw [decide_eq_true (by omega)]
      simp only [if_true]
      by_cases q2 : p.c1 ≤ 63
      · rw [if_neg (show ¬ p.c1 > 63 by omega), if_pos (show p.c0 ≤ 63 ∧ p.c1 ≤ 63 from ⟨q1, q2⟩)]
        unfold f38
        simp only [Option.bind_some, el]
        have key : (p.c1 = -1 ∨ p.c0 < p.c1) ∧ last + 2 ≤ p.c0 → ((f39 (IntKind.i64.wrap (gmax p.c0 p.c1 + 1))).bind fun t61 => (f39 p.c0).bind fun t64 => f12_l1 t n (bits .or .u64 (M : Int) (bits .andNot .u64 t61 t64)) (gmax p.c0 p.c1) (IntKind.i64.wrap ((i : Int) + 1))) = some (match foldP rest (putN M p.c0.toNat (max p.c0 p.c1).toNat true) (max p.c0 p.c1) with | .inl R => .inl (R : Int) | .inr e => .inr e) := by
          rintro ⟨s1, s2⟩
          have hb : (max p.c0 p.c1).toNat < 64 := by omega
          have ha : p.c0.toNat < 64 := by omega
          have em : gmax p.c0 p.c1 = (((max p.c0 p.c1).toNat : Nat) : Int) := by rw [gmax_eq]; omega
          have e0 : p.c0 = ((p.c0.toNat : Nat) : Int) := by omega
          have ex : max p.c0 p.c1 = (((max p.c0 p.c1).toNat : Nat) : Int) := by omega
          generalize (max p.c0 p.c1).toNat = b at *
          generalize p.c0.toNat = a at *
          have e : IntKind.i64.wrap ((b : Int) + 1) = ((b + 1 : Nat) : Int) := by rw [w64 (by omega) (by omega)]; omega
          have h1 := pow64' (n := b + 1) (by omega)
          have h2 := pow64 (n := a) (by omega)
          have hp : 0 < 2 ^ (b + 1) := Nat.pow_pos (by decide)
          have hq : 0 < 2 ^ a := Nat.pow_pos (by decide)
          rw [ex, em, e, e0, f39_eq (by omega), f39_eq (by omega)]
          simp only [Option.bind_some]
          have r := u64_andNot_nat (2 ^ (b + 1) - 1) (2 ^ a - 1) (by omega) (by omega)
          have hl := rng_lt (a := a) hb
          rw [r, u64_or_nat M _ hM hl, ew]
          have hM' : putN M a b true < 18446744073709551616 := putN_lt hM hb
          exact f12_loop t ht rest n (i + 1) (putN M a b true) (b : Int) hd (fun z hz => hr z (List.mem_cons_of_mem _ hz)) (by simp at hn; omega) hM' (by omega) (by omega)
        by_cases q3 : p.c1 = -1
        · rw [decide_eq_true (by rw [q3])]
          simp only [if_true]
          by_cases q4 : p.c0 < last + 2
          · rw [if_pos q4, if_neg (show ¬ ((p.c1 = -1 ∨ p.c0 < p.c1) ∧ last + 2 ≤ p.c0) by omega)]; rfl
          · rw [if_neg q4, if_pos (show (p.c1 = -1 ∨ p.c0 < p.c1) ∧ last + 2 ≤ p.c0 from ⟨.inl q3, by omega⟩)]
            exact key ⟨.inl q3, by omega⟩
        · rw [decide_eq_false (fun e => q3 (by injection e))]
          simp only [Bool.false_eq_true, if_false]
          by_cases q5 : p.c1 ≤ p.c0
          · rw [if_pos q5, if_neg (show ¬ ((p.c1 = -1 ∨ p.c0 < p.c1) ∧ last + 2 ≤ p.c0) by omega)]; rfl
          · rw [if_neg q5]
            by_cases q4 : p.c0 < last + 2
            · rw [if_pos q4, if_neg (show ¬ ((p.c1 = -1 ∨ p.c0 < p.c1) ∧ last + 2 ≤ p.c0) by omega)]; rfl
            · rw [if_neg q4, if_pos (show (p.c1 = -1 ∨ p.c0 < p.c1) ∧ last + 2 ≤ p.c0 from ⟨.inr (by omega), by omega⟩)]
              exact key ⟨.inr (by omega), by omega⟩
      · rw [if_pos (show p.c1 > 63 by omega), if_neg (show ¬ (p.c0 ≤ 63 ∧ p.c1 ≤ 63) by omega)]
    · rw [decide_eq_false (by omega), if_neg (show ¬ (p.c0 ≤ 63 ∧ p.c1 ≤ 63) by omega)]; rfl
theorem f13_fold (t : List T47) (ht : t.length < 1000) (k : Nat) (hk : 65 < k) : ∀ (rest : List T47) (n i M : Nat) (last : Int), t.drop i = rest → (∀ y ∈ rest, Raw y) → rest.length < n → M < 18446744073709551616 → -2 ≤ last → last ≤ 100 → f13_l2 k (t.map T47.c0) (t.map T47.c1) n (M : Int) last (i : Int) = some (match foldP rest M last with | .inl R => .inr (R : Int) | .inr e => .inl e)
  | rest, 0, i, M, last, h, hr, hn, hM, hl, hl2 => by omega
  | [], n + 1, i, M, last, h, hr, hn, hM, hl, hl2 => by
    have : t.length ≤ i := List.drop_eq_nil_iff.1 h
    rw [f13_l2, if_neg (by simp; omega)]
    rfl
  | p :: rest, n + 1, i, M, last, h, hr, hn, hM, hl, hl2 => by
    obtain ⟨hlt, hg, hd⟩ := rd_cons h
    obtain ⟨r1, r2, r3, r4⟩ := hr p (List.mem_cons_self ..)
    have ew : IntKind.i64.wrap ((i : Int) + 1) = ((i + 1 : Nat) : Int) := by rw [w64 (by omega) (by omega)]; omega
    have el : IntKind.i64.wrap (last + 2) = last + 2 := w64 (by omega) (by omega)
    have hti : t[i]? = some p := by rw [← rd_nat']; exact hg
    have g0 : rd (t.map T47.c0) (i : Int) = some p.c0 := by rw [rd_nat', List.getElem?_map, hti]; rfl
    have g1 : rd (t.map T47.c1) (i : Int) = some p.c1 := by rw [rd_nat', List.getElem?_map, hti]; rfl
    rw [f13_l2, if_pos (by simp; omega)]
    simp only [Option.bind_some, g0, g1, foldP]
    by_cases q1 : p.c0 ≤ 63
    · rw [if_neg (by omega)]
      by_cases q2 : p.c1 ≤ 63
      · rw [if_neg (show ¬ p.c1 > 63 by omega), if_pos (show p.c0 ≤ 63 ∧ p.c1 ≤ 63 from ⟨q1, q2⟩), el]
        have key : (p.c1 = -1 ∨ p.c0 < p.c1) ∧ last + 2 ≤ p.c0 → ((f17 k (M : Int) p.c0 (gmax p.c0 p.c1) true).bind fun (t113_0, t113_1) => f13_l2 k (t.map T47.c0) (t.map T47.c1) n t113_0 (gmax p.c0 p.c1) (IntKind.i64.wrap ((i : Int) + 1))) = some (match foldP rest (putN M p.c0.toNat (max p.c0 p.c1).toNat true) (max p.c0 p.c1) with | .inl R => .inr (R : Int) | .inr e => .inl e) := by
          rintro ⟨s1, s2⟩
          have hb : (max p.c0 p.c1).toNat < 64 := by omega
          have ha : p.c0.toNat < 64 := by omega
          have em : gmax p.c0 p.c1 = (((max p.c0 p.c1).toNat : Nat) : Int) := by rw [gmax_eq]; omega
          have hab : p.c0.toNat ≤ (max p.c0 p.c1).toNat := by omega
          have e0 : p.c0 = ((p.c0.toNat : Nat) : Int) := by omega
          have ex : max p.c0 p.c1 = (((max p.c0 p.c1).toNat : Nat) : Int) := by omega
          generalize (max p.c0 p.c1).toNat = b at *
          generalize p.c0.toNat = a at *
          rw [ex, em, e0, f17_eq hk hM, f16_eq hM hab hb]
          simp only [Option.bind_some]
          rw [ew]
          have hM' : putN M a b true < 18446744073709551616 := putN_lt hM hb
          exact f13_fold t ht k hk rest n (i + 1) (putN M a b true) (b : Int) hd (fun z hz => hr z (List.mem_cons_of_mem _ hz)) (by simp at hn; omega) hM' (by omega) (by omega)
        by_cases q3 : p.c1 = -1
        · rw [if_neg (by omega)]
          by_cases q4 : p.c0 < last + 2
          · rw [if_pos q4, if_neg (show ¬ ((p.c1 = -1 ∨ p.c0 < p.c1) ∧ last + 2 ≤ p.c0) by omega)]; rfl
          · rw [if_neg q4, if_pos (show (p.c1 = -1 ∨ p.c0 < p.c1) ∧ last + 2 ≤ p.c0 from ⟨.inl q3, by omega⟩)]
            exact key ⟨.inl q3, by omega⟩
        · rw [if_pos (by omega)]
          by_cases q5 : p.c1 ≤ p.c0
          · rw [if_pos q5, if_neg (show ¬ ((p.c1 = -1 ∨ p.c0 < p.c1) ∧ last + 2 ≤ p.c0) by omega)]; rfl
          · rw [if_neg q5]
            by_cases q4 : p.c0 < last + 2
            · rw [if_pos q4, if_neg (show ¬ ((p.c1 = -1 ∨ p.c0 < p.c1) ∧ last + 2 ≤ p.c0) by omega)]; rfl
            · rw [if_neg q4, if_pos (show (p.c1 = -1 ∨ p.c0 < p.c1) ∧ last + 2 ≤ p.c0 from ⟨.inr (by omega), by omega⟩)]
              exact key ⟨.inr (by omega), by omega⟩
      · rw [if_pos (by omega), if_neg (by omega)]
    · rw [if_pos (by omega), if_neg (by omega)]
/-! Both readers -/
theorem f12_at {s : List UInt8} {p : List UInt8} {ps : List (List UInt8)} (h0 : s ≠ [110, 111, 110, 101]) (hs : s = joinC p ps) (hp : noC p) (hps : ∀ q ∈ ps, noC q) (hlen : s.length < 900) (hc : ps.length ≤ s.length) (hpl : ∀ q ∈ p :: ps, q.length < 1000) : f12 1000 s = match (p :: ps).mapM pieceOf with | none => some (0, 3) | some l => (match foldP l 0 (-2) with | .inl R => some ((R : Int), 0) | .inr e => some e) := by
  unfold f12
  rw [if_neg h0]
  have h48 := f48_eq hp hps (by rw [← hs]; omega)
  unfold f36
  rw [hs, h48]
  have h36 := f36_loop (p :: ps) 997 (p :: ps) 1000 0 [] rfl hpl (by simp; omega) (by simp; omega) (by simp; omega)
  simp only [Option.bind_some]
  rw [show f36_l1 1000 (p :: ps) 1000 [] 0 = _ from h36]
  cases hm : (p :: ps).mapM pieceOf with
  | none => rfl
  | some l =>
    obtain ⟨hr, hl⟩ := mapM_raw hm
    simp only [Option.bind_some, List.nil_append, if_true]
    have hloop := f12_loop l (by rw [hl]; simp; omega) l 1000 0 0 (-2) rfl hr (by rw [hl]; simp; omega) (by decide) (by decide) (by decide)
    rw [show f12_l1 l 1000 0 (-2) 0 = _ from hloop]
    cases foldP l 0 (-2) <;> rfl
theorem f13_at {s : List UInt8} {p : List UInt8} {ps : List (List UInt8)} (h0 : s ≠ [110, 111, 110, 101]) (hs : s = joinC p ps) (hp : noC p) (hps : ∀ q ∈ ps, noC q) (hlen : s.length < 900) (hc : ps.length ≤ s.length) : f13 1000 s = match (p :: ps).mapM pieceOf with | none => some (0, 3) | some l => (match foldP l 0 (-2) with | .inl R => some ((R : Int), 0) | .inr e => some e) := by
  unfold f13
  rw [if_neg h0]
  have hloop := f13_loop (x := s) 996 hlen ps p 1000 0 [] [] (by rw [List.drop_zero]; exact hs) (by omega) hp hps (by omega) (by simp; omega) (by simp; omega)
  rw [show f13_l1 1000 s 1000 [] [] 0 = _ from hloop]
  cases hm : (p :: ps).mapM pieceOf with
  | none => rfl
  | some l =>
    obtain ⟨hr, hl⟩ := mapM_raw hm
    simp only [Option.bind_some, List.nil_append]
    have hf := f13_fold l (by rw [hl]; simp; omega) 1000 (by decide) l 1000 0 0 (-2) rfl hr (by rw [hl]; simp; omega) (by decide) (by decide) (by decide)
    rw [show f13_l2 1000 (l.map T47.c0) (l.map T47.c1) 1000 0 (-2) 0 = _ from hf]
    cases foldP l 0 (-2) <;> rfl
theorem joinC_len : ∀ (ps : List (List UInt8)) (p : List UInt8) (q : List UInt8), q ∈ p :: ps → q.length ≤ (joinC p ps).length
  | [], p, q, h => by simp at h; subst h; exact Nat.le_refl _
  | r :: ps, p, q, h => by
    rw [joinC, List.length_append, List.length_cons]
    rcases List.mem_cons.1 h with rfl | h
    · omega
    · have := joinC_len ps r q h; omega
theorem f12_13 {s : List UInt8} (h : s.length < 900) : ∃ r, f12 1000 s = some r ∧ f13 1000 s = some r := by
  by_cases h0 : s = [110, 111, 110, 101]
  · subst h0; exact ⟨(0, 0), rfl, rfl⟩
  · obtain ⟨p, ps, hs, hp, hps, hc⟩ := ex_joinC s
    have hpl : ∀ q ∈ p :: ps, q.length < 1000 := fun q hq => by have := joinC_len ps p q hq; rw [← hs] at this; omega
    rw [f12_at h0 hs hp hps h hc hpl, f13_at h0 hs hp hps h hc]
    cases (p :: ps).mapM pieceOf with
    | none => exact ⟨_, rfl, rfl⟩
    | some l =>
      cases hf : foldP l 0 (-2) with
      | inl R => exact ⟨((R : Int), 0), by simp [hf], by simp [hf]⟩
      | inr e => exact ⟨e, by simp [hf], by simp [hf]⟩
end Go.Proofs.YtcephcgnfmcdhaaDoor

set_option linter.unusedVariables false
set_option linter.unusedSimpArgs false
namespace Go.Proofs.YtcephcgnfmcdhaaDoor
open Go Go.Det Go.RowKit
/-! Runs of floors -/
def inU (rs : List (Nat × Nat)) (i : Nat) : Bool := rs.any fun r => decide (r.1 ≤ i ∧ i ≤ r.2)
def Good : List (Nat × Nat) → Nat → Prop
  | [], _ => True
  | r :: rs, lo => lo ≤ r.1 ∧ r.1 ≤ r.2 ∧ r.2 < 64 ∧ Good rs (r.2 + 2)
theorem Good.mono : ∀ {rs : List (Nat × Nat)} {lo lo' : Nat}, Good rs lo → lo' ≤ lo → Good rs lo'
  | [], _, _, _, _ => trivial
  | r :: rs, _, _, h, q => ⟨Nat.le_trans q h.1, h.2⟩
theorem Good.low : ∀ {rs : List (Nat × Nat)} {lo i : Nat}, Good rs lo → i < lo → inU rs i = false
  | [], _, _, _, _ => rfl
  | r :: rs, lo, i, h, q => by
    obtain ⟨h1, h2, h3, h4⟩ := h
    have := h4.low (i := i) (by omega)
    unfold inU at *
    rw [List.any_cons, this, decide_eq_false (by omega)]; rfl
theorem Good.len : ∀ {rs : List (Nat × Nat)} {lo : Nat}, Good rs lo → 2 * rs.length + lo ≤ 65 ∨ rs = []
  | [], _, _ => .inr rfl
  | r :: rs, lo, h => by
    obtain ⟨h1, h2, h3, h4⟩ := h
    left
    rcases h4.len with q | q
    · simp; omega
    · subst q; simp; omega
theorem Good.len' {rs : List (Nat × Nat)} {lo : Nat} (h : Good rs lo) : rs.length ≤ 32 := by
  rcases h.len with q | q
  · omega
  · subst q; simp
theorem inU_cons (r : Nat × Nat) (rs : List (Nat × Nat)) (i : Nat) : inU (r :: rs) i = (decide (r.1 ≤ i ∧ i ≤ r.2) || inU rs i) := by simp [inU]
theorem ex_good (M : Nat) : ∀ (d i : Nat), i + d = 64 → ∃ rs, Good rs i ∧ ∀ j, i ≤ j → j < 64 → M.testBit j = inU rs j
  | 0, i, h => ⟨[], trivial, fun j h1 h2 => by omega⟩
  | d + 1, i, h => by
    obtain ⟨rs, g, hb⟩ := ex_good M d (i + 1) (by omega)
    cases hi : M.testBit i with
    | false =>
      refine ⟨rs, g.mono (by omega), fun j h1 h2 => ?_⟩
      by_cases q : j = i
      · subst q; rw [hi, g.low (by omega)]
      · exact hb j (by omega) h2
    | true =>
      match rs, g, hb with
      | [], g, hb =>
        refine ⟨[(i, i)], ⟨Nat.le_refl _, Nat.le_refl _, by omega, trivial⟩, fun j h1 h2 => ?_⟩
        rw [inU_cons]
        by_cases q : j = i
        · subst q; rw [hi]; simp
        · rw [hb j (by omega) h2, decide_eq_false (by simp; omega)]; rfl
      | r :: rs, g, hb =>
        obtain ⟨g1, g2, g3, g4⟩ := g
        by_cases q : r.1 = i + 1
        · refine ⟨(i, r.2) :: rs, ⟨Nat.le_refl _, by simp; omega, g3, g4⟩, fun j h1 h2 => ?_⟩
          rw [inU_cons]
          by_cases q2 : j = i
          · subst q2; rw [hi, decide_eq_true (by simp; omega)]; rfl
          · rw [hb j (by omega) h2, inU_cons]
            congr 1
            rw [decide_eq_decide]; simp; omega
        · refine ⟨(i, i) :: r :: rs, ⟨Nat.le_refl _, Nat.le_refl _, by simp; omega, by simp; omega, g2, g3, g4⟩, fun j h1 h2 => ?_⟩
          rw [inU_cons]
          by_cases q2 : j = i
          · subst q2; rw [hi]; simp
          · rw [hb j (by omega) h2, decide_eq_false (by simp; omega)]; rfl
def toT (r : Nat × Nat) : T47 := ⟨r.1, if r.1 < r.2 then r.2 else -1⟩
def txt (r : Nat × Nat) : List UInt8 := if r.1 < r.2 then Lib.itoa r.1 ++ ([45] ++ Lib.itoa r.2) else Lib.itoa r.1
/-! Numerals below 64 -/
def itOk (n : Nat) : Bool := (numOf (Lib.itoa n) == some n) && (Lib.itoa n).all dig && decide ((Lib.itoa n).length ≤ 2) && decide (1 ≤ (Lib.itoa n).length) && (f44 1000 (n : Int) == some (Lib.itoa n)) && (f42 (n : Int) == some (Lib.itoa n))
theorem itAll : (List.range 64).all itOk = true := by kernel_rfl
theorem it {n : Nat} (h : n < 64) : numOf (Lib.itoa n) = some n ∧ (∀ x ∈ Lib.itoa n, dig x = true) ∧ (Lib.itoa n).length ≤ 2 ∧ 1 ≤ (Lib.itoa n).length ∧ f44 1000 (n : Int) = some (Lib.itoa n) ∧ f42 (n : Int) = some (Lib.itoa n) := by
  have := List.all_eq_true.1 itAll n (by simp; exact h)
  unfold itOk at this
  simp only [Bool.and_eq_true, beq_iff_eq, decide_eq_true_eq, List.all_eq_true] at this
  obtain ⟨⟨⟨⟨⟨h1, h2⟩, h3⟩, h4⟩, h5⟩, h6⟩ := this
  exact ⟨h1, h2, h3, h4, h5, h6⟩
theorem numOf_inv {d : List UInt8} {v : Nat} (h : numOf d = some v) : d = Lib.itoa v := by
  have e0 : ∀ v : Nat, Lib.itoa (v : Int) = Lib.decDigits v := fun v => by unfold Lib.itoa; rw [if_neg (by omega)]; rfl
  rw [e0]
  match d, h with
  | [a], h =>
    cases ha : dig a with
    | false => simp [numOf, ha] at h
    | true =>
      have ha' : 48 ≤ a.toNat ∧ a.toNat ≤ 57 := by simpa [dig] using ha
      simp [numOf, ha] at h
      rw [Lib.decDigits, dif_pos (by omega)]
      congr 1
      apply UInt8.toNat_inj.1
      simp; omega
  | [a, b], h =>
    cases ha : dig a with
    | false => simp [numOf, ha] at h
    | true =>
      cases hb : dig b with
      | false => simp [numOf, hb] at h
      | true =>
        have ha' : 48 ≤ a.toNat ∧ a.toNat ≤ 57 := by simpa [dig] using ha
        have hb' : 48 ≤ b.toNat ∧ b.toNat ≤ 57 := by simpa [dig] using hb
        simp [numOf, ha, hb] at h
        obtain ⟨h0, h⟩ := h
        have h0' : a.toNat ≠ 48 := fun e => h0 e
        rw [Lib.decDigits, dif_neg (by omega), Lib.decDigits, dif_pos (by omega)]
        have e1 : UInt8.ofNat (48 + v / 10) = a := by apply UInt8.toNat_inj.1; simp; omega
        have e2 : UInt8.ofNat (48 + v % 10) = b := by apply UInt8.toNat_inj.1; simp; omega
        rw [e1, e2]; rfl
theorem split45 : ∀ (p : List UInt8), (∀ x ∈ p, x ≠ 45) ∨ ∃ r1 r2, p = r1 ++ 45 :: r2 ∧ ∀ x ∈ r1, x ≠ 45
  | [] => .inl fun _ h => (nomatch h)
  | a :: p => by
    by_cases ha : a = 45
    · subst ha; exact .inr ⟨[], p, rfl, fun _ h => (nomatch h)⟩
    · rcases split45 p with h | ⟨r1, r2, h1, h2⟩
      · left
        intro x hx
        rcases List.mem_cons.1 hx with rfl | hx
        · exact ha
        · exact h x hx
      · refine .inr ⟨a :: r1, r2, by rw [h1]; rfl, fun x hx => ?_⟩
        rcases List.mem_cons.1 hx with rfl | hx
        · exact ha
        · exact h2 x hx
theorem pieceOf_inv {p : List UInt8} {r : Nat × Nat} (h : pieceOf p = some (toT r)) : p = txt r := by
  unfold pieceOf at h
  rcases split45 p with q | ⟨r1, r2, rfl, q⟩
  · rw [cut_miss 45 p q] at h
    cases ha : numOf p with
    | none => simp [ha] at h
    | some m =>
      simp [ha, toT] at h
      obtain ⟨h1, h2⟩ := h
      have : ¬ r.1 < r.2 := fun k => by omega
      unfold txt
      rw [if_neg this, numOf_inv ha, h1]
  · rw [cut_hit 45 r1 r2 q] at h
    cases ha : numOf r1 with
    | none => simp [ha] at h
    | some m =>
      cases hb : numOf r2 with
      | none => simp [ha, hb] at h
      | some n =>
        simp [ha, hb, toT] at h
        obtain ⟨h1, h2⟩ := h
        have : r.1 < r.2 := Classical.byContradiction fun k => by rw [if_neg k] at h2; omega
        rw [if_pos this] at h2
        unfold txt
        have e1 : m = r.1 := by omega
        have e2 : n = r.2 := by omega
        rw [if_pos this, numOf_inv ha, numOf_inv hb, e1, e2]; rfl
theorem pieceOf_txt {r : Nat × Nat} (h1 : r.1 ≤ r.2) (h2 : r.2 < 64) : pieceOf (txt r) = some (toT r) := by
  obtain ⟨a1, a2, -, -, -, -⟩ := it (n := r.1) (by omega)
  obtain ⟨b1, b2, -, -, -, -⟩ := it (n := r.2) h2
  have ne : ∀ x ∈ Lib.itoa (r.1 : Int), x ≠ 45 := fun x hx => dig_ne dig45 (a2 x hx)
  unfold pieceOf txt toT
  by_cases q : r.1 < r.2
  · rw [if_pos q, if_pos q, show Lib.itoa (r.1 : Int) ++ ([45] ++ Lib.itoa (r.2 : Int)) = Lib.itoa (r.1 : Int) ++ 45 :: Lib.itoa (r.2 : Int) from rfl, cut_hit 45 _ _ ne]
    simp [a1, b1]
  · rw [if_neg q, if_neg q, cut_miss 45 _ ne]
    simp [a1]
theorem noC_txt {r : Nat × Nat} (h1 : r.1 ≤ r.2) (h2 : r.2 < 64) : noC (txt r) := by
  obtain ⟨a1, a2, -, -, -, -⟩ := it (n := r.1) (by omega)
  obtain ⟨b1, b2, -, -, -, -⟩ := it (n := r.2) h2
  intro x hx
  unfold txt at hx
  split at hx
  · rcases List.mem_append.1 hx with w | w
    · exact dig_ne dig44 (a2 x w)
    · rcases List.mem_append.1 w with w | w
      · simp at w; subst w; decide
      · exact dig_ne dig44 (b2 x w)
  · exact dig_ne dig44 (a2 x hx)
theorem txt_len {r : Nat × Nat} (h1 : r.1 ≤ r.2) (h2 : r.2 < 64) : (txt r).length ≤ 5 ∧ 1 ≤ (txt r).length ∧ ∃ c u, txt r = c :: u ∧ dig c = true := by
  obtain ⟨a1, a2, a3, a4, -, -⟩ := it (n := r.1) (by omega)
  obtain ⟨b1, b2, b3, b4, -, -⟩ := it (n := r.2) h2
  unfold txt
  match hc : Lib.itoa (r.1 : Int), a4 with
  | c :: u, a4 =>
    have hd := a2 c (by rw [hc]; simp)
    rw [hc] at a3
    simp at a3
    split
    · exact ⟨by simp; omega, by simp, c, _, rfl, hd⟩
    · exact ⟨by simp; omega, by simp, c, _, rfl, hd⟩
theorem mapM_txt : ∀ {rs : List (Nat × Nat)} {lo : Nat}, Good rs lo → (rs.map txt).mapM pieceOf = some (rs.map toT)
  | [], _, _ => rfl
  | r :: rs, lo, h => by
    obtain ⟨h1, h2, h3, h4⟩ := h
    rw [List.map_cons, List.mapM_cons, pieceOf_txt h2 h3, mapM_txt h4]; rfl
theorem mapM_inv : ∀ {ps : List (List UInt8)} {rs : List (Nat × Nat)}, ps.mapM pieceOf = some (rs.map toT) → ps = rs.map txt
  | [], [], _ => rfl
  | [], r :: rs, h => by simp at h
  | p :: ps, [], h => by have := (mapM_raw h).2; simp at this
  | p :: ps, r :: rs, h => by
    rw [List.mapM_cons] at h
    cases h1 : pieceOf p with
    | none => simp [h1] at h
    | some y =>
      cases h2 : ps.mapM pieceOf with
      | none => simp [h1, h2] at h
      | some l2 =>
        simp [h1, h2] at h
        obtain ⟨rfl, rfl⟩ := h
        rw [List.map_cons, pieceOf_inv h1, ← mapM_inv h2]
/-! The fold over parts -/
theorem fold_good : ∀ (rs : List (Nat × Nat)) (lo M : Nat) (last : Int), Good rs lo → last + 2 ≤ lo → M < 18446744073709551616 → ∃ R : Nat, foldP (rs.map toT) M last = .inl R ∧ R < 18446744073709551616 ∧ ∀ i, i < 64 → R.testBit i = (M.testBit i || inU rs i)
  | [], lo, M, last, _, _, hM => ⟨M, rfl, hM, fun i hi => by simp [inU]⟩
  | r :: rs, lo, M, last, h, hl, hM => by
    obtain ⟨h1, h2, h3, h4⟩ := h
    have e0 : (toT r).c0 = (r.1 : Int) := rfl
    have e1 : (toT r).c1 = if r.1 < r.2 then (r.2 : Int) else -1 := rfl
    have em : max (toT r).c0 (toT r).c1 = (r.2 : Int) := by rw [e0, e1]; split <;> omega
    have hp : putN M r.1 r.2 true < 18446744073709551616 := putN_lt hM h3
    obtain ⟨R, i1, i2, i3⟩ := fold_good rs (r.2 + 2) (putN M r.1 r.2 true) (r.2 : Int) h4 (by omega) hp
    refine ⟨R, ?_, i2, fun i hi => ?_⟩
    · rw [List.map_cons, foldP, em, if_pos (by rw [e0, e1]; split <;> omega), if_pos (by rw [e0, e1]; split <;> omega), e0]
      exact i1
    · rw [i3 i hi, putN_bit (by omega) h3 hi, inU_cons]
      by_cases q : r.1 ≤ i ∧ i ≤ r.2
      · rw [if_pos q, decide_eq_true q]; simp
      · rw [if_neg q, decide_eq_false q]; simp
theorem fold_inv : ∀ (l : List T47) (M R : Nat) (last : Int), (∀ y ∈ l, Raw y) → -2 ≤ last → foldP l M last = .inl R → ∃ rs, l = rs.map toT ∧ Good rs (last + 2).toNat
  | [], M, R, last, _, _, _ => ⟨[], rfl, trivial⟩
  | p :: l, M, R, last, hr, hl, h => by
    obtain ⟨r1, r2, r3, r4⟩ := hr p (List.mem_cons_self ..)
    rw [foldP] at h
    split at h
    · rename_i q1
      split at h
      · rename_i q2
        obtain ⟨rs, i1, i2⟩ := fold_inv l _ R _ (fun y hy => hr y (List.mem_cons_of_mem _ hy)) (by omega) h
        refine ⟨(p.c0.toNat, (max p.c0 p.c1).toNat) :: rs, ?_, ?_, ?_, ?_, ?_⟩
        · rw [List.map_cons, ← i1]
          congr 1
          unfold toT
          obtain ⟨c0, c1⟩ := p
          simp only at *
          congr 1
          · omega
          · split <;> omega
        · simp; omega
        · simp; omega
        · simp; omega
        · exact i2.mono (by simp; omega)
      · cases h
    · cases h
/-! The text of a set -/
theorem ctz_is {x c : Nat} (hx : x < 18446744073709551616) (hc : x.testBit c = true) (h : ∀ j, j < c → x.testBit j = false) : Lib.ctz 64 x = c := by
  have h0 : x ≠ 0 := fun e => by subst e; simp at hc
  obtain ⟨h1, h2, h3⟩ := ctz_spec h0 hx
  rcases Nat.lt_trichotomy (Lib.ctz 64 x) c with q | q | q
  · rw [h _ q] at h2; cases h2
  · exact q
  · rw [h3 _ q] at hc; cases hc
theorem f41_nat {x : Nat} (hx : x < 18446744073709551616) : f41 (x : Int) = some ((Lib.ctz 64 x : Nat) : Int) := by
  unfold f41; rw [if_pos ⟨by omega, by omega⟩, Int.toNat_natCast]
theorem f42_nat {n : Nat} (h : n < 64) : f42 (n : Int) = some (Lib.itoa n) := (it h).2.2.2.2.2
theorem run_ctz {x a b : Nat} (hx : x < 18446744073709551616) (hab : a ≤ b) (hb : b < 64) (h1 : ∀ i, a ≤ i → i ≤ b → x.testBit i = true) (h2 : b + 1 < 64 → x.testBit (b + 1) = false) : Lib.ctz 64 (18446744073709551615 ^^^ (x / 2 ^ a)) = b - a + 1 := by
  have hlt : x / 2 ^ a < 18446744073709551616 := Nat.lt_of_le_of_lt (Nat.div_le_self _ _) hx
  have hX : 18446744073709551615 ^^^ (x / 2 ^ a) < 18446744073709551616 := Nat.xor_lt_two_pow (n := 64) (by decide) hlt
  have bit : ∀ j, j < 64 → (18446744073709551615 ^^^ (x / 2 ^ a)).testBit j = !x.testBit (a + j) := fun j hj => by
    rw [Nat.testBit_xor, Nat.testBit_div_two_pow, show (18446744073709551615 : Nat) = 2 ^ 64 - 1 from rfl, Nat.testBit_two_pow_sub_one]
    simp [hj, Nat.add_comm]
  by_cases q : b - a + 1 = 64
  · have : 18446744073709551615 ^^^ (x / 2 ^ a) = 0 := ext64 hX (by decide) fun i hi => by
      rw [bit i hi, h1 (a + i) (by omega) (by omega)]; simp
    rw [this, q]; rfl
  · apply ctz_is hX
    · rw [bit _ (by omega)]
      have : a + (b - a + 1) = b + 1 := by omega
      rw [this]
      by_cases q2 : b + 1 < 64
      · rw [h2 q2]; rfl
      · rw [testBit_big hx (by omega)]; rfl
    · intro j hj
      rw [bit j (by omega), h1 (a + j) (by omega) (by omega)]; rfl
theorem f14_loop : ∀ (rs : List (Nat × Nat)) (lo x n : Nat) (l0 : List (List UInt8)), Good rs lo → x < 18446744073709551616 → (∀ i, i < 64 → x.testBit i = inU rs i) → rs.length < n → l0.length + rs.length ≤ 1000 → f14_l1 n l0 (x : Int) = some (l0 ++ rs.map txt)
  | rs, lo, x, 0, l0, g, hx, hb, hn, hl => by omega
  | [], lo, x, n + 1, l0, g, hx, hb, hn, hl => by
    have : x = 0 := ext64 hx (by decide) fun i hi => by rw [hb i hi]; simp [inU]
    subst this
    rw [f14_l1, if_pos (by rfl)]; simp
  | r :: rs, lo, x, n + 1, l0, g, hx, hb, hn, hl => by
    obtain ⟨g1, g2, g3, g4⟩ := g
    have hin : ∀ i, r.1 ≤ i → i ≤ r.2 → x.testBit i = true := fun i h1 h2 => by rw [hb i (by omega), inU_cons, decide_eq_true ⟨h1, h2⟩]; rfl
    have hlo : ∀ i, i < r.1 → x.testBit i = false := fun i h1 => by rw [hb i (by omega), inU_cons, decide_eq_false (by omega), g4.low (by omega)]; rfl
    have hnx : r.2 + 1 < 64 → x.testBit (r.2 + 1) = false := fun h => by rw [hb _ h, inU_cons, decide_eq_false (by omega), g4.low (by omega)]; rfl
    have h0 : x ≠ 0 := fun e => by have := hin r.1 (Nat.le_refl _) g2; rw [e] at this; simp at this
    have hc := ctz_is hx (hin r.1 (Nat.le_refl _) g2) hlo
    have hr := run_ctz hx g2 g3 hin hnx
    have hlt : x / 2 ^ r.1 < 18446744073709551616 := Nat.lt_of_le_of_lt (Nat.div_le_self _ _) hx
    have hX : 18446744073709551615 ^^^ (x / 2 ^ r.1) < 18446744073709551616 := Nat.xor_lt_two_pow (n := 64) (by decide) hlt
    have e1 : IntKind.u64.wrap (r.1 : Int) = (r.1 : Int) := wu64 (by omega)
    have e2 : bits .xor .u64 18446744073709551615 ((x / 2 ^ r.1 : Nat) : Int) = ((18446744073709551615 ^^^ (x / 2 ^ r.1) : Nat) : Int) := by
      have := u64_xor_nat 18446744073709551615 (x / 2 ^ r.1) (by omega) hlt
      simpa using this
    have e3 : IntKind.i64.wrap ((r.1 : Int) + ((r.2 - r.1 + 1 : Nat) : Int)) = ((r.2 + 1 : Nat) : Int) := by rw [w64 (by omega) (by omega)]; omega
    have e4 : IntKind.i64.wrap (((r.2 + 1 : Nat) : Int) - 1) = ((r.2 : Nat) : Int) := by rw [w64 (by omega) (by omega)]; omega
    have hp := pow64' (n := r.2 + 1) (by omega)
    have hpp : 0 < 2 ^ (r.2 + 1) := Nat.pow_pos (by decide)
    have e5 := u64_andNot_nat x (2 ^ (r.2 + 1) - 1) hx (by omega)
    have hx' : x &&& (18446744073709551615 - (2 ^ (r.2 + 1) - 1)) < 18446744073709551616 := Nat.lt_of_le_of_lt Nat.and_le_left hx
    have ih := f14_loop rs (r.2 + 2) (x &&& (18446744073709551615 - (2 ^ (r.2 + 1) - 1))) n (l0 ++ [txt r]) g4 hx' (fun i hi => by
      rw [Nat.testBit_and, testBit_not (by omega) hi, Nat.testBit_two_pow_sub_one, hb i hi, inU_cons]
      by_cases q : i < r.2 + 1
      · rw [decide_eq_true q, g4.low (by omega)]; simp
      · rw [decide_eq_false q, decide_eq_false (by omega)]; simp) (by simp at hn; omega) (by simp at hl ⊢; omega)
    obtain ⟨-, -, a3, a4, -, -⟩ := it (n := r.1) (by omega)
    obtain ⟨-, -, b3, b4, -, -⟩ := it (n := r.2) g3
    clear hb hin hlo hnx hlt hx' hp hpp
    rw [f14_l1, if_neg (by omega), f41_nat hx, hc, Option.bind_some, e1, shr x r.1 (by omega), e2, f41_nat hX, hr]
    simp only [Option.bind_some]
    rw [f42_nat (by omega), e3, f39_eq (by omega), e4, f42_nat g3]
    simp only [Option.bind_some]
    have key : (if ((r.2 - r.1 + 1 : Nat) : Int) > 1 then (scat [45] (Lib.itoa (r.2 : Int))).bind fun s29 => (scat (Lib.itoa (r.1 : Int)) s29).bind fun s30 => some s30 else some (Lib.itoa (r.1 : Int))) = some (txt r) := by
      unfold txt
      by_cases q : r.1 < r.2
      · rw [if_pos (by omega), if_pos q]
        unfold scat
        rw [if_pos (by simp; omega)]
        simp only [Option.bind_some]
        rw [if_pos (by simp; omega)]; rfl
      · rw [if_neg (by omega), if_neg q]
    rw [key]
    simp only [Option.bind_some]
    rw [apd_ok (by simp at hl ⊢; omega)]
    simp only [Option.bind_some]
    rw [e5, ih]
    simp
def ofRuns (rs : List (Nat × Nat)) : List UInt8 :=
  match rs with
  | [] => [110, 111, 110, 101]
  | r :: rs => joinC (txt r) (rs.map txt)
theorem joinC_len_le : ∀ (rs : List (Nat × Nat)) (lo : Nat) (p : List UInt8), Good rs lo → (joinC p (rs.map txt)).length ≤ p.length + 6 * rs.length
  | [], _, p, _ => by simp [joinC]
  | r :: rs, lo, p, h => by
    obtain ⟨h1, h2, h3, h4⟩ := h
    have := joinC_len_le rs (r.2 + 2) (txt r) h4
    have := (txt_len h2 h3).1
    rw [List.map_cons, joinC, List.length_append, List.length_cons, List.length_cons]; omega
theorem f14_eq {M : Nat} {rs : List (Nat × Nat)} (hM : M < 18446744073709551616) (g : Good rs 0) (hb : ∀ i, i < 64 → M.testBit i = inU rs i) : f14 1000 (M : Int) = some (ofRuns rs) := by
  unfold f14
  match rs, g, hb with
  | [], g, hb =>
    have : M = 0 := ext64 hM (by decide) fun i hi => by rw [hb i hi]; simp [inU]
    subst this; rfl
  | r :: rs, g, hb =>
    have g' := g
    obtain ⟨g1, g2, g3, g4⟩ := g
    have h0 : M ≠ 0 := fun e => by
      have := hb r.1 (by omega)
      rw [inU_cons, decide_eq_true ⟨Nat.le_refl _, g2⟩, e] at this; simp at this
    have hl := g'.len'
    rw [if_neg (by omega), f14_loop (r :: rs) 0 M 1000 [] g' hM hb (by omega) (by simp at hl ⊢; omega)]
    simp only [Option.bind_some, List.nil_append, List.map_cons]
    have hj := joinC_eq (txt r) (rs.map txt)
    have hjl := joinC_len_le rs (r.2 + 2) (txt r) g4
    have := (txt_len g2 g3).1
    simp at hl
    unfold f43
    rw [if_pos ⟨by simp; omega, by rw [hj]; omega⟩, hj]
    rfl
end Go.Proofs.YtcephcgnfmcdhaaDoor

set_option linter.unusedVariables false
set_option linter.unusedSimpArgs false
namespace Go.Proofs.YtcephcgnfmcdhaaDoor
open Go Go.Det Go.RowKit
/-! The reference's text -/
theorem hasI_at {M i : Nat} (hM : M < 18446744073709551616) : hasI M (i : Int) = M.testBit i := by
  by_cases h : i < 64
  · exact hasI_nat h
  · have := testBit_big hM (show 64 ≤ i by omega)
    unfold hasI; rw [this]; simp [this]
theorem f15_in {M b : Nat} (hM : M < 18446744073709551616) (hb : b < 64) (hnx : M.testBit (b + 1) = false) : ∀ (d n i : Nat), i + d = b → d < n → (∀ j, i ≤ j → j ≤ b → M.testBit j = true) → f15_l2 (M : Int) n (i : Int) = some (b : Int)
  | d, 0, i, hi, hd, hj => by omega
  | 0, n + 1, i, hi, hd, hj => by
    have : i = b := by omega
    subst this
    have e : IntKind.i64.wrap ((i : Int) + 1) = ((i + 1 : Nat) : Int) := by rw [w64 (by omega) (by omega)]; omega
    rw [f15_l2, e, f31_eq hM, hasI_at hM, hnx]
    rfl
  | d + 1, n + 1, i, hi, hd, hj => by
    have e : IntKind.i64.wrap ((i : Int) + 1) = ((i + 1 : Nat) : Int) := by rw [w64 (by omega) (by omega)]; omega
    have ih := f15_in hM hb hnx d n (i + 1) (by omega) (by omega) fun j h1 h2 => hj j (by omega) h2
    rw [f15_l2, e, f31_eq hM, hasI_at hM, hj (i + 1) (by omega) (by omega)]
    exact ih
def tf : List UInt8 → List (Nat × Nat) → List UInt8
  | x, [] => x
  | x, r :: rs => tf ((if x = [] then x else x ++ [44]) ++ txt r) rs
theorem joinC_app (u v : List UInt8) (ps : List (List UInt8)) : joinC (u ++ v) ps = u ++ joinC v ps := by
  cases ps <;> simp [joinC]
theorem tf_ne : ∀ (rs : List (Nat × Nat)) (lo : Nat) (x : List UInt8), Good rs lo → x ≠ [] → tf x rs = joinC x (rs.map txt)
  | [], _, x, _, _ => rfl
  | r :: rs, lo, x, h, hx => by
    obtain ⟨h1, h2, h3, h4⟩ := h
    rw [tf, if_neg hx, tf_ne rs _ _ h4 (by simp), joinC_app, List.map_cons, joinC]
    simp
theorem tf_nil {r : Nat × Nat} {rs : List (Nat × Nat)} {lo : Nat} (h : Good (r :: rs) lo) : tf [] (r :: rs) = joinC (txt r) (rs.map txt) := by
  obtain ⟨h1, h2, h3, h4⟩ := h
  have hne : txt r ≠ [] := fun e => by have := (txt_len h2 h3).2.1; rw [e] at this; simp at this
  rw [tf, if_pos rfl, List.nil_append, tf_ne rs _ _ h4 hne]
theorem f44_nat {n : Nat} (h : n < 64) : f44 1000 (n : Int) = some (Lib.itoa n) := (it h).2.2.2.2.1
theorem scat_ok {a b : List UInt8} (h : a.length + b.length ≤ 100000) : scat a b = some (a ++ b) := by
  unfold scat; rw [if_pos (by omega)]
theorem f15_print {M : Nat} {r : Nat × Nat} (x3 : List UInt8) (n : Nat) (h1 : r.1 ≤ r.2) (h2 : r.2 < 64) (hl : x3.length < 50000) : ((if x3 = ([] : List UInt8) then
              some (x3)
            else
              (scat x3 ([44])).bind fun s30 =>
              some (s30)).bind fun x3_22 =>
              (f44 1000 (r.1 : Int)).bind fun t33 =>
              (scat x3_22 t33).bind fun s34 =>
              (if (r.2 : Int) > (r.1 : Int) then
                (scat s34 ([45])).bind fun s39 =>
                (f44 1000 (r.2 : Int)).bind fun t41 =>
                (scat s39 t41).bind fun s42 =>
                some (s42)
              else
                some (s34)).bind fun x3_23 =>
                f15_l1 1000 (M : Int) n x3_23 (IntKind.i64.wrap ((r.1 : Int) + 1))) = f15_l1 1000 (M : Int) n ((if x3 = [] then x3 else x3 ++ [44]) ++ txt r) (IntKind.i64.wrap ((r.1 : Int) + 1)) := by
  obtain ⟨-, -, a3, a4, -, -⟩ := it (n := r.1) (by omega)
  obtain ⟨-, -, b3, b4, -, -⟩ := it (n := r.2) h2
  have e : (if x3 = ([] : List UInt8) then some (x3) else (scat x3 ([44])).bind fun s30 => some (s30)) = some (if x3 = [] then x3 else x3 ++ [44]) := by
    by_cases q : x3 = []
    · rw [if_pos q, if_pos q]
    · rw [if_neg q, if_neg q, scat_ok (by simp; omega)]; rfl
  have hy : (if x3 = [] then x3 else x3 ++ [44]).length < 60000 := by
    split
    · omega
    · rw [List.length_append]; simp; omega
  rw [e, Option.bind_some]
  generalize (if x3 = [] then x3 else x3 ++ [44]) = y at hy ⊢
  rw [f44_nat (by omega), Option.bind_some, scat_ok (by omega), Option.bind_some]
  unfold txt
  by_cases q : r.1 < r.2
  · rw [if_pos (show (r.2 : Int) > (r.1 : Int) by omega), if_pos q, scat_ok (by simp; omega), Option.bind_some, f44_nat h2, Option.bind_some, scat_ok (by simp; omega), Option.bind_some, Option.bind_some]
    simp
  · rw [if_neg (show ¬ (r.2 : Int) > (r.1 : Int) by omega), if_neg q, Option.bind_some]
theorem f15_loop {M : Nat} (hM : M < 18446744073709551616) : ∀ (d n i : Nat), i + d = 65 → d < n → 
    (∀ (rs : List (Nat × Nat)) (x3 : List UInt8), (0 < i → M.testBit (i - 1) = false) → Good rs i → (∀ j, i ≤ j → j < 64 → M.testBit j = inU rs j) → x3.length + 10 * rs.length < 40000 → f15_l1 1000 (M : Int) n x3 (i : Int) = some (tf x3 rs)) ∧
    (∀ (rs : List (Nat × Nat)) (x3 : List UInt8) (b : Nat), 0 < i → M.testBit (i - 1) = true → i ≤ b + 1 → b < 64 → (∀ j, i ≤ j → j ≤ b → M.testBit j = true) → (b + 1 < 64 → M.testBit (b + 1) = false) → Good rs (b + 2) → (∀ j, b + 1 ≤ j → j < 64 → M.testBit j = inU rs j) → x3.length + 10 * rs.length < 40000 → f15_l1 1000 (M : Int) n x3 (i : Int) = some (tf x3 rs))
  | d, 0, i, hi, hd => by omega
  | 0, n + 1, i, hi, hd => by
    have h64 : ¬ ((i : Int) < 64) := by omega
    refine ⟨fun rs x3 hp g hb hl => ?_, fun rs x3 b h0 hp hib hb64 hin hnx g hb hl => ?_⟩
    · have : rs = [] := by
        match rs, g with
        | [], _ => rfl
        | r :: rs, g => obtain ⟨g1, g2, g3, g4⟩ := g; omega
      subst this
      rw [f15_l1, if_neg h64]; rfl
    · omega
  | d + 1, n + 1, i, hi, hd => by
    obtain ⟨ihA, ihB⟩ := f15_loop hM d n (i + 1) (by omega) (by omega)
    have e : IntKind.i64.wrap ((i : Int) + 1) = ((i + 1 : Nat) : Int) := by rw [w64 (by omega) (by omega)]; omega
    have back : f31 (M : Int) (IntKind.i64.wrap ((i : Int) - 1)) = some (decide (0 < i) && M.testBit (i - 1)) := by
      rw [w64 (by omega) (by omega), f31_eq hM]
      by_cases q : 0 < i
      · rw [show (i : Int) - 1 = ((i - 1 : Nat) : Int) from by omega, hasI_at hM, decide_eq_true q]; rfl
      · have : i = 0 := by omega
        subst this; rfl
    refine ⟨fun rs x3 hp g hb hl => ?_, fun rs x3 b h0 hp hib hb64 hin hnx g hb hl => ?_⟩
    · by_cases h64 : i < 64
      · cases hbit : M.testBit i with
        | false =>
          rw [f15_l1, if_pos (by omega), f31_eq hM, hasI_at hM, hbit, Option.bind_some, if_neg (by decide), e]
          refine ihA rs x3 (fun _ => hbit) ?_ (fun j h1 h2 => hb j (by omega) h2) hl
          match rs, g, hb with
          | [], _, _ => trivial
          | r :: rs, g, hb =>
            obtain ⟨g1, g2, g3, g4⟩ := g
            refine ⟨?_, g2, g3, g4⟩
            rcases Nat.lt_or_ge i r.1 with q | q
            · exact q
            · have := hb i (Nat.le_refl _) h64
              rw [inU_cons, decide_eq_true (by omega), hbit] at this; cases this
        | true =>
          match rs, g, hb, hl with
          | [], g, hb, hl => have := hb i (Nat.le_refl _) h64; rw [hbit] at this; cases this
          | r :: rs, g, hb, hl =>
            obtain ⟨g1, g2, g3, g4⟩ := g
            have er : r.1 = i := by
              rcases Nat.lt_or_ge i r.1 with q | q
              · have := hb i (Nat.le_refl _) h64
                rw [inU_cons, decide_eq_false (by omega), g4.low (by omega), hbit] at this; cases this
              · omega
            have hin : ∀ j, i ≤ j → j ≤ r.2 → M.testBit j = true := fun j h1 h2 => by rw [hb j h1 (by omega), inU_cons, decide_eq_true (by omega)]; rfl
            have hnx : M.testBit (r.2 + 1) = false := by
              by_cases q : r.2 + 1 < 64
              · rw [hb _ (by omega) q, inU_cons, decide_eq_false (by omega), g4.low (by omega)]; rfl
              · exact testBit_big hM (by omega)
            have hpb : (decide (0 < i) && M.testBit (i - 1)) = false := by
              by_cases q : 0 < i
              · rw [hp q]; simp
              · rw [decide_eq_false q]; rfl
            rw [f15_l1, if_pos (by omega), f31_eq hM, hasI_at hM, hbit, Option.bind_some, if_pos rfl, back, hpb, Option.bind_some, if_neg (by decide), f15_in hM g3 hnx (r.2 - i) 1000 i (by omega) (by omega) hin, Option.bind_some]
            have hpr := f15_print (M := M) (r := r) x3 n g2 g3 (by simp at hl; omega)
            rw [er] at hpr
            rw [hpr, e, tf]
            have htl := (txt_len g2 g3).1
            refine ihB rs _ r.2 (by omega) hbit (by omega) g3 (fun j h1 h2 => hin j (by omega) h2) (fun _ => hnx) g4 (fun j h1 h2 => ?_) ?_
            · rw [hb j (by omega) h2, inU_cons, decide_eq_false (by omega)]; rfl
            · simp at hl
              rw [List.length_append]
              split
              · omega
              · simp; omega
      · have : rs = [] := by
          match rs, g with
          | [], _ => rfl
          | r :: rs, g => obtain ⟨g1, g2, g3, g4⟩ := g; omega
        subst this
        rw [f15_l1, if_neg (by omega)]; rfl
    · by_cases h64 : i < 64
      · by_cases q : i = b + 1
        · have hbit : M.testBit i = false := by rw [q]; exact hnx (by omega)
          rw [f15_l1, if_pos (by omega), f31_eq hM, hasI_at hM, hbit, Option.bind_some, if_neg (by decide), e]
          refine ihA rs x3 (fun _ => hbit) (by rw [q]; exact g) (fun j h1 h2 => hb j (by omega) h2) hl
        · have hbit : M.testBit i = true := hin i (Nat.le_refl _) (by omega)
          rw [f15_l1, if_pos (by omega), f31_eq hM, hasI_at hM, hbit, Option.bind_some, if_pos rfl, back, hp, decide_eq_true h0, Option.bind_some, if_pos (by rfl), e]
          exact ihB rs x3 b (by omega) hbit (by omega) hb64 (fun j h1 h2 => hin j (by omega) h2) hnx g hb hl
      · have : rs = [] := by
          match rs, g with
          | [], _ => rfl
          | r :: rs, g => obtain ⟨g1, g2, g3, g4⟩ := g; omega
        subst this
        rw [f15_l1, if_neg (by omega)]; rfl
theorem f15_eq {M : Nat} {rs : List (Nat × Nat)} (hM : M < 18446744073709551616) (g : Good rs 0) (hb : ∀ i, i < 64 → M.testBit i = inU rs i) : f15 1000 (M : Int) = some (ofRuns rs) := by
  have h := (f15_loop hM 65 1000 0 (by omega) (by omega)).1 rs [] (fun h => absurd h (Nat.lt_irrefl 0)) g (fun j _ h2 => hb j h2) (by have := g.len'; simp; omega)
  unfold f15
  rw [show f15_l1 1000 (M : Int) 1000 [] 0 = _ from h, Option.bind_some]
  match rs, g with
  | [], _ => rfl
  | r :: rs, g =>
    rw [tf_nil g]
    have hne : joinC (txt r) (rs.map txt) ≠ [] := fun e => by
      have h1 := joinC_len (rs.map txt) (txt r) (txt r) (List.mem_cons_self ..)
      have h2 := (txt_len g.2.1 g.2.2.1).2.1
      rw [e] at h1
      have h3 : (txt r).length ≤ 0 := h1
      omega
    rw [if_neg hne]; rfl
theorem f3_eq {M : Nat} (hM : M < 18446744073709551616) (s : List UInt8) : f3 1000 (M : Int) s = some true := by
  unfold f3
  by_cases h : (s.length : Int) > 400
  · rw [if_pos h, awake]; rfl
  · rw [if_neg h]
    obtain ⟨⟨a, b⟩, h1, h2⟩ := f12_13 (s := s) (by omega)
    obtain ⟨rs, g, hb⟩ := ex_good M 64 0 rfl
    have hb' : ∀ i, i < 64 → M.testBit i = inU rs i := fun i hi => hb i (by omega) hi
    rw [h1, h2, f14_eq hM g hb', f15_eq hM g hb']
    simp only [Option.bind_some, if_true, awake]
theorem pure3 : Pure3 := fun x0 x1 h0 _ => by
  obtain ⟨M, rfl, hM⟩ := okU h0
  exact ⟨1000, f3_eq hM x1⟩
/-! There and back -/
theorem noC_all {rs : List (Nat × Nat)} {lo : Nat} (g : Good rs lo) : ∀ q ∈ rs.map txt, noC q := by
  induction rs generalizing lo with
  | nil => exact fun _ h => (nomatch h)
  | cons r rs ih =>
    intro q hq
    rw [List.map_cons] at hq
    rcases List.mem_cons.1 hq with rfl | hq
    · exact noC_txt g.2.1 g.2.2.1
    · exact ih g.2.2.2 q hq
theorem ofRuns_back {M : Nat} {rs : List (Nat × Nat)} (hM : M < 18446744073709551616) (g : Good rs 0) (hb : ∀ i, i < 64 → M.testBit i = inU rs i) : f12 1000 (ofRuns rs) = some ((M : Int), 0) := by
  match rs, g, hb with
  | [], g, hb =>
    have : M = 0 := ext64 hM (by decide) fun i hi => by rw [hb i hi]; simp [inU]
    subst this; rfl
  | r :: rs, g, hb =>
    have hlen := joinC_len_le rs (r.2 + 2) (txt r) g.2.2.2
    have ht := txt_len g.2.1 g.2.2.1
    have hr := g.len'
    simp at hr
    have h0 : joinC (txt r) (rs.map txt) ≠ [110, 111, 110, 101] := fun e => by
      obtain ⟨-, -, c, u, e1, e2⟩ := ht
      rw [e1] at e
      have : c = 110 := by
        cases hm : rs.map txt with
        | nil => rw [hm, joinC] at e; exact (List.cons.inj e).1
        | cons q qs => rw [hm, joinC, List.cons_append] at e; exact (List.cons.inj e).1
      subst this
      exact absurd e2 (by decide)
    have hcn : (rs.map txt).length ≤ (joinC (txt r) (rs.map txt)).length := by
      clear hlen h0 hb
      have : ∀ (ps : List (List UInt8)) (p : List UInt8), ps.length ≤ (joinC p ps).length := by
        intro ps
        induction ps with
        | nil => intro p; simp
        | cons q qs ih => intro p; have := ih q; rw [joinC, List.length_append, List.length_cons, List.length_cons]; omega
      exact this _ _
    have h12 := f12_at h0 rfl (noC_txt g.2.1 g.2.2.1) (noC_all g.2.2.2) (by omega) hcn (fun q hq => by have := joinC_len _ _ q hq; omega)
    have hm : (txt r :: rs.map txt).mapM pieceOf = some ((r :: rs).map toT) := mapM_txt g
    obtain ⟨R, f1, f2, f3⟩ := fold_good (r :: rs) 0 0 (-2) g (by decide) (by decide)
    have : R = M := ext64 f2 hM fun i hi => by rw [f3 i hi, hb i hi]; simp
    subst this
    show f12 1000 (joinC (txt r) (rs.map txt)) = _
    rw [h12, hm]
    simp only [f1]
theorem f8_eq {M : Nat} (hM : M < 18446744073709551616) (s : List UInt8) : f8 1000 (M : Int) s = some true := by
  unfold f8
  obtain ⟨rs, g, hb⟩ := ex_good M 64 0 rfl
  have hb' : ∀ i, i < 64 → M.testBit i = inU rs i := fun i hi => hb i (by omega) hi
  rw [known5, Option.bind_some, f14_eq hM g hb', Option.bind_some, ofRuns_back hM g hb', Option.bind_some]
  simp only [if_true]
  by_cases h : (s.length : Int) > 200
  · rw [if_pos h]
  · rw [if_neg h]
    by_cases h0 : s = [110, 111, 110, 101]
    · subst h0
      rw [show f12 1000 [110, 111, 110, 101] = some (0, 0) from rfl, Option.bind_some]
      rfl
    · obtain ⟨p, ps, hs, hp, hps, hc⟩ := ex_joinC s
      have hpl : ∀ q ∈ p :: ps, q.length < 1000 := fun q hq => by have := joinC_len ps p q hq; rw [← hs] at this; omega
      rw [f12_at h0 hs hp hps (by omega) hc hpl]
      cases hm : (p :: ps).mapM pieceOf with
      | none => rfl
      | some l =>
        cases hf : foldP l 0 (-2) with
        | inr e =>
          obtain ⟨e1, e2⟩ := e
          simp only [hf, Option.bind_some]
          by_cases q : e2 = 0
          · exfalso
            subst q
            have : ∀ (l : List T47) (M : Nat) (last : Int), foldP l M last ≠ .inr (e1, 0) := by
              intro l
              induction l with
              | nil => intro M last h; cases h
              | cons y l ih =>
                intro M last h
                rw [foldP] at h
                split at h
                · split at h
                  · exact ih _ _ h
                  · injection h with h; injection h with _ h; cases h
                · injection h with h; injection h with _ h; cases h
            exact this _ _ _ hf
          · rw [if_neg q]
        | inl R =>
          simp only [hf, Option.bind_some]
          obtain ⟨hr, hl⟩ := mapM_raw hm
          obtain ⟨qs, q1, q2⟩ := fold_inv l 0 R (-2) hr (by decide) hf
          subst q1
          obtain ⟨R', f1, f2, f3⟩ := fold_good qs 0 0 (-2) q2 (by decide) (by decide)
          rw [hf] at f1
          cases f1
          rw [f14_eq f2 q2 (fun i hi => by rw [f3 i hi]; simp), Option.bind_some]
          have hq := mapM_inv hm
          match qs, hq with
          | r :: qs, hq =>
            rw [List.map_cons] at hq
            obtain ⟨rfl, rfl⟩ := List.cons.inj hq
            rw [hs]
            simp [ofRuns]
theorem pure8 : Pure8 := fun x0 x1 h0 _ => by
  obtain ⟨M, rfl, hM⟩ := okU h0
  exact ⟨1000, f8_eq hM x1⟩
end Go.Proofs.YtcephcgnfmcdhaaDoor
