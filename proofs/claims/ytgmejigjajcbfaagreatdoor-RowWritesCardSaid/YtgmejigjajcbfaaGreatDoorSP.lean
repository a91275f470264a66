import Derived.Test.YtgmejigjajcbfaaGreatDoorSF
import Derived.Lib.MapLaws
import Derived.Laws.RangeString
import Derived.Lib.ItoaLen
import Derived.Test.YtgmejigjajcbfaaGreatDoorD52
import Derived.Test.YtgmejigjajcbfaaGreatDoorRows
import Derived.Shelf.Vars
import Derived.Lay
import Derived.Stop.Joined
import Derived.Stop.LaidErr
set_option linter.unusedVariables false
set_option linter.unusedSimpArgs false
namespace Go.Proofs.YtgmejigjajcbfaaGreatDoor
open Go Go.Det Go.RowKit
theorem w64 {x : Int} (h1 : -9223372036854775808 ≤ x) (h2 : x ≤ 9223372036854775807) : IntKind.i64.wrap x = x := by rw [IntKind.wrap_i64]; omega
/-! The runes of a text -/
theorem decL_eq (s : List UInt8) (p : Nat) : decL s p = ((Lib.decodeL (s.drop p)).1 : Int) := by
  have := Lib.decodeL_drop (bs s) p
  unfold decL; rw [← this]
theorem decN_eq (s : List UInt8) (p : Nat) : decN s p = (Lib.decodeL (s.drop p)).2 := by
  have := Lib.decodeL_drop (bs s) p
  unfold decN; rw [← this]
theorem go_eq {l : List UInt8} (h : l ≠ []) : Lib.decodeGo (bs l) = Lib.decodeL l := by
  unfold Lib.decodeGo
  rw [if_neg (by intro q; exact h (List.length_eq_zero_iff.1 q))]
  exact (Lib.decodeL_drop (bs l) 0).symm
theorem enA (r : Nat) (v : Utf8.valid (r : Int) = true) (c1 : r < 128) : (Utf8.encode (r : Int)).data.toList = List.map (fun x => x.toNat.toUInt8) [(r : Int)] := by simp [Utf8.encode, v, c1]
theorem enB (r : Nat) (v : Utf8.valid (r : Int) = true) (c1 : ¬ r < 128) (c2 : r < 2048) : (Utf8.encode (r : Int)).data.toList = List.map (fun x => x.toNat.toUInt8) [192 + (r : Int) / 64, 128 + (r : Int) % 64] := by
  have e1 : (192 + (r : Int) / 64).toNat = 192 + r / 64 := by omega
  have e2 : (128 + (r : Int) % 64).toNat = 128 + r % 64 := by omega
  simp [Utf8.encode, v, c1, c2, e1, e2]
theorem enC (r : Nat) (v : Utf8.valid (r : Int) = true) (c1 : ¬ r < 128) (c2 : ¬ r < 2048) (c3 : r < 65536) : (Utf8.encode (r : Int)).data.toList = List.map (fun x => x.toNat.toUInt8) [224 + (r : Int) / 4096, 128 + (r : Int) / 64 % 64, 128 + (r : Int) % 64] := by
  have e1 : (224 + (r : Int) / 4096).toNat = 224 + r / 4096 := by omega
  have e2 : (128 + (r : Int) / 64 % 64).toNat = 128 + r / 64 % 64 := by omega
  have e3 : (128 + (r : Int) % 64).toNat = 128 + r % 64 := by omega
  simp [Utf8.encode, v, c1, c2, c3, e1, e2, e3]
theorem enD (r : Nat) (v : Utf8.valid (r : Int) = true) (c1 : ¬ r < 128) (c2 : ¬ r < 2048) (c3 : ¬ r < 65536) : (Utf8.encode (r : Int)).data.toList = List.map (fun x => x.toNat.toUInt8) [240 + (r : Int) / 262144, 128 + (r : Int) / 4096 % 64, 128 + (r : Int) / 64 % 64, 128 + (r : Int) % 64] := by
  have e0 : (240 + (r : Int) / 262144).toNat = 240 + r / 262144 := by omega
  have e1 : (128 + (r : Int) / 4096 % 64).toNat = 128 + r / 4096 % 64 := by omega
  have e2 : (128 + (r : Int) / 64 % 64).toNat = 128 + r / 64 % 64 := by omega
  have e3 : (128 + (r : Int) % 64).toNat = 128 + r % 64 := by omega
  simp [Utf8.encode, v, c1, c2, c3, e0, e1, e2, e3]
theorem encR_of {n : Int} {l : List UInt8} (h : (Utf8.encode n).data.toList = l) : encR n = l := h
theorem rune_of {n : Int} {z : List Int} (h : Lib.encodeRuneZ n = z) : Lib.encodeRune n = List.map (fun x => x.toNat.toUInt8) z := by subst h; rfl
theorem encR_enc (r : Nat) (h : r < 55296 ∨ 57344 ≤ r ∧ r ≤ 1114111) : encR (r : Int) = Lib.encodeRune (r : Int) := by
  have v : Utf8.valid (r : Int) = true := by simp [Utf8.valid]; omega
  have key : ∀ l, Lib.encodeRuneZ (r : Int) = l → (Utf8.encode (r : Int)).data.toList = List.map (fun x => x.toNat.toUInt8) l → encR (r : Int) = Lib.encodeRune (r : Int) := fun l e1 e2 => (encR_of e2).trans (rune_of e1).symm
  by_cases c1 : r < 128
  · exact key _ (Lib.encodeRuneZ_one (by omega) (by omega)) (enA r v c1)
  · by_cases c2 : r < 2048
    · exact key _ (Lib.encodeRuneZ_two (by omega) (by omega)) (enB r v c1 c2)
    · by_cases c3 : r < 65536
      · exact key _ (Lib.encodeRuneZ_three (by omega)) (enC r v c1 c2 c3)
      · exact key _ (Lib.encodeRuneZ_four (by omega) (by omega)) (enD r v c1 c2 c3)
/-- How a text that is not empty begins. -/
inductive Sh (b : UInt8) (t : List UInt8) : Prop where
  | a (h : b.toNat < 128) (e : Lib.decodeL (b :: t) = (b.toNat, 1))
  | b (r n : Nat) (h : 194 ≤ b.toNat) (e : Lib.decodeL (b :: t) = (r, n)) (h1 : 2 ≤ n) (h2 : n ≤ 4) (h3 : n ≤ (b :: t).length) (h4 : 128 ≤ r) (h5 : r ≤ 1114111) (h6 : r < 160 → n = 2 ∧ ∃ c u, t = c :: u ∧ 128 ≤ c.toNat ∧ c.toNat < 160) (h7 : encR (r : Int) = (b :: t).take n) (h8 : Lib.runeLen (r : Int) = n)
  | c (h : 128 ≤ b.toNat) (e : Lib.decodeL (b :: t) = (65533, 1)) (h1 : (b :: t).take 3 ≠ [239, 191, 189])
theorem shape (b : UInt8) (t : List UInt8) : Sh b t := by
  have k0 := b.toNat_lt
  have hb0 : ((b :: t).getD 0 0).toNat = b.toNat := rfl
  have hlen : (b :: t).length = t.length + 1 := rfl
  have k1 := ((b :: t).getD 1 0).toNat_lt
  have k2 := ((b :: t).getD 2 0).toNat_lt
  have k3 := ((b :: t).getD 3 0).toNat_lt
  have hN := Lib.decodeL_N (b :: t)
  have hle := Lib.decodeL_le (b :: t) (by simp)
  have hsh := Lib.decodeN_shape (b :: t).length ((b :: t).getD 0 0).toNat ((b :: t).getD 1 0).toNat ((b :: t).getD 2 0).toNat ((b :: t).getD 3 0).toNat
  rw [hb0] at hN hsh
  have enc : ∀ r n, Lib.decodeL (b :: t) = (r, n) → ¬ (r = 65533 ∧ n = 1) → (r < 55296 ∨ 57344 ≤ r ∧ r ≤ 1114111) → encR (r : Int) = (b :: t).take n := by
    intro r n e hv hr
    rw [encR_enc r hr]
    have := Lib.encode_decode (b :: t) (by simp) (by rw [e]; exact hv)
    rw [e] at this; exact this
  have rl : ∀ r n : Nat, Lib.decodeL (b :: t) = (r, n) → r ≠ 65533 → Lib.runeLen (r : Int) = n := by
    intro r n e hr
    have := Lib.runeLen_decode (b :: t) (by rw [e]; exact hr)
    rw [e] at this; exact this
  rcases hsh with ⟨c, e⟩ | ⟨c1, c2, c3, cv, e⟩ | ⟨c1, c2, c3, c4, cv, cs, e⟩ | ⟨c1, c2, c3, c4, c5, cv, cw, e⟩ | e
  · exact .a c (by rw [hN, e])
  · have e' := hN.trans e
    refine .b _ 2 (by omega) e' (by omega) (by omega) (by omega) (by omega) (by omega) (fun q => ⟨rfl, ?_⟩) (enc _ _ e' (by omega) (by omega)) (rl _ _ e' (by omega))
    cases t with
    | nil => simp at c2
    | cons c u =>
      have : ((b :: c :: u).getD 1 0).toNat = c.toNat := rfl
      rw [this] at c3 cv q
      exact ⟨c, u, rfl, by omega, by omega⟩
  · have e' := hN.trans e
    refine .b _ 3 (by omega) e' (by omega) (by omega) (by omega) (by omega) (by omega) (fun q => by omega) (enc _ _ e' (by omega) (by omega)) ?_
    unfold Lib.runeLen
    repeat' split
    all_goals omega
  · have e' := hN.trans e
    refine .b _ 4 (by omega) e' (by omega) (by omega) (by omega) (by omega) (by omega) (fun q => by omega) (enc _ _ e' (by omega) (by omega)) (rl _ _ e' (by omega))
  · have e' := hN.trans e
    by_cases h : b.toNat < 128
    · have := Lib.decodeN_ascii (b :: t).length b.toNat ((b :: t).getD 1 0).toNat ((b :: t).getD 2 0).toNat ((b :: t).getD 3 0).toNat h
      exact .a h (by rw [hN, this])
    · refine .c (by omega) e' fun q => ?_
      rcases t with _ | ⟨c, _ | ⟨d, u⟩⟩
      · simp at q
      · simp at q
      · simp only [List.take_succ_cons, List.take_zero, List.cons.injEq, and_true] at q
        obtain ⟨rfl, rfl, rfl⟩ := q
        have h1 : Lib.decodeL (239 :: 191 :: 189 :: u) = (65533, 3) := by
          rw [Lib.decodeL_N]
          show Lib.decodeN (u.length + 3) 239 191 189 _ = _
          unfold Lib.decodeN
          simp
        rw [e'] at h1; cases h1
/-- The length of the rune from 160 on with which a text begins. -/
def longS : List UInt8 → Nat
  | [] => 0
  | b :: t => if 160 ≤ (Lib.decodeL (b :: t)).1 ∧ 2 ≤ (Lib.decodeL (b :: t)).2 then (Lib.decodeL (b :: t)).2 else 0
theorem sub_to {l : List UInt8} {n : Nat} (h : n ≤ l.length) : sub l 0 (n : Int) = some (l.take n) := by
  unfold sub
  rw [if_pos ⟨by omega, by omega, by omega⟩]
  simp
theorem f40_eq (k : Nat) (l : List UInt8) : f40 (k + 1) l = some (longS l : Int) := by
  unfold f40
  rw [f40_l1]
  cases l with
  | nil => rfl
  | cons b t =>
    rw [if_pos (by simp)]
    simp only [decL_eq, List.drop_zero, Option.bind_some]
    cases shape b t with
    | a h e =>
      rw [e]
      rw [if_neg (by simp only; omega)]
      simp only [longS, e, Option.bind_some]
      rw [if_neg (by omega)]; rfl
    | b r n h e h1 h2 h3 h4 h5 h6 h7 h8 =>
      rw [e]
      simp only [longS, e]
      by_cases q : 160 ≤ r
      · rw [if_pos (by omega), h7, List.length_take, Nat.min_eq_left h3, if_pos (by omega), sub_to h3]
        simp only [Option.bind_some, if_true]
        rw [if_pos ⟨q, h1⟩]
      · rw [if_neg (by omega), if_neg (by omega)]; rfl
    | c h e h1 =>
      rw [e]
      simp only [longS, e]
      rw [if_pos (show ((65533 : Nat) : Int) ≥ 160 by omega), if_neg (show ¬ (160 ≤ 65533 ∧ 2 ≤ 1) by omega)]
      have e3 : encR ((65533 : Nat) : Int) = [239, 191, 189] := rfl
      rw [e3]
      by_cases q : (([239, 191, 189] : List UInt8).length : Int) ≤ ((b :: t).length : Int)
      · rw [if_pos q]
        have hl : 3 ≤ (b :: t).length := by simp only [List.length_cons, List.length_nil] at q ⊢; omega
        rw [show ((([239, 191, 189] : List UInt8).length : Nat) : Int) = ((3 : Nat) : Int) from rfl, sub_to hl]
        simp only [Option.bind_some]
        rw [if_neg h1]; rfl
      · rw [if_neg q]; rfl
/-! Quoting -/
def hexS : List UInt8 := [48, 49, 50, 51, 52, 53, 54, 55, 56, 57, 97, 98, 99, 100, 101, 102]
def hexB (b : UInt8) : List UInt8 := [92, 120, hexS.getD (b.toNat / 16) 0, hexS.getD (b.toNat % 16) 0]
def escB (b : UInt8) : List UInt8 := if b.toNat = 34 ∨ b.toNat = 92 then [92, b] else if 32 ≤ b.toNat ∧ b.toNat ≤ 126 then [b] else hexB b
def qS : Nat → List UInt8 → List UInt8
  | 0, _ => []
  | _, [] => []
  | n + 1, b :: t => if 0 < longS (b :: t) then (b :: t).take (longS (b :: t)) ++ qS n ((b :: t).drop (longS (b :: t))) else escB b ++ qS n t
theorem all256 {P : Nat → Bool} (h : (List.range 256).all P = true) (b : UInt8) : P b.toNat = true :=
  List.all_eq_true.1 h _ (List.mem_range.2 b.toNat_lt)
theorem hx1 (b : UInt8) : sub ([48, 49, 50, 51, 52, 53, 54, 55, 56, 57, 97, 98, 99, 100, 101, 102] : List UInt8) (IntKind.u8.wrap (((b.toNat : Nat) : Int).tdiv 16)) (IntKind.u8.wrap ((IntKind.u8.wrap (((b.toNat : Nat) : Int).tdiv 16)) + 1)) = some [hexS.getD (b.toNat / 16) 0] :=
  of_decide_eq_true (all256 (P := fun x => decide (sub ([48, 49, 50, 51, 52, 53, 54, 55, 56, 57, 97, 98, 99, 100, 101, 102] : List UInt8) (IntKind.u8.wrap (((x : Nat) : Int).tdiv 16)) (IntKind.u8.wrap ((IntKind.u8.wrap (((x : Nat) : Int).tdiv 16)) + 1)) = some [hexS.getD (x / 16) 0])) (by kernel_rfl) b)
theorem hx2 (b : UInt8) : sub ([48, 49, 50, 51, 52, 53, 54, 55, 56, 57, 97, 98, 99, 100, 101, 102] : List UInt8) (((b.toNat : Nat) : Int).tmod 16) (IntKind.u8.wrap ((((b.toNat : Nat) : Int).tmod 16) + 1)) = some [hexS.getD (b.toNat % 16) 0] :=
  of_decide_eq_true (all256 (P := fun x => decide (sub ([48, 49, 50, 51, 52, 53, 54, 55, 56, 57, 97, 98, 99, 100, 101, 102] : List UInt8) (((x : Nat) : Int).tmod 16) (IntKind.u8.wrap ((((x : Nat) : Int).tmod 16) + 1)) = some [hexS.getD (x % 16) 0])) (by kernel_rfl) b)
theorem hx3 (b : UInt8) : sub ([48, 49, 50, 51, 52, 53, 54, 55, 56, 57, 97, 98, 99, 100, 101, 102] : List UInt8) (gshr .u8 ((b.toNat : Nat) : Int) 4) (IntKind.u8.wrap ((gshr .u8 ((b.toNat : Nat) : Int) 4) + 1)) = some [hexS.getD (b.toNat / 16) 0] :=
  of_decide_eq_true (all256 (P := fun x => decide (sub ([48, 49, 50, 51, 52, 53, 54, 55, 56, 57, 97, 98, 99, 100, 101, 102] : List UInt8) (gshr .u8 ((x : Nat) : Int) 4) (IntKind.u8.wrap ((gshr .u8 ((x : Nat) : Int) 4) + 1)) = some [hexS.getD (x / 16) 0])) (by kernel_rfl) b)
theorem hx4 (b : UInt8) : sub ([48, 49, 50, 51, 52, 53, 54, 55, 56, 57, 97, 98, 99, 100, 101, 102] : List UInt8) (bits .and .u8 ((b.toNat : Nat) : Int) 15) (IntKind.u8.wrap ((bits .and .u8 ((b.toNat : Nat) : Int) 15) + 1)) = some [hexS.getD (b.toNat % 16) 0] :=
  of_decide_eq_true (all256 (P := fun x => decide (sub ([48, 49, 50, 51, 52, 53, 54, 55, 56, 57, 97, 98, 99, 100, 101, 102] : List UInt8) (bits .and .u8 ((x : Nat) : Int) 15) (IntKind.u8.wrap ((bits .and .u8 ((x : Nat) : Int) 15) + 1)) = some [hexS.getD (x % 16) 0])) (by kernel_rfl) b)
theorem sub_all {s : List UInt8} {p : Nat} (h : p ≤ s.length) : sub s (p : Int) (s.length : Int) = some (s.drop p) := by
  unfold sub
  rw [if_pos ⟨by omega, by omega, by omega⟩]
  simp only [Int.toNat_natCast]
  rw [List.take_of_length_le (by rw [List.length_drop]; omega)]
theorem sub_mid {s : List UInt8} {p n : Nat} (h : p + n ≤ s.length) : sub s (p : Int) ((p + n : Nat) : Int) = some ((s.drop p).take n) := by
  unfold sub
  rw [if_pos ⟨by omega, by omega, by omega⟩]
  simp only [Int.toNat_natCast]
  rw [Nat.add_sub_cancel_left]
theorem wr64 {p n : Nat} (h : p + n < 1000000) : IntKind.i64.wrap ((p : Int) + (n : Int)) = ((p + n : Nat) : Int) := by
  rw [w64 (by omega) (by omega)]; omega
theorem sc {a b : List UInt8} (h : a.length + b.length < 1000000) : scat a b = some (a ++ b) := if_pos (by omega)
theorem ap1 {α : Type} {a b : List α} (h : a.length + b.length < 1000000) : apd 1 a b = some (a ++ b) := if_pos (by omega)
theorem f41_eq (x : Int) : f41 x = some (decide (32 ≤ x ∧ x ≤ 126 ∧ x ≠ 34 ∧ x ≠ 92)) := by
  unfold f41
  simp only [Option.bind_some, ge_iff_le]
  split
  · split
    · split
      · simp; omega
      · congr 1
        rw [Bool.eq_iff_iff]
        simp; omega
    · simp; omega
  · simp; omega
theorem longS_le (b : UInt8) (t : List UInt8) : longS (b :: t) ≤ (b :: t).length := by
  have := Lib.decodeL_le (b :: t) (by simp)
  simp only [longS]
  split <;> omega
theorem escB_len (b : UInt8) : (escB b).length ≤ 4 := by
  unfold escB hexB
  repeat' split
  all_goals simp
theorem f15_loop (s : List UInt8) (hs : s.length ≤ 1100) : ∀ (n : Nat) (acc : List UInt8) (p : Nat), p ≤ s.length → s.length < n + p → acc.length ≤ 1 + 4 * p → f15_l1 2000 s n acc (p : Int) = some (acc ++ qS n (s.drop p))
  | 0, acc, p, h1, h2, h3 => by omega
  | n + 1, acc, p, h1, h2, h3 => by
    rw [f15_l1]
    by_cases hp : p < s.length
    · rw [if_pos (by omega)]
      obtain ⟨b, hb⟩ : ∃ b, s[p]? = some b := ⟨s[p], List.getElem?_eq_getElem hp⟩
      have hd : s.drop p = b :: s.drop (p + 1) := by
        obtain ⟨hl, e⟩ := List.getElem?_eq_some_iff.1 hb
        rw [List.drop_eq_getElem_cons hl, e]
      have hlen : (b :: s.drop (p + 1)).length = s.length - p := by rw [← hd, List.length_drop]
      have hL := longS_le b (s.drop (p + 1))
      rw [sub_all h1]
      simp only [Option.bind_some]
      rw [f40_eq 1999, hd]
      simp only [Option.bind_some, qS]
      by_cases q : 0 < longS (b :: s.drop (p + 1))
      · rw [if_pos (by omega), if_pos q, wr64 (by omega), sub_mid (by omega), hd]
        simp only [Option.bind_some]
        rw [sc (by rw [List.length_take]; omega)]
        simp only [Option.bind_some]
        rw [f15_loop s hs n _ (p + longS (b :: s.drop (p + 1))) (by omega) (by omega) (by rw [List.length_append, List.length_take]; omega), ← hd, List.drop_drop, hd, List.append_assoc]
      · rw [if_neg (by omega), if_neg q]
        have hr : rd s (p : Int) = some b := by rw [rd_nat]; exact hb
        have h1' : IntKind.i64.wrap ((p : Int) + 1) = ((p + 1 : Nat) : Int) := wr64 (n := 1) (by omega)
        have hs1 : sub s (p : Int) ((p + 1 : Nat) : Int) = some [b] := by rw [sub_mid (by omega), hd]; rfl
        have hfin : ∀ e : List UInt8, e = escB b → f15_l1 2000 s n (acc ++ e) ((p + 1 : Nat) : Int) = some (acc ++ (escB b ++ qS n (s.drop (p + 1)))) := by
          rintro e rfl
          have := escB_len b
          rw [f15_loop s hs n _ (p + 1) (by omega) (by omega) (by rw [List.length_append]; omega), List.append_assoc]
        simp only [hr, Option.bind_some, h1', hs1, f41_eq, hx1, hx2]
        have hb256 := b.toNat_lt
        by_cases q1 : b.toNat = 34
        · rw [if_pos (by omega), sc (by simp; omega)]
          simp only [Option.bind_some]
          rw [sc (by simp; omega)]
          simp only [Option.bind_some, List.append_assoc]
          exact hfin _ (by unfold escB; rw [if_pos (.inl q1)]; rfl)
        · rw [if_neg (by omega)]
          by_cases q2 : b.toNat = 92
          · rw [if_pos (by omega), sc (by simp; omega)]
            simp only [Option.bind_some]
            rw [sc (by simp; omega)]
            simp only [Option.bind_some, List.append_assoc]
            exact hfin _ (by unfold escB; rw [if_pos (.inr q2)]; rfl)
          · rw [if_neg (by omega)]
            by_cases q3 : 32 ≤ b.toNat ∧ b.toNat ≤ 126
            · rw [if_pos (by rw [decide_eq_true_eq]; omega), sc (by simp; omega)]
              simp only [Option.bind_some]
              exact hfin _ (by unfold escB; rw [if_neg (by omega), if_pos q3])
            · rw [if_neg (by rw [decide_eq_true_eq]; omega), sc (by simp; omega)]
              simp only [Option.bind_some]
              rw [sc (by simp; omega)]
              simp only [Option.bind_some]
              rw [sc (by simp; omega)]
              simp only [Option.bind_some, List.append_assoc]
              exact hfin _ (by unfold escB hexB; rw [if_neg (by omega), if_neg q3]; rfl)
    · rw [if_neg (by omega)]
      rw [List.drop_eq_nil_of_le (by omega)]
      simp [qS]
theorem qS_len : ∀ (n : Nat) (l : List UInt8), (qS n l).length ≤ 4 * l.length
  | 0, l => by simp [qS]
  | n + 1, [] => by simp [qS]
  | n + 1, b :: t => by
    have hL := longS_le b t
    simp only [qS]
    split
    · have := qS_len n ((b :: t).drop (longS (b :: t)))
      rw [List.length_append, List.length_take]
      rw [List.length_drop] at this
      omega
    · have := qS_len n t
      have := escB_len b
      rw [List.length_append, List.length_cons]
      omega
theorem f15_eq {s : List UInt8} (hs : s.length ≤ 1100) : f15 2000 s = some ([34] ++ qS 2000 s ++ [34]) := by
  unfold f15
  have := f15_loop s hs 2000 [34] 0 (by omega) (by omega) (by simp)
  rw [show ((0 : Nat) : Int) = 0 from rfl] at this
  rw [this, List.drop_zero]
  simp only [Option.bind_some]
  have h := qS_len 2000 s
  rw [sc (by simp; omega)]; rfl
/-! The program's own -/
theorem f34_eq (r : Nat) : f34 (r : Int) = some (Lib.runeLen (r : Int)) := by
  unfold f34 Lib.runeLen
  repeat' split
  all_goals first | rfl | (exfalso; omega) | skip
theorem f37_eq (r n : Int) : f37 r n = some (decide (r ≠ 34 ∧ r ≠ 92 ∧ (n = 1 → 32 ≤ r ∧ r ≤ 126) ∧ (n ≠ 1 → 160 ≤ r))) := by
  unfold f37
  simp only [Option.bind_some, ge_iff_le]
  repeat' split
  all_goals first | (simp; omega) | (congr 1; rw [Bool.eq_iff_iff]; simp; omega)
theorem ne8_of {l : List UInt8} (h : l ≠ []) : ne8 l = some (l.map fun u => ((u.toNat : Nat) : Int)) := if_neg h
theorem f14_hex (l : List UInt8) (p : Nat) (hl : l.length ≤ 10) : ∀ (n : Nat) (acc : List UInt8) (i : Nat), i ≤ l.length → l.length < n + i → acc.length ≤ 5000 + 4 * i → f14_l2 (l.map fun u => ((u.toNat : Nat) : Int)) n acc (i : Int) p = some (acc ++ (l.drop i).flatMap hexB, p)
  | 0, acc, i, h1, h2, h3 => by omega
  | n + 1, acc, i, h1, h2, h3 => by
    rw [f14_l2]
    simp only [Option.bind_some, List.length_map]
    by_cases hi : i < l.length
    · rw [if_pos (by simpa using hi)]
      obtain ⟨b, hb⟩ : ∃ b, l[i]? = some b := ⟨l[i], List.getElem?_eq_getElem hi⟩
      have hd : l.drop i = b :: l.drop (i + 1) := by
        obtain ⟨hl, e⟩ := List.getElem?_eq_some_iff.1 hb
        rw [List.drop_eq_getElem_cons hl, e]
      have hr : rd (l.map fun u => ((u.toNat : Nat) : Int)) (i : Int) = some ((b.toNat : Nat) : Int) := by rw [rd_nat, List.getElem?_map, hb]; rfl
      rw [hr]
      simp only [Option.bind_some, hx3, hx4]
      rw [sc (by simp)]
      simp only [Option.bind_some]
      rw [sc (by simp)]
      simp only [Option.bind_some]
      rw [ap1 (by simp; omega)]
      simp only [Option.bind_some]
      rw [show IntKind.i64.wrap ((i : Int) + 1) = ((i + 1 : Nat) : Int) from wr64 (n := 1) (by omega)]
      rw [f14_hex l p hl n _ (i + 1) (by omega) (by omega) (by simp; omega), hd]
      simp [hexB]
    · rw [if_neg (by simpa using hi), List.drop_eq_nil_of_le (by omega)]
      simp
theorem qS_fuel : ∀ (n m : Nat) (l : List UInt8), l.length ≤ n → l.length ≤ m → qS n l = qS m l
  | 0, m, l, h1, h2 => by
    have : l = [] := List.length_eq_zero_iff.1 (by omega)
    subst this
    cases m <;> rfl
  | n + 1, 0, l, h1, h2 => by
    have : l = [] := List.length_eq_zero_iff.1 (by omega)
    subst this; rfl
  | n + 1, m + 1, [], h1, h2 => rfl
  | n + 1, m + 1, b :: t, h1, h2 => by
    simp only [List.length_cons] at h1 h2
    simp only [qS]
    split
    · rw [qS_fuel n m _ (by rw [List.length_drop, List.length_cons]; omega) (by rw [List.length_drop, List.length_cons]; omega)]
    · rw [qS_fuel n m _ (by omega) (by omega)]
theorem qS_cons {b : UInt8} {t : List UInt8} (h : t.length < 1999) : qS 2000 (b :: t) = if 0 < longS (b :: t) then (b :: t).take (longS (b :: t)) ++ qS 2000 ((b :: t).drop (longS (b :: t))) else escB b ++ qS 2000 t := by
  rw [show qS 2000 (b :: t) = if 0 < longS (b :: t) then (b :: t).take (longS (b :: t)) ++ qS 1999 ((b :: t).drop (longS (b :: t))) else escB b ++ qS 1999 t from rfl]
  split
  · rw [qS_fuel 1999 2000 _ (by rw [List.length_drop, List.length_cons]; omega) (by rw [List.length_drop, List.length_cons]; omega)]
  · rw [qS_fuel 1999 2000 _ (by omega) (by omega)]
theorem c7_of {b : UInt8} (h : b.toNat < 128) : c7 ((b.toNat : Nat) : Int) = some b := by
  unfold c7
  rw [if_pos (by omega)]
  simp
theorem f35_of {l : List UInt8} (h : l ≠ []) : f35 l = some (((Lib.decodeL l).1 : Int), ((Lib.decodeL l).2 : Int)) := by
  unfold f35; rw [go_eq h]
theorem longS_cont {c : UInt8} {u : List UInt8} (h1 : 128 ≤ c.toNat) (h2 : c.toNat < 194) : longS (c :: u) = 0 := by
  cases shape c u with
  | a h e => omega
  | b r n h e => omega
  | c h e h1 => simp only [longS, e]; rfl
theorem f14_loop (s : List UInt8) (hs : s.length ≤ 1100) : ∀ (n : Nat) (acc : List UInt8) (p : Nat), p ≤ s.length → s.length < n + p → acc.length ≤ 1 + 4 * p → f14_l1 2000 s n acc p = some (acc ++ qS 2000 (s.drop p))
  | 0, acc, p, h1, h2, h3 => by omega
  | n + 1, acc, p, h1, h2, h3 => by
    rw [f14_l1]
    by_cases hp : p < s.length
    · rw [if_pos hp]
      obtain ⟨b, hb⟩ : ∃ b, s[p]? = some b := ⟨s[p], List.getElem?_eq_getElem hp⟩
      have hd : s.drop p = b :: s.drop (p + 1) := by
        obtain ⟨hl, e⟩ := List.getElem?_eq_some_iff.1 hb
        rw [List.drop_eq_getElem_cons hl, e]
      have hlen : (b :: s.drop (p + 1)).length = s.length - p := by rw [← hd, List.length_drop]
      have hlt : (s.drop (p + 1)).length < 1999 := by rw [List.length_drop]; omega
      have hdd : ∀ m, s.drop (p + m) = (b :: s.drop (p + 1)).drop m := by intro m; rw [← hd, List.drop_drop]
      have h1' : IntKind.i64.wrap ((p : Int) + 1) = ((p + 1 : Nat) : Int) := wr64 (n := 1) (by omega)
      have hs1 : sub s (p : Int) ((p + 1 : Nat) : Int) = some [b] := by rw [sub_mid (by omega), hd]; rfl
      have hc8 : c8 92 = some 92 := rfl
      have hfin : ∀ e : List UInt8, e = escB b → longS (b :: s.drop (p + 1)) = 0 → f14_l1 2000 s n (acc ++ e) (p + 1) = some (acc ++ qS 2000 (b :: s.drop (p + 1))) := by
        rintro e rfl q
        have := escB_len b
        rw [f14_loop s hs n _ (p + 1) (by omega) (by omega) (by rw [List.length_append]; omega), qS_cons hlt, if_neg (by omega), List.append_assoc]
      simp only [decL_eq, decN_eq, hd]
      generalize hT : s.drop (p + 1) = t at *
      cases shape b t with
      | a h e =>
        have hb256 := b.toNat_lt
        have hrl : Lib.runeLen ((b.toNat : Nat) : Int) = 1 := by unfold Lib.runeLen; rw [if_neg (by omega), if_pos (by omega)]
        have hl0 : longS (b :: t) = 0 := by simp only [longS, e]; rw [if_neg (by omega)]
        simp only [e, f34_eq, hrl, Option.bind_some]
        rw [if_neg (by omega)]
        simp only [Option.bind_some, hc8, c7_of h]
        by_cases q1 : b.toNat = 34
        · rw [if_pos (by omega), ap1 (by simp; omega)]
          simp only [Option.bind_some]
          rw [ap1 (by simp; omega)]
          simp only [Option.bind_some, List.append_assoc]
          exact hfin _ (by unfold escB; rw [if_pos (.inl q1)]; rfl) hl0
        · rw [if_neg (by omega)]
          by_cases q2 : b.toNat = 92
          · rw [if_pos (by omega), ap1 (by simp; omega)]
            simp only [Option.bind_some]
            rw [ap1 (by simp; omega)]
            simp only [Option.bind_some, List.append_assoc]
            exact hfin _ (by unfold escB; rw [if_pos (.inr q2)]; rfl) hl0
          · rw [if_neg (by omega), f37_eq]
            simp only [Option.bind_some, h1', hs1]
            by_cases q3 : 32 ≤ b.toNat ∧ b.toNat ≤ 126
            · rw [if_pos (by rw [decide_eq_true_eq]; omega), ap1 (by simp; omega)]
              simp only [Option.bind_some]
              exact hfin _ (by unfold escB; rw [if_neg (by omega), if_pos q3]) hl0
            · rw [if_neg (by rw [decide_eq_true_eq]; rintro ⟨_, _, k, _⟩; have := k trivial; omega), ne8_of (by simp)]
              simp only [Option.bind_some]
              have := f14_hex [b] (p + 1) (by simp) 2000 acc 0 (by simp) (by simp) (by omega)
              rw [show ((0 : Nat) : Int) = 0 from rfl] at this
              rw [this]
              simp only [Option.bind_some]
              exact hfin _ (by unfold escB; rw [if_neg (by omega), if_neg q3]; simp) hl0
      | b r m h e h1 h2 h3 h4 h5 h6 h7 h8 =>
        simp only [e, f34_eq, h8, Option.bind_some]
        have hx : (if ((r : Nat) : Int) = 65533 then (sub s (p : Int) (s.length : Int)).bind fun s23u1 => (f35 s23u1).bind fun x => match x with | (t24u1_0, t24u1_1) => some (t24u1_1, p + m) else some (((m : Nat) : Int), p + m)) = some (((m : Nat) : Int), p + m) := by
          split
          · rw [sub_all (by omega), hd]
            simp only [Option.bind_some]
            rw [f35_of (by simp), e]; rfl
          · rfl
        rw [hx]
        simp only [Option.bind_some]
        rw [if_neg (by omega), if_neg (by omega), f37_eq]
        simp only [Option.bind_some]
        rw [wr64 (by omega), sub_mid (by omega), hd]
        by_cases q : 160 ≤ r
        · rw [if_pos (by rw [decide_eq_true_eq]; omega)]
          have hl0 : longS (b :: t) = m := by simp only [longS, e]; rw [if_pos ⟨q, h1⟩]
          simp only [Option.bind_some]
          rw [ap1 (by rw [List.length_take]; omega)]
          simp only [Option.bind_some]
          rw [f14_loop s hs n _ (p + m) (by omega) (by omega) (by rw [List.length_append, List.length_take]; omega), qS_cons hlt, hl0, if_pos (by omega), hdd m, List.append_assoc]
        · rw [if_neg (by rw [decide_eq_true_eq]; omega)]
          obtain ⟨rfl, c, u, rfl, k1, k2⟩ := h6 (by omega)
          have hb0 : longS (b :: c :: u) = 0 := by simp only [longS, e]; rw [if_neg (by omega)]
          have hc0 := longS_cont (c := c) (u := u) k1 (by omega)
          simp only [Option.bind_some, List.take_succ_cons, List.take_zero]
          rw [ne8_of (by simp)]
          simp only [Option.bind_some]
          have := f14_hex [b, c] (p + 2) (by simp) 2000 acc 0 (by simp) (by simp) (by omega)
          rw [show ((0 : Nat) : Int) = 0 from rfl] at this
          rw [this]
          simp only [Option.bind_some]
          have hb256 := b.toNat_lt
          have e1 : escB b = hexB b := by unfold escB; rw [if_neg (by omega), if_neg (by omega)]
          have e2 : escB c = hexB c := by unfold escB; rw [if_neg (by omega), if_neg (by omega)]
          have hu : u.length < 1999 := by simp at hlt; omega
          rw [f14_loop s hs n _ (p + 2) (by omega) (by omega) (by simp [hexB]; omega), qS_cons hlt, hb0, if_neg (by omega), qS_cons hu, hc0, if_neg (by omega), hdd 2, e1, e2]
          simp
      | c h e h1 =>
        have hb256 := b.toNat_lt
        have hl0 : longS (b :: t) = 0 := by simp only [longS, e]; rfl
        simp only [e, f34_eq, Option.bind_some]
        rw [if_pos (by rfl), sub_all (by omega), hd]
        simp only [Option.bind_some]
        rw [f35_of (by simp), e]
        simp only [Option.bind_some]
        rw [if_neg (by omega), if_neg (by omega), f37_eq]
        simp only [Option.bind_some]
        rw [if_neg (by rw [decide_eq_true_eq]; omega)]
        rw [show IntKind.i64.wrap ((p : Int) + ((1 : Nat) : Int)) = ((p + 1 : Nat) : Int) from h1', hs1]
        simp only [Option.bind_some]
        rw [ne8_of (by simp)]
        simp only [Option.bind_some]
        have := f14_hex [b] (p + 1) (by simp) 2000 acc 0 (by simp) (by simp) (by omega)
        rw [show ((0 : Nat) : Int) = 0 from rfl] at this
        rw [this]
        simp only [Option.bind_some]
        exact hfin _ (by unfold escB; rw [if_neg (by omega), if_neg (by omega)]; simp) hl0
    · rw [if_neg hp, List.drop_eq_nil_of_le (by omega)]
      simp [qS]
theorem f14_eq {s : List UInt8} (hs : s.length ≤ 1100) : f14 2000 s = some ([34] ++ qS 2000 s ++ [34]) := by
  unfold f14
  have h34 : c8 34 = some 34 := rfl
  have hq := qS_len 2000 s
  rw [h34]
  simp only [Option.bind_some]
  rw [ap1 (by simp)]
  simp only [Option.bind_some]
  have := f14_loop s hs 2000 ([] ++ [34]) 0 (by omega) (by omega) (by simp)
  rw [this, List.drop_zero]
  simp only [Option.bind_some]
  rw [ap1 (by simp; omega)]
  simp only [Option.bind_some]
  rw [ap1 (by simp; omega)]
  simp
end Go.Proofs.YtgmejigjajcbfaaGreatDoor

set_option linter.unusedVariables false
set_option linter.unusedSimpArgs false
namespace Go.Proofs.YtgmejigjajcbfaaGreatDoor
open Go Go.Det Go.RowKit
theorem dec_asc {s : List UInt8} {p : Nat} {b : UInt8} (h : s[p]? = some b) (hb : b.toNat < 128) : decL s p = (b.toNat : Int) ∧ decN s p = 1 := by
  obtain ⟨hl, e⟩ := List.getElem?_eq_some_iff.1 h
  have h1 : p < (bs s).size := by show p < s.toArray.size; simpa using hl
  have h2 : (bs s)[p]'h1 = b := by rw [← e]; show s.toArray[p]'(by simpa using hl) = _; simp
  have h3 := decode_ascii (bs s) p h1 (by rw [h2]; exact hb)
  unfold decL decN
  rw [h3, h2]
  exact ⟨rfl, rfl⟩
theorem dec_big {s : List UInt8} {p : Nat} {b : UInt8} (h : s[p]? = some b) (hb : 128 ≤ b.toNat) : 128 ≤ decL s p := by
  obtain ⟨hl, e⟩ := List.getElem?_eq_some_iff.1 h
  have hg : ((bs s).get! (p + 0)).toNat = b.toNat := by
    rw [Nat.add_zero]
    have : (bs s).get! p = b := by
      rw [← e]
      show s.toArray[p]! = _
      rw [getElem!_pos s.toArray p (by simpa using hl)]
      simp
    rw [this]
  unfold decL Utf8.decode
  simp only [hg, Utf8.runeError]
  repeat' split
  all_goals first
    | omega
    | (simp_all; done)
    | (rename_i q; simp only [Bool.and_eq_true, decide_eq_true_eq, ge_iff_le] at q; simp only; omega)
/-! Names -/
def letB (r : Int) : Bool := decide (97 ≤ r ∧ r ≤ 122 ∨ 65 ≤ r ∧ r ≤ 90)
def goodB (r : Int) : Bool := letB r || decide (r = 45 ∨ 48 ≤ r ∧ r ≤ 57)
theorem f42_eq (r : Int) : f42 r = some (letB r) := by
  unfold f42 letB
  simp only [Option.bind_some, ge_iff_le]
  split
  · split
    · simp; omega
    · split
      · congr 1; rw [decide_eq_decide]; omega
      · simp; omega
  · split
    · congr 1; rw [decide_eq_decide]; omega
    · simp; omega
theorem f43_eq (r : Int) : f43 r = some (letB r) := f42_eq r
theorem f44_eq (r : Int) : f44 r = some (decide (48 ≤ r ∧ r ≤ 57)) := by
  unfold f44
  simp only [Option.bind_some, ge_iff_le]
  split
  · congr 1; rw [decide_eq_decide]; omega
  · simp; omega
def allG (s : List UInt8) : Bool := s.all fun b => goodB (b.toNat : Int)
theorem drop_cons {s : List UInt8} {p : Nat} {b : UInt8} (h : s[p]? = some b) : s.drop p = b :: s.drop (p + 1) := by
  obtain ⟨hl, e⟩ := List.getElem?_eq_some_iff.1 h
  rw [List.drop_eq_getElem_cons hl, e]
theorem f16_loop (s : List UInt8) : ∀ (n p : Nat), p ≤ s.length → s.length < n + p →
    f16_l1 s n p = some (if allG (s.drop p) = true ∧ (p = 0 → ∀ b, s[0]? = some b → letB (b.toNat : Int) = true) then .inr () else .inl false)
  | 0, p, h1, h2 => by omega
  | n + 1, p, h1, h2 => by
    rw [f16_l1]
    by_cases hp : p < s.length
    · rw [if_pos hp]
      obtain ⟨b, hb⟩ : ∃ b, s[p]? = some b := ⟨s[p], List.getElem?_eq_getElem hp⟩
      have hd := drop_cons hb
      have hall : allG (s.drop p) = (goodB (b.toNat : Int) && allG (s.drop (p + 1))) := by rw [hd]; rfl
      have hb256 : b.toNat < 256 := UInt8.toNat_lt b
      simp only [f42_eq, Option.bind_some]
      by_cases h7 : b.toNat < 128
      · obtain ⟨e1, e2⟩ := dec_asc hb h7
        rw [e1, e2, f16_loop s n (p + 1) (by omega) (by omega), hall]
        by_cases hL : letB (b.toNat : Int) = true
        · rw [if_pos hL]
          have hg : goodB (b.toNat : Int) = true := by unfold goodB; rw [hL]; rfl
          have h0 : (p = 0 → ∀ b, s[0]? = some b → letB (b.toNat : Int) = true) := by
            rintro rfl c hc; rw [hb] at hc; cases hc; exact hL
          simp [hg, h0]
          congr 1
          simp [h0]
          intro q; exact h0
        · rw [if_neg hL]
          by_cases hp0 : p = 0
          · subst hp0
            rw [if_pos (by simp)]
            rw [if_neg]
            rintro ⟨_, k⟩
            exact hL (k rfl b hb)
          · rw [if_neg (by omega)]
            have hgd : goodB (b.toNat : Int) = decide ((b.toNat : Int) = 45 ∨ 48 ≤ (b.toNat : Int) ∧ (b.toNat : Int) ≤ 57) := by
              unfold goodB; rw [Bool.not_eq_true] at hL; rw [hL]; rfl
            rw [hgd]
            by_cases h45 : (b.toNat : Int) = 45
            · simp [h45, hp0]
            · rw [if_neg h45]
              by_cases h48 : (b.toNat : Int) < 48
              · rw [if_pos h48, if_neg]
                rintro ⟨k, _⟩
                simp only [Bool.and_eq_true, decide_eq_true_eq] at k
                omega
              · rw [if_neg h48]
                by_cases h57 : (b.toNat : Int) > 57
                · rw [if_pos h57, if_neg]
                  rintro ⟨k, _⟩
                  simp only [Bool.and_eq_true, decide_eq_true_eq] at k
                  omega
                · rw [if_neg h57]
                  have : decide ((b.toNat : Int) = 45 ∨ 48 ≤ (b.toNat : Int) ∧ (b.toNat : Int) ≤ 57) = true := by
                    rw [decide_eq_true_eq]; omega
                  rw [this]
                  simp [hp0]
      · have e1 := dec_big hb (by omega)
        have hL : letB (decL s p) = false := by unfold letB; rw [decide_eq_false_iff_not]; omega
        have hgd : goodB (b.toNat : Int) = false := by
          unfold goodB letB
          rw [Bool.or_eq_false_iff, decide_eq_false_iff_not, decide_eq_false_iff_not]
          omega
        rw [hL, hall, hgd]
        simp only [Bool.false_eq_true, if_false, Bool.false_and, false_and]
        split
        · rfl
        · rw [if_neg (by omega), if_neg (by omega), if_pos (by omega)]
    · rw [if_neg hp]
      have : s.drop p = [] := List.drop_eq_nil_of_le (by omega)
      rw [this, if_pos]
      refine ⟨rfl, ?_⟩
      rintro rfl b hb
      have : s = [] := List.length_eq_zero_iff.1 (by omega)
      subst this
      simp at hb
theorem f17_loop (s : List UInt8) (hs : s.length ≤ 1100) : ∀ (n p : Nat), p ≤ s.length → s.length < n + p →
    f17_l1 s n (p : Int) = some (if allG (s.drop p) = true then .inr () else .inl false)
  | 0, p, h1, h2 => by omega
  | n + 1, p, h1, h2 => by
    rw [f17_l1]
    by_cases hp : p < s.length
    · rw [if_pos (by omega)]
      obtain ⟨b, hb⟩ : ∃ b, s[p]? = some b := ⟨s[p], List.getElem?_eq_getElem hp⟩
      have hd := drop_cons hb
      have hall : allG (s.drop p) = (goodB (b.toNat : Int) && allG (s.drop (p + 1))) := by rw [hd]; rfl
      have hw : IntKind.i64.wrap ((p : Int) + 1) = ((p + 1 : Nat) : Int) := by rw [w64 (by omega) (by omega)]; omega
      simp only [rd_nat, hb, Option.bind_some, f43_eq, f44_eq, hw, f17_loop s hs n (p + 1) (by omega) (by omega), hall]
      unfold goodB
      by_cases hL : letB (b.toNat : Int) = true
      · simp [hL]
      · rw [if_neg hL]
        rw [Bool.not_eq_true] at hL
        rw [hL]
        by_cases h1 : 48 ≤ (b.toNat : Int) ∧ (b.toNat : Int) ≤ 57
        · simp [h1]
        · by_cases h2 : (b.toNat : Int) = 45
          · simp [h2]
          · rw [if_neg (by simpa using h1), if_neg h2, if_neg]
            simp only [Bool.false_or, Bool.and_eq_true, decide_eq_true_eq]
            rintro ⟨q, _⟩
            omega
    · rw [if_neg (by omega)]
      have : s.drop p = [] := List.drop_eq_nil_of_le (by omega)
      rw [this]; rfl
def nameB (s : List UInt8) : Bool := decide (s ≠ [] ∧ s.length ≤ 16) && allG s && (match s with | [] => false | b :: _ => letB (b.toNat : Int))
theorem f16_eq {s : List UInt8} {k : Nat} (hs : s.length ≤ 1100) (hk : 2000 ≤ k) : f16 k s = some (nameB s) := by
  unfold f16
  rw [f16_loop s k 0 (by omega) (by omega), Option.bind_some, List.drop_zero]
  unfold nameB
  cases s with
  | nil => simp [allG]
  | cons b r =>
    by_cases h1 : allG (b :: r) = true
    · by_cases h2 : letB (b.toNat : Int) = true
      · rw [if_pos ⟨h1, fun _ c hc => by simp at hc; subst hc; exact h2⟩]
        simp only [h1, h2, Option.bind_some, reduceCtorEq, if_false]
        simp; omega
      · rw [if_neg (fun q => h2 (q.2 rfl b rfl))]
        rw [Bool.not_eq_true] at h2
        simp [h2]
    · rw [if_neg (fun q => h1 q.1)]
      rw [Bool.not_eq_true] at h1
      simp [h1]
theorem f17_eq {s : List UInt8} {k : Nat} (hs : s.length ≤ 1100) (hk : 2000 ≤ k) : f17 k s = some (nameB s) := by
  unfold f17 nameB
  cases s with
  | nil => simp
  | cons b r =>
    rw [if_neg (by simp; omega)]
    by_cases h16 : (((b :: r).length : Nat) : Int) > 16
    · rw [if_pos h16]
      have : ¬ (b :: r).length ≤ 16 := by omega
      simp [this]
      intro q; simp at h16; omega
    · rw [if_neg h16]
      have hl : (b :: r).length ≤ 16 := by omega
      have h0 : rd (b :: r) 0 = some b := rfl
      have hloop := f17_loop (b :: r) (by omega) k 0 (by omega) (by omega)
      rw [show ((0 : Nat) : Int) = 0 from rfl, List.drop_zero] at hloop
      simp only [h0, Option.bind_some, f43_eq, hloop]
      have hd : decide (b :: r ≠ [] ∧ (b :: r).length ≤ 16) = true := by rw [decide_eq_true_eq]; exact ⟨by simp, hl⟩
      rw [hd]
      cases letB (b.toNat : Int) <;> cases allG (b :: r) <;> rfl
/-! Words -/
theorem f22_eq {w : RowWord} {k : Nat} (hs : w.Name.length ≤ 1100) (hk : 2000 ≤ k) : ∃ e, f22 k w = some e ∧ f23 k w = some e := by
  unfold f22 f23
  rw [f16_eq hs hk, f17_eq hs hk]
  simp only [Option.bind_some, ge_iff_le]
  by_cases h1 : w.Kind = 1
  · rw [h1]
    cases nameB w.Name <;> by_cases hn : w.N = 0 <;> simp [hn]
  · by_cases h2 : w.Kind = 2
    · rw [h2]
      by_cases hm : w.Name = []
      · by_cases h3 : w.N < -1099511627776
        · have : ¬ -1099511627776 ≤ w.N := by omega
          simp [hm, h3, this]
        · by_cases h4 : 1099511627776 < w.N
          · have h5 : -1099511627776 ≤ w.N := by omega
            have h6 : ¬ w.N ≤ 1099511627776 := by omega
            simp [hm, h3, h4, h5, h6]
          · have h5 : -1099511627776 ≤ w.N := by omega
            have h6 : w.N ≤ 1099511627776 := by omega
            simp [hm, h3, h4, h5, h6]
      · simp [hm]
    · by_cases h3 : w.Kind = 3
      · rw [h3]
        by_cases hn : w.N = 0 <;> simp [hn]
      · by_cases h4 : w.Kind < 1
        · simp [h1, h2, h3, h4]
        · have h5 : w.Kind > 3 := by omega
          simp [h1, h2, h3, h4, h5]
theorem RowWord.eta (w : RowWord) : RowWord.mk w.At w.Kind w.Name w.N = w := rfl
end Go.Proofs.YtgmejigjajcbfaaGreatDoor

set_option linter.unusedVariables false
set_option linter.unusedSimpArgs false
namespace Go.Proofs.YtgmejigjajcbfaaGreatDoor
open Go Go.Det Go.RowKit
/-! Numerals -/
theorem dg10 {d : Nat} (h : d < 10) : sub ([48, 49, 50, 51, 52, 53, 54, 55, 56, 57, 97, 98, 99, 100, 101, 102] : List UInt8) (d : Int) (IntKind.i64.wrap ((d : Int) + 1)) = some [UInt8.ofNat (48 + d)] :=
  of_decide_eq_true (List.all_eq_true.1 (show ((List.range 10).all fun x => decide (sub ([48, 49, 50, 51, 52, 53, 54, 55, 56, 57, 97, 98, 99, 100, 101, 102] : List UInt8) ((x : Nat) : Int) (IntKind.i64.wrap (((x : Nat) : Int) + 1)) = some [UInt8.ofNat (48 + x)])) = true by kernel_rfl) _ (List.mem_range.2 h))
theorem f63_small {u : Nat} (n : Nat) (hs : u < 10) : f63 (n + 1) (u : Int) = some (Lib.decDigits u) := by
  rw [f63, if_neg (by omega), if_pos (by omega), dg10 hs, Lib.decDigits, dif_pos hs]; rfl
theorem f63_nat : ∀ (n u : Nat), u < 10 ^ n → u ≤ 1099511627776 → f63 (n + 1) (u : Int) = some (Lib.decDigits u)
  | 0, u, h, hu => f63_small 0 (by simp at h; omega)
  | n + 1, u, h, hu => by
    by_cases hs : u < 10
    · exact f63_small _ hs
    · have h1 : ((u : Int).tdiv 10) = ((u / 10 : Nat) : Int) := by rw [Int.tdiv_eq_ediv_of_nonneg (by omega)]; omega
      have h2 : ((u : Int).tmod 10) = ((u % 10 : Nat) : Int) := by rw [Int.tmod_eq_emod_of_nonneg (by omega)]; omega
      rw [f63, if_neg (by omega), if_neg (by omega), h1, h2, w64 (x := ((u / 10 : Nat) : Int)) (by omega) (by omega), f63_nat n (u / 10) (by rw [Nat.pow_succ] at h; omega) (by omega), dg10 (Nat.mod_lt _ (by decide))]
      have := Lib.itoa_length_le ((u / 10 : Nat) : Int) (by omega) (by omega)
      rw [Lib.itoa_nonneg] at this
      simp only [Option.bind_some]
      rw [sc (by simp only [List.length_cons, List.length_nil]; omega)]
      conv => rhs; rw [Lib.decDigits, dif_neg hs]
      rfl
theorem f63_big {m u : Nat} (hm : 13 ≤ m) (hu : u ≤ 1099511627776) : f63 (m + 1) (u : Int) = some (Lib.decDigits u) :=
  f63_nat m u (Nat.lt_of_lt_of_le (show u < 10 ^ 13 by omega) (Nat.pow_le_pow_right (by decide) hm)) hu
theorem f63_eq {n : Int} (h1 : -1099511627776 ≤ n) (h2 : n ≤ 1099511627776) : f63 2000 n = some (Lib.itoa n) := by
  by_cases h : n < 0
  · obtain ⟨u, rfl⟩ : ∃ u : Nat, n = -(u : Int) := ⟨n.natAbs, by omega⟩
    rw [f63, if_pos h]
    have hg : gmax (-(u : Int)) (-1099511627776) = -(u : Int) := by unfold gmax; split <;> omega
    rw [hg, show (0 - -(u : Int)) = (u : Int) by omega, w64 (by omega) (by omega), show (1999 : Nat) = 1998 + 1 from rfl, f63_big (m := 1998) (by omega) (by omega)]
    have := Lib.itoa_length_le (u : Int) (by omega) (by omega)
    rw [Lib.itoa_nonneg] at this
    simp only [Option.bind_some]
    rw [sc (by simp only [List.length_cons, List.length_nil]; omega), Lib.itoa_neg u (by omega)]
    rfl
  · obtain ⟨u, rfl⟩ : ∃ u : Nat, n = (u : Int) := ⟨n.toNat, by omega⟩
    rw [show (2000 : Nat) = 1999 + 1 from rfl, f63_big (m := 1999) (by omega) (by omega), Lib.itoa_nonneg]
/-! Words -/
theorem sound2 {w : RowWord} (h : f22 2000 w = some 0) (h2 : w.Kind = 2) : -1099511627776 ≤ w.N ∧ w.N ≤ 1099511627776 := by
  unfold f22 at h
  rw [h2] at h
  by_cases hm : w.Name = []
  · by_cases h3 : -1099511627776 ≤ w.N
    · by_cases h4 : w.N ≤ 1099511627776
      · exact ⟨h3, h4⟩
      · simp [hm, h3, h4] at h
    · simp [hm, h3] at h
  · simp [hm] at h
theorem form_eq {w : RowWord} (hs : w.Name.length ≤ 1100) (h0 : f22 2000 w = some 0) : ∃ t, f46 2000 w = some t ∧ f49 2000 w = some t ∧ t.length ≤ 4500 := by
  unfold f46 f49
  by_cases h1 : w.Kind = 1
  · rw [if_pos h1, if_pos h1]
    exact ⟨_, rfl, rfl, by omega⟩
  · rw [if_neg h1, if_neg h1]
    by_cases h2 : w.Kind = 2
    · obtain ⟨g1, g2⟩ := sound2 h0 h2
      have h61 : f61 w.N = some (Lib.itoa w.N) := by unfold f61; rw [if_pos ⟨by omega, by omega⟩]
      rw [if_pos h2, if_pos h2, h61, f63_eq g1 g2]
      have := Lib.itoa_length_le w.N (by omega) (by omega)
      exact ⟨_, rfl, rfl, by omega⟩
    · rw [if_neg h2, if_neg h2, f14_eq hs, f15_eq hs]
      have := qS_len 2000 w.Name
      exact ⟨_, rfl, rfl, by simp only [List.length_append, List.length_cons, List.length_nil]; omega⟩
def sq (w : RowWord) : Int := (f22 2000 w).getD 0
def fm (w : RowWord) : List UInt8 := (f46 2000 w).getD []
def good (w : RowWord) : Prop := w.Name.length ≤ 1100
theorem sq_eq {w : RowWord} (h : good w) : f22 2000 w = some (sq w) ∧ f23 2000 w = some (sq w) := by
  obtain ⟨e, h1, h2⟩ := f22_eq (k := 2000) h (Nat.le_refl _)
  unfold sq; rw [h1]; exact ⟨rfl, h2⟩
theorem fm_eq {w : RowWord} (h : good w) (h0 : sq w = 0) : f46 2000 w = some (fm w) ∧ f49 2000 w = some (fm w) ∧ (fm w).length ≤ 4500 := by
  obtain ⟨t, h1, h2, h3⟩ := form_eq h (by rw [(sq_eq h).1, h0])
  unfold fm; rw [h1]; exact ⟨rfl, h2, h3⟩
def firstE : List RowWord → Option Int
  | [] => none
  | w :: r => if sq w = 0 then firstE r else some (sq w)
theorem next64 {i : Nat} (h : i < 100000) : IntKind.i64.wrap ((i : Int) + 1) = ((i + 1 : Nat) : Int) := by rw [w64 (by omega) (by omega)]; omega
theorem dropC {α : Type} {l : List α} {i : Nat} (h : i < l.length) : ∃ x, l[i]? = some x ∧ x ∈ l ∧ l.drop i = x :: l.drop (i + 1) := by
  refine ⟨l[i], List.getElem?_eq_getElem h, List.getElem_mem h, ?_⟩
  rw [List.drop_eq_getElem_cons h]
theorem words_p (ws : List RowWord) (hg : ∀ w ∈ ws, good w) (hl : ws.length ≤ 30) : ∀ (n i : Nat) (l : List (List UInt8)), i ≤ ws.length → ws.length < n + i → l.length ≤ i →
    f24_l2 2000 ws n l (i : Int) = some (match firstE (ws.drop i) with | some e => .inr ([], e) | none => .inl (l ++ (ws.drop i).map fm))
  | 0, i, l, h1, h2, h3 => by omega
  | n + 1, i, l, h1, h2, h3 => by
    rw [f24_l2]
    simp only [Option.bind_some]
    by_cases hi : i < ws.length
    · obtain ⟨w, hw, hm, hd⟩ := dropC hi
      have g := hg w hm
      rw [if_pos (by simpa using hi), rd_nat, hw, hd]
      simp only [Option.bind_some, RowWord.eta, (sq_eq g).1, firstE]
      by_cases h0 : sq w = 0
      · rw [if_pos h0, if_pos h0, (fm_eq g h0).1]
        simp only [Option.bind_some]
        have ha : apd 16 l [fm w] = some (l ++ [fm w]) := if_pos (by simp only [List.length_cons, List.length_nil]; omega)
        rw [ha]
        simp only [Option.bind_some]
        rw [next64 (by omega), words_p ws hg hl n (i + 1) _ (by omega) (by omega) (by simp only [List.length_append, List.length_cons, List.length_nil]; omega)]
        cases firstE (ws.drop (i + 1)) <;> simp
      · rw [if_neg h0, if_neg h0]
    · rw [if_neg (by simpa using hi), List.drop_eq_nil_of_le (by omega)]
      simp [firstE]
theorem words_r (ws : List RowWord) (hg : ∀ w ∈ ws, good w) (hl : ws.length ≤ 30) : ∀ (n i : Nat), i ≤ ws.length → ws.length < n + i →
    f25_l2 2000 ws n (i : Int) = some (match firstE (ws.drop i) with | some e => .inl ([], e) | none => .inr ())
  | 0, i, h1, h2 => by omega
  | n + 1, i, h1, h2 => by
    rw [f25_l2]
    by_cases hi : i < ws.length
    · obtain ⟨w, hw, hm, hd⟩ := dropC hi
      have g := hg w hm
      rw [if_pos (by omega), rd_nat, hw, hd]
      simp only [Option.bind_some, (sq_eq g).2, firstE]
      by_cases h0 : sq w = 0
      · rw [if_pos h0, if_pos h0, next64 (by omega), words_r ws hg hl n (i + 1) (by omega) (by omega)]
      · rw [if_neg h0, if_neg h0]
    · rw [if_neg (by omega), List.drop_eq_nil_of_le (by omega)]
      simp [firstE]
theorem words_c (ws : List RowWord) (hg : ∀ w ∈ ws, good w) (hl : ws.length ≤ 30) : ∀ (n i : Nat) (acc : List UInt8), 1 ≤ i → i ≤ ws.length → ws.length < n + i → acc.length ≤ 5000 * i → firstE (ws.drop i) = none →
    f25_l3 2000 ws n acc (i : Int) = some (acc ++ Lib.joinTail [32] ((ws.drop i).map fm)) ∧ (acc ++ Lib.joinTail [32] ((ws.drop i).map fm)).length ≤ 5000 * ws.length
  | 0, i, acc, h0, h1, h2, h3, h4 => by omega
  | n + 1, i, acc, h0, h1, h2, h3, h4 => by
    rw [f25_l3]
    by_cases hi : i < ws.length
    · obtain ⟨w, hw, hm, hd⟩ := dropC hi
      have g := hg w hm
      rw [hd] at h4 ⊢
      simp only [firstE] at h4
      by_cases hq : sq w = 0
      · rw [if_pos hq] at h4
        obtain ⟨g1, g2, g3⟩ := fm_eq g hq
        rw [if_pos (by omega), if_pos (by omega), sc (by simp only [List.length_cons, List.length_nil]; omega)]
        simp only [Option.bind_some, rd_nat, hw, g2]
        rw [sc (by simp only [List.length_append, List.length_cons, List.length_nil]; omega)]
        simp only [Option.bind_some]
        rw [next64 (by omega)]
        have := words_c ws hg hl n (i + 1) (acc ++ [32] ++ fm w) (by omega) (by omega) (by omega) (by simp only [List.length_append, List.length_cons, List.length_nil]; omega) h4
        have e : acc ++ Lib.joinTail [32] ((w :: ws.drop (i + 1)).map fm) = acc ++ [32] ++ fm w ++ Lib.joinTail [32] ((ws.drop (i + 1)).map fm) := by simp [Lib.joinTail]
        rw [e]; exact this
      · rw [if_neg hq] at h4; cases h4
    · rw [if_neg (by omega), List.drop_eq_nil_of_le (by omega)]
      simp only [List.map_nil, Lib.joinTail, List.flatten_nil, List.append_nil]
      have : i = ws.length := by omega
      subst this
      exact ⟨trivial, h3⟩
theorem words_j (ws : List RowWord) (hg : ∀ w ∈ ws, good w) (hl : ws.length ≤ 30) (h0 : ws ≠ []) (h4 : firstE ws = none) :
    f25_l3 2000 ws 2000 [] 0 = some (Lib.join (ws.map fm) [32]) ∧ (Lib.join (ws.map fm) [32]).length ≤ 5000 * ws.length := by
  cases ws with
  | nil => exact absurd rfl h0
  | cons w r =>
    have g := hg w (List.mem_cons_self ..)
    simp only [firstE] at h4
    by_cases hq : sq w = 0
    · rw [if_pos hq] at h4
      obtain ⟨g1, g2, g3⟩ := fm_eq g hq
      have := words_c (w :: r) hg hl 1999 1 (fm w) (Nat.le_refl _) (by simp) (by simp at hl ⊢; omega) (by omega) (by simpa using h4)
      rw [f25_l3, if_pos (by simp only [List.length_cons]; omega), if_neg (by omega)]
      have hr : rd (w :: r) 0 = some w := rfl
      simp only [Option.bind_some, hr, g2]
      rw [sc (by simp only [List.length_nil]; omega)]
      simp only [Option.bind_some, List.nil_append]
      rw [show IntKind.i64.wrap ((0 : Int) + 1) = ((1 : Nat) : Int) from next64 (i := 0) (by omega), List.map_cons, Lib.join_cons]
      simpa using this
    · rw [if_neg hq] at h4; cases h4
/-! Rows -/
def okRow (r : Row) : Prop := r.Words.length ≤ 30 ∧ ∀ w ∈ r.Words, good w
def flipS : (List UInt8 × Int) ⊕ List UInt8 → List UInt8 ⊕ (List UInt8 × Int)
  | .inl x => .inr x
  | .inr x => .inl x
theorem rows_l (rs : List Row) (hl : rs.length ≤ 40) (hg : ∀ r ∈ rs, okRow r) : ∀ (n i : Nat) (acc : List UInt8), i ≤ rs.length → rs.length < n + i → acc.length ≤ 20000 →
    ∃ o, f24_l1 2000 rs n acc (i : Int) = some (flipS o) ∧ f25_l1 2000 rs n acc (i : Int) = some o ∧ ∀ x, o = .inr x → x.length ≤ 20000
  | 0, i, acc, h1, h2, h3 => by omega
  | n + 1, i, acc, h1, h2, h3 => by
    rw [f24_l1, f25_l1]
    simp only [Option.bind_some]
    by_cases hi : i < rs.length
    · obtain ⟨r, hr, hm, hd⟩ := dropC hi
      obtain ⟨hw, hgw⟩ := hg r hm
      rw [if_pos (by simpa using hi), if_pos (by omega), rd_nat, hr]
      simp only [Option.bind_some]
      by_cases h0 : (r.Words.length : Int) = 0
      · rw [if_pos h0, if_pos h0]
        exact ⟨.inl ([], 3), rfl, rfl, fun x h => by cases h⟩
      · rw [if_neg h0, if_neg h0]
        have hne : r.Words ≠ [] := fun h => by rw [h] at h0; exact h0 rfl
        have e1 := words_p r.Words hgw hw 2000 0 [] (by omega) (by omega) (by simp)
        have e2 := words_r r.Words hgw hw 2000 0 (by omega) (by omega)
        rw [show ((0 : Nat) : Int) = 0 from rfl, List.drop_zero] at e1 e2
        rw [e1, e2]
        cases hf : firstE r.Words with
        | some e => exact ⟨.inl ([], e), rfl, rfl, fun x h => by cases h⟩
        | none =>
          obtain ⟨e3, e4⟩ := words_j r.Words hgw hw hne hf
          have e5 : f47 (([] : List (List UInt8)) ++ r.Words.map fm) [32] = some (Lib.join (r.Words.map fm) [32]) := by
            unfold f47
            rw [List.nil_append, if_pos ⟨by rw [List.length_map]; omega, by omega⟩]
          simp only [Option.bind_some, e3, e5]
          generalize ht : Lib.join (r.Words.map fm) [32] = t at e4
          have hap : apd 1 acc ([] : List UInt8) = some acc := by rw [ap1 (by simp only [List.length_nil]; omega), List.append_nil]
          by_cases hb : (t.length : Int) > 1000
          · rw [if_pos hb, if_pos hb]
            exact ⟨.inl ([], 4), rfl, rfl, fun x h => by cases h⟩
          · rw [if_neg hb, if_neg hb, hap]
            simp only [Option.bind_some]
            have hwr : IntKind.i64.wrap (IntKind.i64.wrap ((acc.length : Int) + (t.length : Int)) + 1) = ((acc.length + t.length + 1 : Nat) : Int) := by
              rw [w64 (x := (acc.length : Int) + (t.length : Int)) (by omega) (by omega), w64 (by omega) (by omega)]; omega
            rw [hwr]
            by_cases hc : ((acc.length + t.length + 1 : Nat) : Int) > 20000
            · rw [if_pos hc, if_pos hc]
              exact ⟨.inl ([], 4), rfl, rfl, fun x h => by cases h⟩
            · rw [if_neg hc, if_neg hc, sc (a := t) (by simp only [List.length_cons, List.length_nil]; omega), sc (a := acc) (by omega)]
              simp only [Option.bind_some]
              rw [ap1 (by simp only [List.length_append, List.length_cons, List.length_nil]; omega), sc (a := acc ++ t) (by simp only [List.length_append, List.length_cons, List.length_nil]; omega)]
              simp only [Option.bind_some, List.append_assoc]
              rw [next64 (by omega)]
              exact rows_l rs hl hg n (i + 1) _ (by omega) (by omega) (by simp only [List.length_append, List.length_cons, List.length_nil]; omega)
    · rw [if_neg (by simpa using hi), if_neg (by omega)]
      exact ⟨.inr acc, rfl, rfl, fun x h => by cases h; exact h3⟩
theorem text_eq {rs : List Row} (hl : rs.length ≤ 40) (hg : ∀ r ∈ rs, okRow r) : ∃ a b, f24 2000 rs = some (a, b) ∧ f25 2000 rs = some (a, b) := by
  obtain ⟨o, h1, h2, h3⟩ := rows_l rs hl hg 2000 0 [] (by omega) (by omega) (by simp)
  rw [show ((0 : Nat) : Int) = 0 from rfl] at h1 h2
  unfold f24 f25
  rw [h1, h2]
  rcases o with ⟨a, b⟩ | x
  · exact ⟨a, b, rfl, rfl⟩
  · have := h3 x rfl
    simp only [flipS, Option.bind_some]
    rw [ap1 (by simp only [List.length_nil]; omega)]
    exact ⟨x, 0, rfl, rfl⟩
/-! The same rows -/
theorem same_w (rs : List Row) (i : Nat) (r : Row) (hr : rs[i]? = some r) (hl : r.Words.length ≤ 30) : ∀ (n j : Nat), j ≤ r.Words.length → r.Words.length < n + j → f11_l2 rs rs true (i : Int) n (j : Int) = some (.inr ())
  | 0, j, h1, h2 => by omega
  | n + 1, j, h1, h2 => by
    rw [f11_l2, rd_nat, hr]
    simp only [Option.bind_some]
    by_cases hj : j < r.Words.length
    · obtain ⟨w, hw, _, _⟩ := dropC hj
      rw [if_pos (by omega), rd_nat, hw]
      simp only [Option.bind_some, if_true]
      rw [next64 (by omega)]
      exact same_w rs i r hr hl n (j + 1) (by omega) (by omega)
    · rw [if_neg (by omega)]
theorem same_r (rs : List Row) (hl : rs.length ≤ 40) (hg : ∀ r ∈ rs, okRow r) : ∀ (n i : Nat), i ≤ rs.length → rs.length < n + i → f11_l1 2000 rs rs true n (i : Int) = some (.inr ())
  | 0, i, h1, h2 => by omega
  | n + 1, i, h1, h2 => by
    rw [f11_l1]
    by_cases hi : i < rs.length
    · obtain ⟨r, hr, hm, hd⟩ := dropC hi
      have e := same_w rs i r hr (hg r hm).1 2000 0 (by omega) (by have := (hg r hm).1; omega)
      rw [show ((0 : Nat) : Int) = 0 from rfl] at e
      rw [if_pos (by omega), rd_nat, hr]
      simp only [Option.bind_some, if_true, e]
      rw [next64 (by omega)]
      exact same_r rs hl hg n (i + 1) (by omega) (by omega)
    · rw [if_neg (by omega)]
theorem same_eq {rs : List Row} (hl : rs.length ≤ 40) (hg : ∀ r ∈ rs, okRow r) : f11 2000 rs rs true = some true := by
  have := same_r rs hl hg 2000 0 (by omega) (by omega)
  rw [show ((0 : Nat) : Int) = 0 from rfl] at this
  unfold f11
  rw [if_pos rfl, this]; rfl
/-! The header -/
theorem head_w (rs : List Row) (i : Nat) (r : Row) (hr : rs[i]? = some r) (hl : r.Words.length ≤ 30) : ∀ (n j : Nat) (x : Int), j ≤ r.Words.length → r.Words.length < n + j →
    f6_l2 rs (i : Int) n x (j : Int) = some (.inl true) ∨ ((∃ y, f6_l2 rs (i : Int) n x (j : Int) = some (.inr y)) ∧ ∀ w ∈ r.Words.drop j, good w)
  | 0, j, x, h1, h2 => by omega
  | n + 1, j, x, h1, h2 => by
    rw [f6_l2, rd_nat, hr]
    simp only [Option.bind_some]
    by_cases hj : j < r.Words.length
    · obtain ⟨w, hw, _, hd⟩ := dropC hj
      rw [if_pos (by omega), rd_nat, hw]
      simp only [Option.bind_some]
      by_cases h3 : (w.Name.length : Int) > 1100
      · rw [if_pos h3]; exact .inl rfl
      · rw [if_neg h3]
        split
        · exact .inl rfl
        · rw [next64 (by omega)]
          rcases head_w rs i r hr hl n (j + 1) _ (by omega) (by omega) with e | ⟨⟨y, e⟩, g⟩
          · exact .inl e
          · refine .inr ⟨⟨y, e⟩, fun v hv => ?_⟩
            rw [hd] at hv
            rcases List.mem_cons.1 hv with rfl | hv
            · unfold good; omega
            · exact g v hv
    · rw [if_neg (by omega), List.drop_eq_nil_of_le (by omega)]
      exact .inr ⟨⟨_, rfl⟩, fun v hv => by cases hv⟩
theorem head_r (rs : List Row) (hl : rs.length ≤ 40) : ∀ (n i : Nat) (x : Int), i ≤ rs.length → rs.length < n + i →
    f6_l1 2000 rs n x (i : Int) = some (.inl true) ∨ (f6_l1 2000 rs n x (i : Int) = some (.inr ()) ∧ ∀ r ∈ rs.drop i, okRow r)
  | 0, i, x, h1, h2 => by omega
  | n + 1, i, x, h1, h2 => by
    rw [f6_l1]
    by_cases hi : i < rs.length
    · obtain ⟨r, hr, hm, hd⟩ := dropC hi
      rw [if_pos (by omega), rd_nat, hr]
      simp only [Option.bind_some]
      by_cases h3 : (r.Words.length : Int) > 30
      · rw [if_pos h3]; exact .inl rfl
      · rw [if_neg h3]
        have e := head_w rs i r hr (by omega) 2000 0 x (by omega) (by omega)
        rw [show ((0 : Nat) : Int) = 0 from rfl, List.drop_zero] at e
        rcases e with e | ⟨⟨y, e⟩, g⟩
        · rw [e]; exact .inl rfl
        · rw [e]
          simp only [Option.bind_some]
          rw [next64 (by omega)]
          rcases head_r rs hl n (i + 1) y (by omega) (by omega) with e | ⟨e, g'⟩
          · exact .inl e
          · refine .inr ⟨e, fun v hv => ?_⟩
            rw [hd] at hv
            rcases List.mem_cons.1 hv with rfl | hv
            · exact ⟨by omega, g⟩
            · exact g' v hv
    · rw [if_neg (by omega), List.drop_eq_nil_of_le (by omega)]
      exact .inr ⟨rfl, fun v hv => by cases hv⟩
theorem copy_r (rs : List Row) (hl : rs.length ≤ 40) (hg : ∀ r ∈ rs, okRow r) : ∀ (n i : Nat) (l : List Row), i ≤ rs.length → rs.length < n + i → l.length ≤ i → f6_l3 rs n l (i : Int) = some (l ++ rs.drop i)
  | 0, i, l, h1, h2, h3 => by omega
  | n + 1, i, l, h1, h2, h3 => by
    rw [f6_l3]
    by_cases hi : i < rs.length
    · obtain ⟨r, hr, hm, hd⟩ := dropC hi
      have hw := (hg r hm).1
      rw [if_pos (by omega), rd_nat, hr]
      have ha : apd 40 ([] : List RowWord) r.Words = some r.Words := by
        unfold apd; rw [if_pos (by simp only [List.length_nil]; omega)]; rfl
      simp only [Option.bind_some, ha]
      have hb : apd 32 l [r] = some (l ++ [r]) := if_pos (by simp only [List.length_cons, List.length_nil]; omega)
      rw [show (Row.mk r.At r.Words) = r from rfl, hb]
      simp only [Option.bind_some]
      rw [next64 (by omega), copy_r rs hl hg n (i + 1) _ (by omega) (by omega) (by simp only [List.length_append, List.length_cons, List.length_nil]; omega), hd]
      simp
    · rw [if_neg (by omega), List.drop_eq_nil_of_le (by omega), List.append_nil]
theorem pure6 : Pure6 := by
  intro x0 _
  refine ⟨2000, ?_⟩
  unfold f6
  have h8 : f8 = some true := rfl
  by_cases h0 : (x0.length : Int) > 40
  · rw [if_pos h0, h8]; rfl
  · rw [if_neg h0]
    have hl : x0.length ≤ 40 := by omega
    have e := head_r x0 hl 2000 0 0 (by omega) (by omega)
    rw [show ((0 : Nat) : Int) = 0 from rfl, List.drop_zero] at e
    rcases e with e | ⟨e, hg⟩
    · rw [e]; rfl
    · have e2 := copy_r x0 hl hg 2000 0 [] (by omega) (by omega) (by simp)
      rw [show ((0 : Nat) : Int) = 0 from rfl, List.drop_zero, List.nil_append] at e2
      obtain ⟨a, b, e3, e4⟩ := text_eq hl hg
      rw [e]
      simp only [Option.bind_some, e2, e3, e4, if_true, same_eq hl hg, h8]
end Go.Proofs.YtgmejigjajcbfaaGreatDoor

set_option linter.unusedVariables false
namespace Go.Proofs.YtgmejigjajcbfaaGreatDoor
open Go Go.Det Go.RowKit
theorem star : "*" ++ "errors.errorString" = "*errors.errorString" := by decide
theorem rowErr (u : TypeId) (h : Tryz.prog.typeName? 3 u = some "*errors.errorString") : u = 149 :=
  typeName_ptr_named (nm := "errors.errorString") (by rw [star]; kernel_rfl) (by kernel_rfl) (by decide) u (by rw [star]; exact h)
theorem cells126 : Tryz.prog.cellsOf 151 = 1 := by kernel_rfl
theorem cells9 : Tryz.prog.cellsOf 9 = 1 := by kernel_rfl
theorem lt_cell {w : World} {g : Nat} {v : Value} (h : w.cell? ⟨g, 0, none⟩ = some v) : g < w.heap.size := by
  unfold World.cell? at h
  split at h
  · rename_i hh; exact (Array.getElem?_eq_some_iff.1 hh).1
  · cases h
theorem chunks : ∀ (n s : Nat) (l : List Value), l.length = 2 * n → (∀ i, i < n → (l.drop (i * 2)).take 2 = [.int .u8 (Lib.accLo (s + i) : Int), .int .u8 (Lib.accHi (s + i) : Int)]) → l = accCells (List.range' s n)
  | 0, s, l, h, _ => by
    have : l = [] := List.length_eq_zero_iff.1 (by simpa using h)
    subst this; rfl
  | n + 1, s, l, h, k => by
    rcases l with _ | ⟨a, _ | ⟨b, r⟩⟩
    · simp at h
    · simp at h; omega
    · have k0 := k 0 (by omega)
      simp only [Nat.zero_mul, List.drop_zero, List.take_succ_cons, List.take_zero, Nat.add_zero, List.cons.injEq, and_true] at k0
      obtain ⟨rfl, rfl⟩ := k0
      rw [List.range'_succ, accCells, ← chunks n (s + 1) r (by simp at h; omega) (fun i hi => by
        have := k (i + 1) (by omega)
        rw [show s + (i + 1) = s + 1 + i by omega, Nat.succ_mul] at this
        simpa using this)]
set_option maxRecDepth 100000 in
theorem laid_acc {W : World} (h4 : Lib.VarReads Tryz.prog W "unicode/utf8.acceptRanges" Lib.acceptData) : 1 < W.heap.size ∧ ∃ t fr, W.heap[1]? = some (.cells ⟨accCells (List.range 16)⟩ t fr) := by
  obtain ⟨g, t, cs, fuel, p, hg, hty, hv, hd⟩ := h4
  have hg1 : g = 1 := Option.some.inj (hg.symm.trans (by kernel_rfl))
  subst hg1
  have ht1 : t = 106 := Option.some.inj (hty.symm.trans (by kernel_rfl))
  subst ht1
  have hu : Tryz.prog.underlying 106 = some (.array 16 105) := by kernel_rfl
  have hc : Tryz.prog.cellsOf 105 = 2 := by kernel_rfl
  have hct : Tryz.prog.cellsOf 106 = 32 := by kernel_rfl
  have hl : cs.toList.length = 32 := by
    cases fuel with
    | zero => simp [DataW.trod] at hd
    | succ fuel =>
      simp only [DataW.trod, hu, hc] at hd
      split at hd
      · rename_i q; exact q.trans hct
      · cases hd
  have hcs := chunks 16 0 cs.toList (by rw [hl]) (fun i hi => by
    obtain ⟨fuel', d, q, hdi, he⟩ := Lib.array_elem hu hd i hi
    simp only [Lib.acceptData, List.getElem?_map, List.getElem?_range hi, Option.map_some, Option.some.injEq] at hdi
    subst hdi
    rw [hc] at he
    have := Lib.ints_of_struct (fs := (match Tryz.prog.underlying 105 with | some (.struct fs) => fs | _ => #[])) (k := .u8) (by kernel_rfl) (fun j f hj => by
      match j, hj with
      | 0, hj => cases hj; exact ⟨by kernel_rfl, by kernel_rfl, by kernel_rfl⟩
      | 1, hj => cases hj; exact ⟨by kernel_rfl, by kernel_rfl, by kernel_rfl⟩
      | j + 2, hj => have : (match Tryz.prog.underlying 105 with | some (.struct fs) => fs | _ => #[]).size = 2 := by kernel_rfl
                     rw [Array.getElem?_eq_none (by rw [this]; omega)] at hj; cases hj) (by kernel_rfl) he
    rw [this, Nat.zero_add]; rfl)
  rw [← List.range_eq_range'] at hcs
  unfold World.var? at hv
  rw [hg] at hv
  simp only [Option.bind_some] at hv
  split at hv
  · rename_i c1 t1 f1 hh
    cases hv
    refine ⟨(Array.getElem?_eq_some_iff.1 hh).1, t1, f1, ?_⟩
    rw [hh, ← hcs]
  · cases hv
/-- What the row lists is what the walks ask for. -/
theorem known {W : World} {a b : String × DataW Unit} (h : laidMet Tryz.prog [a, b, ("internal/strconv.uint64pow10", Rows.laid_internal_strconv_uint64pow10), ("unicode/utf8.acceptRanges", Rows.laid_unicode_utf8_acceptRanges), ("strconv.ErrRange", Rows.laid_strconv_ErrRange), ("strconv.ErrSyntax", Rows.laid_strconv_ErrSyntax), ("unicode/utf8.first", Rows.laid_unicode_utf8_first)] W) (hs : W.ShapedOpen Tryz.prog) : Laid W W.heap.size := by
  have e0 : (Rows.laid_unicode_utf8_first : DataW Unit) = Lib.tabData .u8 Lib.firstTab := by kernel_rfl
  have e1 : (Rows.laid_unicode_utf8_acceptRanges : DataW Unit) = Lib.acceptData := by kernel_rfl
  have e2 : (Rows.laid_internal_strconv_uint64pow10 : DataW Unit) = Lib.tabData .u64 Lib.pow10Tab := by kernel_rfl
  have k0 := laid_tab (g := 0) (n := 256) (by kernel_rfl) (t := 103) (e := 5) (by kernel_rfl) (by kernel_rfl) (by kernel_rfl) (by kernel_rfl) (by kernel_rfl) (e0 ▸ Lib.laidMet.reads h (n := "unicode/utf8.first") (d := Rows.laid_unicode_utf8_first) (by simp))
  have k1 := laid_acc (e1 ▸ Lib.laidMet.reads h (n := "unicode/utf8.acceptRanges") (d := Rows.laid_unicode_utf8_acceptRanges) (by simp))
  have k2 := laid_tab (g := 3) (n := 20) (by kernel_rfl) (t := 139) (e := 124) (by kernel_rfl) (by kernel_rfl) (by kernel_rfl) (by kernel_rfl) (by kernel_rfl) (e2 ▸ Lib.laidMet.reads h (n := "internal/strconv.uint64pow10") (d := Rows.laid_internal_strconv_uint64pow10) (by simp))
  have h3 := h.tail.tail.tail.tail
  have h4 := h3.tail
  obtain ⟨a4, s4, v4, _⟩ := laid_sentinel (g := 4) (ti := 65) (tp := 149) (te := 151) (ts := 9) h4 (by kernel_rfl) (by kernel_rfl) Tryz.underlying65 rowErr Tryz.underlying149 Tryz.underlying151 rfl rfl Tryz.underlying9 cells126 cells9
  obtain ⟨a3, s3, v3, _⟩ := laid_sentinel (g := 5) (ti := 65) (tp := 149) (te := 151) (ts := 9) h3 (by kernel_rfl) (by kernel_rfl) Tryz.underlying65 rowErr Tryz.underlying149 Tryz.underlying151 rfl rfl Tryz.underlying9 cells126 cells9
  have c4 : W.cell? ⟨4, 0, none⟩ = some (.iface 149 (.pointer (some a4))) := by simpa using World.var?_cell (g := 4) (by kernel_rfl) v4 0
  have c3 : W.cell? ⟨5, 0, none⟩ = some (.iface 149 (.pointer (some a3))) := by simpa using World.var?_cell (g := 5) (by kernel_rfl) v3 0
  refine ⟨fun p hp => ?_, fun g hg => ?_, fun g hg => ?_⟩
  · simp only [seatCells, List.mem_cons, List.mem_nil_iff, or_false] at hp
    rcases hp with rfl | rfl | rfl
    · exact k0
    · exact k1
    · exact k2
  · simp [seatInts] at hg
  · simp only [seatIfs, List.mem_cons, List.mem_nil_iff, or_false] at hg
    rcases hg with rfl | rfl
    · exact ⟨lt_cell c4, _, _, c4⟩
    · exact ⟨lt_cell c3, _, _, c3⟩
end Go.Proofs.YtgmejigjajcbfaaGreatDoor
