import Derived.Test.YtgmejigjajcbfaaGreatDoorSF
import Derived.Lib.MapLaws
import Derived.Laws.RangeString
import Derived.Test.YtgmejigjajcbfaaGreatDoorD52
import Derived.Test.YtgmejigjajcbfaaGreatDoorRows
import Derived.Shelf.Vars
import Derived.Lay
import Derived.Stop.Joined
import Derived.Stop.LaidErr
set_option linter.unusedVariables false
set_option linter.unusedSimpArgs false
namespace Go.Proofs.YtgmejigjajcbfaaGreatDoor
open Go Go.Det Go.RowKit
theorem w64 {x : Int} (h1 : -9223372036854775808 ≤ x) (h2 : x ≤ 9223372036854775807) : IntKind.i64.wrap x = x := by rw [IntKind.wrap_i64]; omega
/-! The runes of a text -/
theorem decL_eq (s : List UInt8) (p : Nat) : decL s p = ((Lib.decodeL (s.drop p)).1 : Int) := by
  have := Lib.decodeL_drop (bs s) p
  unfold decL; rw [← this]
theorem decN_eq (s : List UInt8) (p : Nat) : decN s p = (Lib.decodeL (s.drop p)).2 := by
  have := Lib.decodeL_drop (bs s) p
  unfold decN; rw [← this]
theorem go_eq {l : List UInt8} (h : l ≠ []) : Lib.decodeGo (bs l) = Lib.decodeL l := by
  unfold Lib.decodeGo
  rw [if_neg (by intro q; exact h (List.length_eq_zero_iff.1 q))]
  exact (Lib.decodeL_drop (bs l) 0).symm
theorem enA (r : Nat) (v : Utf8.valid (r : Int) = true) (c1 : r < 128) : (Utf8.encode (r : Int)).data.toList = List.map (fun x => x.toNat.toUInt8) [(r : Int)] := by simp [Utf8.encode, v, c1]
theorem enB (r : Nat) (v : Utf8.valid (r : Int) = true) (c1 : ¬ r < 128) (c2 : r < 2048) : (Utf8.encode (r : Int)).data.toList = List.map (fun x => x.toNat.toUInt8) [192 + (r : Int) / 64, 128 + (r : Int) % 64] := by
  have e1 : (192 + (r : Int) / 64).toNat = 192 + r / 64 := by omega
  have e2 : (128 + (r : Int) % 64).toNat = 128 + r % 64 := by omega
  simp [Utf8.encode, v, c1, c2, e1, e2]
theorem enC (r : Nat) (v : Utf8.valid (r : Int) = true) (c1 : ¬ r < 128) (c2 : ¬ r < 2048) (c3 : r < 65536) : (Utf8.encode (r : Int)).data.toList = List.map (fun x => x.toNat.toUInt8) [224 + (r : Int) / 4096, 128 + (r : Int) / 64 % 64, 128 + (r : Int) % 64] := by
  have e1 : (224 + (r : Int) / 4096).toNat = 224 + r / 4096 := by omega
  have e2 : (128 + (r : Int) / 64 % 64).toNat = 128 + r / 64 % 64 := by omega
  have e3 : (128 + (r : Int) % 64).toNat = 128 + r % 64 := by omega
  simp [Utf8.encode, v, c1, c2, c3, e1, e2, e3]
theorem enD (r : Nat) (v : Utf8.valid (r : Int) = true) (c1 : ¬ r < 128) (c2 : ¬ r < 2048) (c3 : ¬ r < 65536) : (Utf8.encode (r : Int)).data.toList = List.map (fun x => x.toNat.toUInt8) [240 + (r : Int) / 262144, 128 + (r : Int) / 4096 % 64, 128 + (r : Int) / 64 % 64, 128 + (r : Int) % 64] := by
  have e0 : (240 + (r : Int) / 262144).toNat = 240 + r / 262144 := by omega
  have e1 : (128 + (r : Int) / 4096 % 64).toNat = 128 + r / 4096 % 64 := by omega
  have e2 : (128 + (r : Int) / 64 % 64).toNat = 128 + r / 64 % 64 := by omega
  have e3 : (128 + (r : Int) % 64).toNat = 128 + r % 64 := by omega
  simp [Utf8.encode, v, c1, c2, c3, e0, e1, e2, e3]
theorem encR_of {n : Int} {l : List UInt8} (h : (Utf8.encode n).data.toList = l) : encR n = l := h
theorem rune_of {n : Int} {z : List Int} (h : Lib.encodeRuneZ n = z) : Lib.encodeRune n = List.map (fun x => x.toNat.toUInt8) z := by subst h; rfl
theorem encR_enc (r : Nat) (h : r < 55296 ∨ 57344 ≤ r ∧ r ≤ 1114111) : encR (r : Int) = Lib.encodeRune (r : Int) := by
  have v : Utf8.valid (r : Int) = true := by simp [Utf8.valid]; omega
  have key : ∀ l, Lib.encodeRuneZ (r : Int) = l → (Utf8.encode (r : Int)).data.toList = List.map (fun x => x.toNat.toUInt8) l → encR (r : Int) = Lib.encodeRune (r : Int) := fun l e1 e2 => (encR_of e2).trans (rune_of e1).symm
  by_cases c1 : r < 128
  · exact key _ (Lib.encodeRuneZ_one (by omega) (by omega)) (enA r v c1)
  · by_cases c2 : r < 2048
    · exact key _ (Lib.encodeRuneZ_two (by omega) (by omega)) (enB r v c1 c2)
    · by_cases c3 : r < 65536
      · exact key _ (Lib.encodeRuneZ_three (by omega)) (enC r v c1 c2 c3)
      · exact key _ (Lib.encodeRuneZ_four (by omega) (by omega)) (enD r v c1 c2 c3)
/-- How a text that is not empty begins. -/
inductive Sh (b : UInt8) (t : List UInt8) : Prop where
  | a (h : b.toNat < 128) (e : Lib.decodeL (b :: t) = (b.toNat, 1))
  | b (r n : Nat) (h : 194 ≤ b.toNat) (e : Lib.decodeL (b :: t) = (r, n)) (h1 : 2 ≤ n) (h2 : n ≤ 4) (h3 : n ≤ (b :: t).length) (h4 : 128 ≤ r) (h5 : r ≤ 1114111) (h6 : r < 160 → n = 2 ∧ ∃ c u, t = c :: u ∧ 128 ≤ c.toNat ∧ c.toNat < 160) (h7 : encR (r : Int) = (b :: t).take n) (h8 : Lib.runeLen (r : Int) = n)
  | c (h : 128 ≤ b.toNat) (e : Lib.decodeL (b :: t) = (65533, 1)) (h1 : (b :: t).take 3 ≠ [239, 191, 189])
theorem shape (b : UInt8) (t : List UInt8) : Sh b t := by
  have k0 := b.toNat_lt
  have hb0 : ((b :: t).getD 0 0).toNat = b.toNat := rfl
  have hlen : (b :: t).length = t.length + 1 := rfl
  have k1 := ((b :: t).getD 1 0).toNat_lt
  have k2 := ((b :: t).getD 2 0).toNat_lt
  have k3 := ((b :: t).getD 3 0).toNat_lt
  have hN := Lib.decodeL_N (b :: t)
  have hle := Lib.decodeL_le (b :: t) (by simp)
  have hsh := Lib.decodeN_shape (b :: t).length ((b :: t).getD 0 0).toNat ((b :: t).getD 1 0).toNat ((b :: t).getD 2 0).toNat ((b :: t).getD 3 0).toNat
  rw [hb0] at hN hsh
  have enc : ∀ r n, Lib.decodeL (b :: t) = (r, n) → ¬ (r = 65533 ∧ n = 1) → (r < 55296 ∨ 57344 ≤ r ∧ r ≤ 1114111) → encR (r : Int) = (b :: t).take n := by
    intro r n e hv hr
    rw [encR_enc r hr]
    have := Lib.encode_decode (b :: t) (by simp) (by rw [e]; exact hv)
    rw [e] at this; exact this
  have rl : ∀ r n : Nat, Lib.decodeL (b :: t) = (r, n) → r ≠ 65533 → Lib.runeLen (r : Int) = n := by
    intro r n e hr
    have := Lib.runeLen_decode (b :: t) (by rw [e]; exact hr)
    rw [e] at this; exact this
  rcases hsh with ⟨c, e⟩ | ⟨c1, c2, c3, cv, e⟩ | ⟨c1, c2, c3, c4, cv, cs, e⟩ | ⟨c1, c2, c3, c4, c5, cv, cw, e⟩ | e
  · exact .a c (by rw [hN, e])
  · have e' := hN.trans e
    refine .b _ 2 (by omega) e' (by omega) (by omega) (by omega) (by omega) (by omega) (fun q => ⟨rfl, ?_⟩) (enc _ _ e' (by omega) (by omega)) (rl _ _ e' (by omega))
    cases t with
    | nil => simp at c2
    | cons c u =>
      have : ((b :: c :: u).getD 1 0).toNat = c.toNat := rfl
      rw [this] at c3 cv q
      exact ⟨c, u, rfl, by omega, by omega⟩
  · have e' := hN.trans e
    refine .b _ 3 (by omega) e' (by omega) (by omega) (by omega) (by omega) (by omega) (fun q => by omega) (enc _ _ e' (by omega) (by omega)) ?_
    unfold Lib.runeLen
    repeat' split
    all_goals omega
  · have e' := hN.trans e
    refine .b _ 4 (by omega) e' (by omega) (by omega) (by omega) (by omega) (by omega) (fun q => by omega) (enc _ _ e' (by omega) (by omega)) (rl _ _ e' (by omega))
  · have e' := hN.trans e
    by_cases h : b.toNat < 128
    · have := Lib.decodeN_ascii (b :: t).length b.toNat ((b :: t).getD 1 0).toNat ((b :: t).getD 2 0).toNat ((b :: t).getD 3 0).toNat h
      exact .a h (by rw [hN, this])
    · refine .c (by omega) e' fun q => ?_
      rcases t with _ | ⟨c, _ | ⟨d, u⟩⟩
      · simp at q
      · simp at q
      · simp only [List.take_succ_cons, List.take_zero, List.cons.injEq, and_true] at q
        obtain ⟨rfl, rfl, rfl⟩ := q
        have h1 : Lib.decodeL (239 :: 191 :: 189 :: u) = (65533, 3) := by
          rw [Lib.decodeL_N]
          show Lib.decodeN (u.length + 3) 239 191 189 _ = _
          unfold Lib.decodeN
          simp
        rw [e'] at h1; cases h1
/-- The length of the rune from 160 on with which a text begins. -/
def longS : List UInt8 → Nat
  | [] => 0
  | b :: t => if 160 ≤ (Lib.decodeL (b :: t)).1 ∧ 2 ≤ (Lib.decodeL (b :: t)).2 then (Lib.decodeL (b :: t)).2 else 0
theorem sub_to {l : List UInt8} {n : Nat} (h : n ≤ l.length) : sub l 0 (n : Int) = some (l.take n) := by
  unfold sub
  rw [if_pos ⟨by omega, by omega, by omega⟩]
  simp
theorem f40_eq (k : Nat) (l : List UInt8) : f40 (k + 1) l = some (longS l : Int) := by
  unfold f40
  rw [f40_l1]
  cases l with
  | nil => rfl
  | cons b t =>
    rw [if_pos (by simp)]
    simp only [decL_eq, List.drop_zero, Option.bind_some]
    cases shape b t with
    | a h e =>
      rw [e]
      rw [if_neg (by simp only; omega)]
      simp only [longS, e, Option.bind_some]
      rw [if_neg (by omega)]; rfl
    | b r n h e h1 h2 h3 h4 h5 h6 h7 h8 =>
      rw [e]
      simp only [longS, e]
      by_cases q : 160 ≤ r
      · rw [if_pos (by omega), h7, List.length_take, Nat.min_eq_left h3, if_pos (by omega), sub_to h3]
        simp only [Option.bind_some, if_true]
        rw [if_pos ⟨q, h1⟩]
      · rw [if_neg (by omega), if_neg (by omega)]; rfl
    | c h e h1 =>
      rw [e]
      simp only [longS, e]
      rw [if_pos (show ((65533 : Nat) : Int) ≥ 160 by omega), if_neg (show ¬ (160 ≤ 65533 ∧ 2 ≤ 1) by omega)]
      have e3 : encR ((65533 : Nat) : Int) = [239, 191, 189] := rfl
      rw [e3]
      by_cases q : (([239, 191, 189] : List UInt8).length : Int) ≤ ((b :: t).length : Int)
      · rw [if_pos q]
        have hl : 3 ≤ (b :: t).length := by simp only [List.length_cons, List.length_nil] at q ⊢; omega
        rw [show ((([239, 191, 189] : List UInt8).length : Nat) : Int) = ((3 : Nat) : Int) from rfl, sub_to hl]
        simp only [Option.bind_some]
        rw [if_neg h1]; rfl
      · rw [if_neg q]; rfl
/-! Quoting -/
def hexS : List UInt8 := [48, 49, 50, 51, 52, 53, 54, 55, 56, 57, 97, 98, 99, 100, 101, 102]
def hexB (b : UInt8) : List UInt8 := [92, 120, hexS.getD (b.toNat / 16) 0, hexS.getD (b.toNat % 16) 0]
def escB (b : UInt8) : List UInt8 := if b.toNat = 34 ∨ b.toNat = 92 then [92, b] else if 32 ≤ b.toNat ∧ b.toNat ≤ 126 then [b] else hexB b
def qS : Nat → List UInt8 → List UInt8
  | 0, _ => []
  | _, [] => []
  | n + 1, b :: t => if 0 < longS (b :: t) then (b :: t).take (longS (b :: t)) ++ qS n ((b :: t).drop (longS (b :: t))) else escB b ++ qS n t
theorem all256 {P : Nat → Bool} (h : (List.range 256).all P = true) (b : UInt8) : P b.toNat = true :=
  List.all_eq_true.1 h _ (List.mem_range.2 b.toNat_lt)
theorem hx1 (b : UInt8) : sub ([48, 49, 50, 51, 52, 53, 54, 55, 56, 57, 97, 98, 99, 100, 101, 102] : List UInt8) (IntKind.u8.wrap (((b.toNat : Nat) : Int).tdiv 16)) (IntKind.u8.wrap ((IntKind.u8.wrap (((b.toNat : Nat) : Int).tdiv 16)) + 1)) = some [hexS.getD (b.toNat / 16) 0] :=
  of_decide_eq_true (all256 (P := fun x => decide (sub ([48, 49, 50, 51, 52, 53, 54, 55, 56, 57, 97, 98, 99, 100, 101, 102] : List UInt8) (IntKind.u8.wrap (((x : Nat) : Int).tdiv 16)) (IntKind.u8.wrap ((IntKind.u8.wrap (((x : Nat) : Int).tdiv 16)) + 1)) = some [hexS.getD (x / 16) 0])) (by kernel_rfl) b)
theorem hx2 (b : UInt8) : sub ([48, 49, 50, 51, 52, 53, 54, 55, 56, 57, 97, 98, 99, 100, 101, 102] : List UInt8) (((b.toNat : Nat) : Int).tmod 16) (IntKind.u8.wrap ((((b.toNat : Nat) : Int).tmod 16) + 1)) = some [hexS.getD (b.toNat % 16) 0] :=
  of_decide_eq_true (all256 (P := fun x => decide (sub ([48, 49, 50, 51, 52, 53, 54, 55, 56, 57, 97, 98, 99, 100, 101, 102] : List UInt8) (((x : Nat) : Int).tmod 16) (IntKind.u8.wrap ((((x : Nat) : Int).tmod 16) + 1)) = some [hexS.getD (x % 16) 0])) (by kernel_rfl) b)
theorem hx3 (b : UInt8) : sub ([48, 49, 50, 51, 52, 53, 54, 55, 56, 57, 97, 98, 99, 100, 101, 102] : List UInt8) (gshr .u8 ((b.toNat : Nat) : Int) 4) (IntKind.u8.wrap ((gshr .u8 ((b.toNat : Nat) : Int) 4) + 1)) = some [hexS.getD (b.toNat / 16) 0] :=
  of_decide_eq_true (all256 (P := fun x => decide (sub ([48, 49, 50, 51, 52, 53, 54, 55, 56, 57, 97, 98, 99, 100, 101, 102] : List UInt8) (gshr .u8 ((x : Nat) : Int) 4) (IntKind.u8.wrap ((gshr .u8 ((x : Nat) : Int) 4) + 1)) = some [hexS.getD (x / 16) 0])) (by kernel_rfl) b)
theorem hx4 (b : UInt8) : sub ([48, 49, 50, 51, 52, 53, 54, 55, 56, 57, 97, 98, 99, 100, 101, 102] : List UInt8) (bits .and .u8 ((b.toNat : Nat) : Int) 15) (IntKind.u8.wrap ((bits .and .u8 ((b.toNat : Nat) : Int) 15) + 1)) = some [hexS.getD (b.toNat % 16) 0] :=
  of_decide_eq_true (all256 (P := fun x => decide (sub ([48, 49, 50, 51, 52, 53, 54, 55, 56, 57, 97, 98, 99, 100, 101, 102] : List UInt8) (bits .and .u8 ((x : Nat) : Int) 15) (IntKind.u8.wrap ((bits .and .u8 ((x : Nat) : Int) 15) + 1)) = some [hexS.getD (x % 16) 0])) (by kernel_rfl) b)
theorem sub_all {s : List UInt8} {p : Nat} (h : p ≤ s.length) : sub s (p : Int) (s.length : Int) = some (s.drop p) := by
  unfold sub
  rw [if_pos ⟨by omega, by omega, by omega⟩]
  simp only [Int.toNat_natCast]
  rw [List.take_of_length_le (by rw [List.length_drop]; omega)]
theorem sub_mid {s : List UInt8} {p n : Nat} (h : p + n ≤ s.length) : sub s (p : Int) ((p + n : Nat) : Int) = some ((s.drop p).take n) := by
  unfold sub
  rw [if_pos ⟨by omega, by omega, by omega⟩]
  simp only [Int.toNat_natCast]
  rw [Nat.add_sub_cancel_left]
theorem wr64 {p n : Nat} (h : p + n < 1000000) : IntKind.i64.wrap ((p : Int) + (n : Int)) = ((p + n : Nat) : Int) := by
  rw [w64 (by omega) (by omega)]; omega
theorem sc {a b : List UInt8} (h : a.length + b.length < 1000000) : scat a b = some (a ++ b) := if_pos (by omega)
theorem ap1 {α : Type} {a b : List α} (h : a.length + b.length < 1000000) : apd 1 a b = some (a ++ b) := if_pos (by omega)
theorem f41_eq (x : Int) : f41 x = some (decide (32 ≤ x ∧ x ≤ 126 ∧ x ≠ 34 ∧ x ≠ 92)) := by
  unfold f41
  simp only [Option.bind_some, ge_iff_le]
  split
  · split
    · split
      · simp; omega
      · congr 1
        rw [Bool.eq_iff_iff]
        simp; omega
    · simp; omega
  · simp; omega
theorem longS_le (b : UInt8) (t : List UInt8) : longS (b :: t) ≤ (b :: t).length := by
  have := Lib.decodeL_le (b :: t) (by simp)
  simp only [longS]
  split <;> omega
theorem escB_len (b : UInt8) : (escB b).length ≤ 4 := by
  unfold escB hexB
  repeat' split
  all_goals simp
theorem f15_loop (s : List UInt8) (hs : s.length ≤ 300) : ∀ (n : Nat) (acc : List UInt8) (p : Nat), p ≤ s.length → s.length < n + p → acc.length ≤ 1 + 4 * p → f15_l1 2000 s n acc (p : Int) = some (acc ++ qS n (s.drop p))
  | 0, acc, p, h1, h2, h3 => by omega
  | n + 1, acc, p, h1, h2, h3 => by
    rw [f15_l1]
    by_cases hp : p < s.length
    · rw [if_pos (by omega)]
      obtain ⟨b, hb⟩ : ∃ b, s[p]? = some b := ⟨s[p], List.getElem?_eq_getElem hp⟩
      have hd : s.drop p = b :: s.drop (p + 1) := by
        obtain ⟨hl, e⟩ := List.getElem?_eq_some_iff.1 hb
        rw [List.drop_eq_getElem_cons hl, e]
      have hlen : (b :: s.drop (p + 1)).length = s.length - p := by rw [← hd, List.length_drop]
      have hL := longS_le b (s.drop (p + 1))
      rw [sub_all h1]
      simp only [Option.bind_some]
      rw [f40_eq 1999, hd]
      simp only [Option.bind_some, qS]
      by_cases q : 0 < longS (b :: s.drop (p + 1))
      · rw [if_pos (by omega), if_pos q, wr64 (by omega), sub_mid (by omega), hd]
        simp only [Option.bind_some]
        rw [sc (by rw [List.length_take]; omega)]
        simp only [Option.bind_some]
        rw [f15_loop s hs n _ (p + longS (b :: s.drop (p + 1))) (by omega) (by omega) (by rw [List.length_append, List.length_take]; omega), ← hd, List.drop_drop, hd, List.append_assoc]
      · rw [if_neg (by omega), if_neg q]
        have hr : rd s (p : Int) = some b := by rw [rd_nat]; exact hb
        have h1' : IntKind.i64.wrap ((p : Int) + 1) = ((p + 1 : Nat) : Int) := wr64 (n := 1) (by omega)
        have hs1 : sub s (p : Int) ((p + 1 : Nat) : Int) = some [b] := by rw [sub_mid (by omega), hd]; rfl
        have hfin : ∀ e : List UInt8, e = escB b → f15_l1 2000 s n (acc ++ e) ((p + 1 : Nat) : Int) = some (acc ++ (escB b ++ qS n (s.drop (p + 1)))) := by
          rintro e rfl
          have := escB_len b
          rw [f15_loop s hs n _ (p + 1) (by omega) (by omega) (by rw [List.length_append]; omega), List.append_assoc]
        simp only [hr, Option.bind_some, h1', hs1, f41_eq, hx1, hx2]
        have hb256 := b.toNat_lt
        by_cases q1 : b.toNat = 34
        · rw [if_pos (by omega), sc (by simp; omega)]
          simp only [Option.bind_some]
          rw [sc (by simp; omega)]
          simp only [Option.bind_some, List.append_assoc]
          exact hfin _ (by unfold escB; rw [if_pos (.inl q1)]; rfl)
        · rw [if_neg (by omega)]
          by_cases q2 : b.toNat = 92
          · rw [if_pos (by omega), sc (by simp; omega)]
            simp only [Option.bind_some]
            rw [sc (by simp; omega)]
            simp only [Option.bind_some, List.append_assoc]
            exact hfin _ (by unfold escB; rw [if_pos (.inr q2)]; rfl)
          · rw [if_neg (by omega)]
            by_cases q3 : 32 ≤ b.toNat ∧ b.toNat ≤ 126
            · rw [if_pos (by rw [decide_eq_true_eq]; omega), sc (by simp; omega)]
              simp only [Option.bind_some]
              exact hfin _ (by unfold escB; rw [if_neg (by omega), if_pos q3])
            · rw [if_neg (by rw [decide_eq_true_eq]; omega), sc (by simp; omega)]
              simp only [Option.bind_some]
              rw [sc (by simp; omega)]
              simp only [Option.bind_some]
              rw [sc (by simp; omega)]
              simp only [Option.bind_some, List.append_assoc]
              exact hfin _ (by unfold escB hexB; rw [if_neg (by omega), if_neg q3]; rfl)
    · rw [if_neg (by omega)]
      rw [List.drop_eq_nil_of_le (by omega)]
      simp [qS]
theorem qS_len : ∀ (n : Nat) (l : List UInt8), (qS n l).length ≤ 4 * l.length
  | 0, l => by simp [qS]
  | n + 1, [] => by simp [qS]
  | n + 1, b :: t => by
    have hL := longS_le b t
    simp only [qS]
    split
    · have := qS_len n ((b :: t).drop (longS (b :: t)))
      rw [List.length_append, List.length_take]
      rw [List.length_drop] at this
      omega
    · have := qS_len n t
      have := escB_len b
      rw [List.length_append, List.length_cons]
      omega
theorem f15_eq {s : List UInt8} (hs : s.length ≤ 300) : f15 2000 s = some ([34] ++ qS 2000 s ++ [34]) := by
  unfold f15
  have := f15_loop s hs 2000 [34] 0 (by omega) (by omega) (by simp)
  rw [show ((0 : Nat) : Int) = 0 from rfl] at this
  rw [this, List.drop_zero]
  simp only [Option.bind_some]
  have h := qS_len 2000 s
  rw [sc (by simp; omega)]; rfl
/-! The program's own -/
theorem f34_eq (r : Nat) : f34 (r : Int) = some (Lib.runeLen (r : Int)) := by
  unfold f34 Lib.runeLen
  repeat' split
  all_goals first | rfl | (exfalso; omega) | skip
theorem f37_eq (r n : Int) : f37 r n = some (decide (r ≠ 34 ∧ r ≠ 92 ∧ (n = 1 → 32 ≤ r ∧ r ≤ 126) ∧ (n ≠ 1 → 160 ≤ r))) := by
  unfold f37
  simp only [Option.bind_some, ge_iff_le]
  repeat' split
  all_goals first | (simp; omega) | (congr 1; rw [Bool.eq_iff_iff]; simp; omega)
theorem ne8_of {l : List UInt8} (h : l ≠ []) : ne8 l = some (l.map fun u => ((u.toNat : Nat) : Int)) := if_neg h
theorem f14_hex (l : List UInt8) (p : Nat) (hl : l.length ≤ 10) : ∀ (n : Nat) (acc : List UInt8) (i : Nat), i ≤ l.length → l.length < n + i → acc.length ≤ 5000 + 4 * i → f14_l2 (l.map fun u => ((u.toNat : Nat) : Int)) n acc (i : Int) p = some (acc ++ (l.drop i).flatMap hexB, p)
  | 0, acc, i, h1, h2, h3 => by omega
  | n + 1, acc, i, h1, h2, h3 => by
    rw [f14_l2]
    simp only [Option.bind_some, List.length_map]
    by_cases hi : i < l.length
    · rw [if_pos (by simpa using hi)]
      obtain ⟨b, hb⟩ : ∃ b, l[i]? = some b := ⟨l[i], List.getElem?_eq_getElem hi⟩
      have hd : l.drop i = b :: l.drop (i + 1) := by
        obtain ⟨hl, e⟩ := List.getElem?_eq_some_iff.1 hb
        rw [List.drop_eq_getElem_cons hl, e]
      have hr : rd (l.map fun u => ((u.toNat : Nat) : Int)) (i : Int) = some ((b.toNat : Nat) : Int) := by rw [rd_nat, List.getElem?_map, hb]; rfl
      rw [hr]
      simp only [Option.bind_some, hx3, hx4]
      rw [sc (by simp)]
      simp only [Option.bind_some]
      rw [sc (by simp)]
      simp only [Option.bind_some]
      rw [ap1 (by simp; omega)]
      simp only [Option.bind_some]
      rw [show IntKind.i64.wrap ((i : Int) + 1) = ((i + 1 : Nat) : Int) from wr64 (n := 1) (by omega)]
      rw [f14_hex l p hl n _ (i + 1) (by omega) (by omega) (by simp; omega), hd]
      simp [hexB]
    · rw [if_neg (by simpa using hi), List.drop_eq_nil_of_le (by omega)]
      simp
theorem qS_fuel : ∀ (n m : Nat) (l : List UInt8), l.length ≤ n → l.length ≤ m → qS n l = qS m l
  | 0, m, l, h1, h2 => by
    have : l = [] := List.length_eq_zero_iff.1 (by omega)
    subst this
    cases m <;> rfl
  | n + 1, 0, l, h1, h2 => by
    have : l = [] := List.length_eq_zero_iff.1 (by omega)
    subst this; rfl
  | n + 1, m + 1, [], h1, h2 => rfl
  | n + 1, m + 1, b :: t, h1, h2 => by
    simp only [List.length_cons] at h1 h2
    simp only [qS]
    split
    · rw [qS_fuel n m _ (by rw [List.length_drop, List.length_cons]; omega) (by rw [List.length_drop, List.length_cons]; omega)]
    · rw [qS_fuel n m _ (by omega) (by omega)]
theorem qS_cons {b : UInt8} {t : List UInt8} (h : t.length < 1999) : qS 2000 (b :: t) = if 0 < longS (b :: t) then (b :: t).take (longS (b :: t)) ++ qS 2000 ((b :: t).drop (longS (b :: t))) else escB b ++ qS 2000 t := by
  rw [show qS 2000 (b :: t) = if 0 < longS (b :: t) then (b :: t).take (longS (b :: t)) ++ qS 1999 ((b :: t).drop (longS (b :: t))) else escB b ++ qS 1999 t from rfl]
  split
  · rw [qS_fuel 1999 2000 _ (by rw [List.length_drop, List.length_cons]; omega) (by rw [List.length_drop, List.length_cons]; omega)]
  · rw [qS_fuel 1999 2000 _ (by omega) (by omega)]
theorem c7_of {b : UInt8} (h : b.toNat < 128) : c7 ((b.toNat : Nat) : Int) = some b := by
  unfold c7
  rw [if_pos (by omega)]
  simp
theorem f35_of {l : List UInt8} (h : l ≠ []) : f35 l = some (((Lib.decodeL l).1 : Int), ((Lib.decodeL l).2 : Int)) := by
  unfold f35; rw [go_eq h]
theorem longS_cont {c : UInt8} {u : List UInt8} (h1 : 128 ≤ c.toNat) (h2 : c.toNat < 194) : longS (c :: u) = 0 := by
  cases shape c u with
  | a h e => omega
  | b r n h e => omega
  | c h e h1 => simp only [longS, e]; rfl
theorem f14_loop (s : List UInt8) (hs : s.length ≤ 300) : ∀ (n : Nat) (acc : List UInt8) (p : Nat), p ≤ s.length → s.length < n + p → acc.length ≤ 1 + 4 * p → f14_l1 2000 s n acc p = some (acc ++ qS 2000 (s.drop p))
  | 0, acc, p, h1, h2, h3 => by omega
  | n + 1, acc, p, h1, h2, h3 => by
    rw [f14_l1]
    by_cases hp : p < s.length
    · rw [if_pos hp]
      obtain ⟨b, hb⟩ : ∃ b, s[p]? = some b := ⟨s[p], List.getElem?_eq_getElem hp⟩
      have hd : s.drop p = b :: s.drop (p + 1) := by
        obtain ⟨hl, e⟩ := List.getElem?_eq_some_iff.1 hb
        rw [List.drop_eq_getElem_cons hl, e]
      have hlen : (b :: s.drop (p + 1)).length = s.length - p := by rw [← hd, List.length_drop]
      have hlt : (s.drop (p + 1)).length < 1999 := by rw [List.length_drop]; omega
      have hdd : ∀ m, s.drop (p + m) = (b :: s.drop (p + 1)).drop m := by intro m; rw [← hd, List.drop_drop]
      have h1' : IntKind.i64.wrap ((p : Int) + 1) = ((p + 1 : Nat) : Int) := wr64 (n := 1) (by omega)
      have hs1 : sub s (p : Int) ((p + 1 : Nat) : Int) = some [b] := by rw [sub_mid (by omega), hd]; rfl
      have hc8 : c8 92 = some 92 := rfl
      have hfin : ∀ e : List UInt8, e = escB b → longS (b :: s.drop (p + 1)) = 0 → f14_l1 2000 s n (acc ++ e) (p + 1) = some (acc ++ qS 2000 (b :: s.drop (p + 1))) := by
        rintro e rfl q
        have := escB_len b
        rw [f14_loop s hs n _ (p + 1) (by omega) (by omega) (by rw [List.length_append]; omega), qS_cons hlt, if_neg (by omega), List.append_assoc]
      simp only [decL_eq, decN_eq, hd]
      generalize hT : s.drop (p + 1) = t at *
      cases shape b t with
      | a h e =>
        have hb256 := b.toNat_lt
        have hrl : Lib.runeLen ((b.toNat : Nat) : Int) = 1 := by unfold Lib.runeLen; rw [if_neg (by omega), if_pos (by omega)]
        have hl0 : longS (b :: t) = 0 := by simp only [longS, e]; rw [if_neg (by omega)]
        simp only [e, f34_eq, hrl, Option.bind_some]
        rw [if_neg (by omega)]
        simp only [Option.bind_some, hc8, c7_of h]
        by_cases q1 : b.toNat = 34
        · rw [if_pos (by omega), ap1 (by simp; omega)]
          simp only [Option.bind_some]
          rw [ap1 (by simp; omega)]
          simp only [Option.bind_some, List.append_assoc]
          exact hfin _ (by unfold escB; rw [if_pos (.inl q1)]; rfl) hl0
        · rw [if_neg (by omega)]
          by_cases q2 : b.toNat = 92
          · rw [if_pos (by omega), ap1 (by simp; omega)]
            simp only [Option.bind_some]
            rw [ap1 (by simp; omega)]
            simp only [Option.bind_some, List.append_assoc]
            exact hfin _ (by unfold escB; rw [if_pos (.inr q2)]; rfl) hl0
          · rw [if_neg (by omega), f37_eq]
            simp only [Option.bind_some, h1', hs1]
            by_cases q3 : 32 ≤ b.toNat ∧ b.toNat ≤ 126
            · rw [if_pos (by rw [decide_eq_true_eq]; omega), ap1 (by simp; omega)]
              simp only [Option.bind_some]
              exact hfin _ (by unfold escB; rw [if_neg (by omega), if_pos q3]) hl0
            · rw [if_neg (by rw [decide_eq_true_eq]; rintro ⟨_, _, k, _⟩; have := k trivial; omega), ne8_of (by simp)]
              simp only [Option.bind_some]
              have := f14_hex [b] (p + 1) (by simp) 2000 acc 0 (by simp) (by simp) (by omega)
              rw [show ((0 : Nat) : Int) = 0 from rfl] at this
              rw [this]
              simp only [Option.bind_some]
              exact hfin _ (by unfold escB; rw [if_neg (by omega), if_neg q3]; simp) hl0
      | b r m h e h1 h2 h3 h4 h5 h6 h7 h8 =>
        simp only [e, f34_eq, h8, Option.bind_some]
        have hx : (if ((r : Nat) : Int) = 65533 then (sub s (p : Int) (s.length : Int)).bind fun s23u1 => (f35 s23u1).bind fun x => match x with | (t24u1_0, t24u1_1) => some (t24u1_1, p + m) else some (((m : Nat) : Int), p + m)) = some (((m : Nat) : Int), p + m) := by
          split
          · rw [sub_all (by omega), hd]
            simp only [Option.bind_some]
            rw [f35_of (by simp), e]; rfl
          · rfl
        rw [hx]
        simp only [Option.bind_some]
        rw [if_neg (by omega), if_neg (by omega), f37_eq]
        simp only [Option.bind_some]
        rw [wr64 (by omega), sub_mid (by omega), hd]
        by_cases q : 160 ≤ r
        · rw [if_pos (by rw [decide_eq_true_eq]; omega)]
          have hl0 : longS (b :: t) = m := by simp only [longS, e]; rw [if_pos ⟨q, h1⟩]
          simp only [Option.bind_some]
          rw [ap1 (by rw [List.length_take]; omega)]
          simp only [Option.bind_some]
          rw [f14_loop s hs n _ (p + m) (by omega) (by omega) (by rw [List.length_append, List.length_take]; omega), qS_cons hlt, hl0, if_pos (by omega), hdd m, List.append_assoc]
        · rw [if_neg (by rw [decide_eq_true_eq]; omega)]
          obtain ⟨rfl, c, u, rfl, k1, k2⟩ := h6 (by omega)
          have hb0 : longS (b :: c :: u) = 0 := by simp only [longS, e]; rw [if_neg (by omega)]
          have hc0 := longS_cont (c := c) (u := u) k1 (by omega)
          simp only [Option.bind_some, List.take_succ_cons, List.take_zero]
          rw [ne8_of (by simp)]
          simp only [Option.bind_some]
          have := f14_hex [b, c] (p + 2) (by simp) 2000 acc 0 (by simp) (by simp) (by omega)
          rw [show ((0 : Nat) : Int) = 0 from rfl] at this
          rw [this]
          simp only [Option.bind_some]
          have hb256 := b.toNat_lt
          have e1 : escB b = hexB b := by unfold escB; rw [if_neg (by omega), if_neg (by omega)]
          have e2 : escB c = hexB c := by unfold escB; rw [if_neg (by omega), if_neg (by omega)]
          have hu : u.length < 1999 := by simp at hlt; omega
          rw [f14_loop s hs n _ (p + 2) (by omega) (by omega) (by simp [hexB]; omega), qS_cons hlt, hb0, if_neg (by omega), qS_cons hu, hc0, if_neg (by omega), hdd 2, e1, e2]
          simp
      | c h e h1 =>
        have hb256 := b.toNat_lt
        have hl0 : longS (b :: t) = 0 := by simp only [longS, e]; rfl
        simp only [e, f34_eq, Option.bind_some]
        rw [if_pos (by rfl), sub_all (by omega), hd]
        simp only [Option.bind_some]
        rw [f35_of (by simp), e]
        simp only [Option.bind_some]
        rw [if_neg (by omega), if_neg (by omega), f37_eq]
        simp only [Option.bind_some]
        rw [if_neg (by rw [decide_eq_true_eq]; omega)]
        rw [show IntKind.i64.wrap ((p : Int) + ((1 : Nat) : Int)) = ((p + 1 : Nat) : Int) from h1', hs1]
        simp only [Option.bind_some]
        rw [ne8_of (by simp)]
        simp only [Option.bind_some]
        have := f14_hex [b] (p + 1) (by simp) 2000 acc 0 (by simp) (by simp) (by omega)
        rw [show ((0 : Nat) : Int) = 0 from rfl] at this
        rw [this]
        simp only [Option.bind_some]
        exact hfin _ (by unfold escB; rw [if_neg (by omega), if_neg (by omega)]; simp) hl0
    · rw [if_neg hp, List.drop_eq_nil_of_le (by omega)]
      simp [qS]
theorem f14_eq {s : List UInt8} (hs : s.length ≤ 300) : f14 2000 s = some ([34] ++ qS 2000 s ++ [34]) := by
  unfold f14
  have h34 : c8 34 = some 34 := rfl
  have hq := qS_len 2000 s
  rw [h34]
  simp only [Option.bind_some]
  rw [ap1 (by simp)]
  simp only [Option.bind_some]
  have := f14_loop s hs 2000 ([] ++ [34]) 0 (by omega) (by omega) (by simp)
  rw [this, List.drop_zero]
  simp only [Option.bind_some]
  rw [ap1 (by simp; omega)]
  simp only [Option.bind_some]
  rw [ap1 (by simp; omega)]
  simp
end Go.Proofs.YtgmejigjajcbfaaGreatDoor

set_option linter.unusedVariables false
set_option linter.unusedSimpArgs false
namespace Go.Proofs.YtgmejigjajcbfaaGreatDoor
open Go Go.Det Go.RowKit
/-! Reading what is quoted -/
def digOk (x : Nat) : Bool := match f70 (x : Int), f57 2000 (x : Int) with
  | some (v, ok), some w => if ok then decide (v = w ∧ 0 ≤ w ∧ w < 16) else decide (w < 0)
  | _, _ => false
theorem dig (b : UInt8) : ∃ v ok w, f70 ((b.toNat : Nat) : Int) = some (v, ok) ∧ f57 2000 ((b.toNat : Nat) : Int) = some w ∧ (ok = true → v = w ∧ 0 ≤ w ∧ w < 16) ∧ (ok = false → w < 0) := by
  have h : digOk b.toNat = true := all256 (P := digOk) (by kernel_rfl) b
  unfold digOk at h
  split at h
  · rename_i v ok w e1 e2
    refine ⟨v, ok, w, e1, e2, ?_, ?_⟩
    · rintro rfl; simpa using h
    · rintro rfl; simpa using h
  · cases h
def hexOk (x : Nat) : Bool := match c8 (bits .or .u8 (gshl .u8 ((x / 16 : Nat) : Int) 4) ((x % 16 : Nat) : Int)) with
  | some u => decide (b8 [IntKind.u8.wrap (IntKind.i64.wrap ((IntKind.i64.wrap (16 * ((x / 16 : Nat) : Int))) + ((x % 16 : Nat) : Int)))] = [u])
  | none => false
theorem hexv {a b : Int} (a0 : 0 ≤ a) (a1 : a < 16) (b0 : 0 ≤ b) (b1 : b < 16) : ∃ u, c8 (bits .or .u8 (gshl .u8 a 4) b) = some u ∧ b8 [IntKind.u8.wrap (IntKind.i64.wrap ((IntKind.i64.wrap (16 * a)) + b))] = [u] := by
  have hall : (List.range 256).all hexOk = true := by kernel_rfl
  have h : hexOk (16 * a.toNat + b.toNat) = true := List.all_eq_true.1 hall _ (List.mem_range.2 (by omega))
  unfold hexOk at h
  rw [show (16 * a.toNat + b.toNat) / 16 = a.toNat by omega, show (16 * a.toNat + b.toNat) % 16 = b.toNat by omega, show ((a.toNat : Nat) : Int) = a by omega, show ((b.toNat : Nat) : Int) = b by omega] at h
  split at h
  · rename_i u e
    exact ⟨u, e, of_decide_eq_true h⟩
  · cases h
theorem f56_q {c : UInt8} {u : List UInt8} (h : c.toNat = 34 ∨ c.toNat = 92) : f56 (c :: u) = some (((c.toNat : Nat) : Int), 1) := by
  unfold f56
  rw [if_neg (by simp)]
  have hr : rd (c :: u) 0 = some c := rfl
  simp only [hr, Option.bind_some]
  by_cases q : c.toNat = 34
  · rw [if_pos (by omega)]
  · rw [if_neg (by omega), if_pos (by omega)]
theorem f56_no {c : UInt8} {u : List UInt8} (h1 : c.toNat ≠ 34) (h2 : c.toNat ≠ 92) (h3 : c.toNat ≠ 120) : f56 (c :: u) = some (0, 0) := by
  unfold f56
  rw [if_neg (by simp)]
  have hr : rd (c :: u) 0 = some c := rfl
  simp only [hr, Option.bind_some]
  rw [if_neg (by omega), if_neg (by omega), if_neg (by omega)]
theorem f56_short {c : UInt8} {u : List UInt8} (h : c.toNat = 120) (hl : (c :: u).length < 3) : f56 (c :: u) = some (0, 0) := by
  unfold f56
  rw [if_neg (by simp)]
  have hr : rd (c :: u) 0 = some c := rfl
  simp only [hr, Option.bind_some]
  rw [if_neg (by omega), if_neg (by omega), if_pos (by omega), if_pos (by omega)]
theorem f56_x {c d e : UInt8} {u : List UInt8} (h : c.toNat = 120) {v1 v2 : Int} {o1 o2 : Bool} (h1 : f70 ((d.toNat : Nat) : Int) = some (v1, o1)) (h2 : f70 ((e.toNat : Nat) : Int) = some (v2, o2)) :
    f56 (c :: d :: e :: u) = some (if o1 = true ∧ o2 = true then (bits .or .u8 (gshl .u8 v1 4) v2, 3) else (0, 0)) := by
  unfold f56
  rw [if_neg (by simp)]
  have hr : rd (c :: d :: e :: u) 0 = some c := rfl
  have hr1 : rd (c :: d :: e :: u) 1 = some d := rfl
  have hr2 : rd (c :: d :: e :: u) 2 = some e := rfl
  simp only [hr, hr1, hr2, h1, h2, Option.bind_some]
  rw [if_neg (by omega), if_neg (by omega), if_pos (by omega), if_neg (by simp; omega)]
  cases o1 <;> cases o2 <;> rfl
theorem f37_1 (x : Int) : f37 x ((1 : Nat) : Int) = some (decide (32 ≤ x ∧ x ≤ 126 ∧ x ≠ 34 ∧ x ≠ 92)) := by
  rw [f37_eq]
  congr 1
  rw [Bool.eq_iff_iff]
  simp; omega
theorem f37_m {x : Int} {m : Nat} (h : m ≠ 1) (hx : 128 ≤ x) : f37 x (m : Int) = some (decide (160 ≤ x)) := by
  rw [f37_eq]
  congr 1
  rw [Bool.eq_iff_iff, decide_eq_true_eq, decide_eq_true_eq]
  constructor
  · rintro ⟨_, _, _, k⟩; exact k (by omega)
  · intro k; exact ⟨by omega, by omega, fun q => by omega, fun _ => k⟩
def ou {α : Type} : (List UInt8 × Int) ⊕ α → List UInt8 × Int
  | .inl st => st
  | .inr _ => ([], 0)
theorem unq_loop (s : List UInt8) (hs : s.length ≤ 300) : ∀ (n : Nat) (acc : List UInt8) (p : Nat), p ≤ s.length → s.length < n + p → acc.length ≤ p → ∃ x y, f31_l1 s n acc (p : Int) = some x ∧ f32_l1 2000 s n acc (p : Int) = some y ∧ ou x = ou y
  | 0, acc, p, h1, h2, h3 => by omega
  | n + 1, acc, p, h1, h2, h3 => by
    rw [f31_l1, f32_l1]
    by_cases hp : p < s.length
    · rw [if_pos (by omega), if_pos (by omega)]
      obtain ⟨b, hb⟩ : ∃ b, s[p]? = some b := ⟨s[p], List.getElem?_eq_getElem hp⟩
      have hd : s.drop p = b :: s.drop (p + 1) := by
        obtain ⟨hl, e⟩ := List.getElem?_eq_some_iff.1 hb
        rw [List.drop_eq_getElem_cons hl, e]
      have hlen : (b :: s.drop (p + 1)).length = s.length - p := by rw [← hd, List.length_drop]
      have hr : rd s (p : Int) = some b := by rw [rd_nat]; exact hb
      have h1' : IntKind.i64.wrap ((p : Int) + 1) = ((p + 1 : Nat) : Int) := wr64 (n := 1) (by omega)
      have h2' : IntKind.i64.wrap ((p : Int) + 2) = ((p + 2 : Nat) : Int) := wr64 (n := 2) (by omega)
      have h3' : IntKind.i64.wrap ((p : Int) + 3) = ((p + 3 : Nat) : Int) := wr64 (n := 3) (by omega)
      have h4' : IntKind.i64.wrap ((p : Int) + 4) = ((p + 4 : Nat) : Int) := wr64 (n := 4) (by omega)
      have hs1 : sub s (p : Int) ((p + 1 : Nat) : Int) = some [b] := by rw [sub_mid (by omega), hd]; rfl
      have hget : ∀ m, rd s ((p + 1 + m : Nat) : Int) = (s.drop (p + 1))[m]? := by intro m; rw [rd_nat, List.getElem?_drop]
      have hb256 := b.toNat_lt
      rw [sub_all h1]
      have hsa := sub_all (s := s) (p := p + 1) (by omega)
      simp only [Option.bind_some, f40_eq 1999, hd, hr, h1', h2', h3', h4', hsa, f41_eq, f35_of (List.cons_ne_nil _ _)]
      have ih := unq_loop s hs n
      generalize hT : s.drop (p + 1) = t at *
      have z0 : ¬ (((0 : Nat) : Int) > 0) := by omega
      cases shape b t with
      | a h e =>
        have hl0 : longS (b :: t) = 0 := by simp only [longS, e]; rw [if_neg (by omega)]
        simp only [e, hl0, z0, if_false, f37_1, Option.bind_some]
        by_cases q1 : b.toNat = 34
        · have c1 : ((b.toNat : Nat) : Int) = 34 := by omega
          simp only [c1, if_true]
          rw [ap1 (by simp; omega)]
          exact ⟨_, _, rfl, rfl, rfl⟩
        · have c1 : ¬ ((b.toNat : Nat) : Int) = 34 := by omega
          simp only [c1, if_false]
          by_cases q2 : b.toNat = 92
          · have c2 : ((b.toNat : Nat) : Int) = 92 := by omega
            have c3 : decide (32 ≤ ((b.toNat : Nat) : Int) ∧ ((b.toNat : Nat) : Int) ≤ 126 ∧ ((b.toNat : Nat) : Int) ≠ 34 ∧ ((b.toNat : Nat) : Int) ≠ 92) = false := by rw [decide_eq_false_iff_not]; omega
            simp only [c3, Bool.false_eq_true, if_false, c2, if_true]
            have hpl : p + 1 + t.length = s.length := by simp only [List.length_cons] at hlen; omega
            cases t with
            | nil =>
              have c4 : ((p + 1 : Nat) : Int) = (s.length : Int) := by simp at hpl; omega
              simp only [c4, if_true]
              exact ⟨_, _, rfl, rfl, rfl⟩
            | cons c u =>
              simp only [List.length_cons] at hpl
              have c4 : ¬ ((p + 1 : Nat) : Int) = (s.length : Int) := by omega
              have g0 : rd s ((p + 1 : Nat) : Int) = some c := hget 0
              have hc256 := c.toNat_lt
              simp only [c4, if_false, g0, Option.bind_some]
              have hs2 : sub s ((p + 1 : Nat) : Int) ((p + 2 : Nat) : Int) = some [c] := by
                rw [show (p + 2 : Nat) = (p + 1) + 1 from rfl, sub_mid (by omega), hT]; rfl
              have w2 : IntKind.i64.wrap ((p : Int) + IntKind.i64.wrap (1 + 1)) = ((p + 2 : Nat) : Int) := h2'
              have c8c : c8 ((c.toNat : Nat) : Int) = some c := by unfold c8; rw [if_pos (by omega)]; simp
              have n1 : ¬ ((1 : Int) = 0) := by omega
              by_cases q3 : c.toNat = 34
              · have d1 : ((c.toNat : Nat) : Int) = 34 := by omega
                rw [f56_q (.inl q3)]
                simp only [Option.bind_some, n1, if_false, c8c, w2]
                simp only [d1, if_true, hs2, Option.bind_some]
                rw [ap1 (by simp; omega), sc (by simp; omega)]
                exact ih _ (p + 2) (by omega) (by omega) (by simp; omega)
              · by_cases q4 : c.toNat = 92
                · have d1 : ¬ ((c.toNat : Nat) : Int) = 34 := by omega
                  have d2 : ((c.toNat : Nat) : Int) = 92 := by omega
                  rw [f56_q (.inr q4)]
                  simp only [Option.bind_some, n1, if_false, c8c, w2]
                  simp only [d1, if_false, d2, if_true, hs2, Option.bind_some]
                  rw [ap1 (by simp; omega), sc (by simp; omega)]
                  exact ih _ (p + 2) (by omega) (by omega) (by simp; omega)
                · have d1 : ¬ ((c.toNat : Nat) : Int) = 34 := by omega
                  have d2 : ¬ ((c.toNat : Nat) : Int) = 92 := by omega
                  simp only [d1, d2, if_false]
                  by_cases q5 : c.toNat = 120
                  · have d3 : ((c.toNat : Nat) : Int) = 120 := by omega
                    simp only [d3, if_true]
                    by_cases q6 : (c :: u).length < 3
                    · have d4 : ((p + 3 : Nat) : Int) ≥ (s.length : Int) := by simp only [List.length_cons] at q6; omega
                      rw [f56_short q5 q6]
                      simp only [d4, if_true, Option.bind_some]
                      exact ⟨_, _, rfl, rfl, rfl⟩
                    · obtain ⟨d, e', u', rfl⟩ : ∃ d e' u', u = d :: e' :: u' := by
                        rcases u with _ | ⟨d, _ | ⟨e', u'⟩⟩
                        · simp at q6
                        · simp at q6
                        · exact ⟨_, _, _, rfl⟩
                      simp only [List.length_cons] at hpl
                      have d4 : ¬ ((p + 3 : Nat) : Int) ≥ (s.length : Int) := by omega
                      have g1 : rd s ((p + 2 : Nat) : Int) = some d := hget 1
                      have g2 : rd s ((p + 3 : Nat) : Int) = some e' := hget 2
                      obtain ⟨v1, o1, w1, k1, k2, k3, k4⟩ := dig d
                      obtain ⟨v2, o2, w2', m1, m2, m3, m4⟩ := dig e'
                      rw [f56_x q5 k1 m1]
                      simp only [d4, if_false, g1, g2, k2, m2, Option.bind_some]
                      cases o1 with
                      | false =>
                        have l1 : w1 < 0 := k4 rfl
                        simp only [l1, if_true, Bool.false_eq_true, false_and, if_false]
                        exact ⟨_, _, rfl, rfl, rfl⟩
                      | true =>
                        obtain ⟨rfl, b1, b2⟩ := k3 rfl
                        have l1 : ¬ v1 < 0 := by omega
                        simp only [l1, if_false]
                        cases o2 with
                        | false =>
                          have l2 : w2' < 0 := m4 rfl
                          simp only [l2, if_true, Bool.false_eq_true, and_false, if_false]
                          exact ⟨_, _, rfl, rfl, rfl⟩
                        | true =>
                          obtain ⟨rfl, b3, b4⟩ := m3 rfl
                          have l2 : ¬ v2 < 0 := by omega
                          obtain ⟨x, x1, x2⟩ := hexv b1 b2 b3 b4
                          have n3 : ¬ ((3 : Int) = 0) := by omega
                          have w4 : IntKind.i64.wrap ((p : Int) + IntKind.i64.wrap (1 + 3)) = ((p + 4 : Nat) : Int) := h4'
                          simp only [l2, if_false, and_self, if_true, n3, x1, x2, w4, Option.bind_some]
                          rw [ap1 (by simp; omega), sc (by simp; omega)]
                          exact ih _ (p + 4) (by omega) (by omega) (by simp; omega)
                  · have d3 : ¬ ((c.toNat : Nat) : Int) = 120 := by omega
                    rw [f56_no q3 q4 q5]
                    simp only [d3, if_false, Option.bind_some]
                    exact ⟨_, _, rfl, rfl, rfl⟩
          · have c2 : ¬ ((b.toNat : Nat) : Int) = 92 := by omega
            simp only [c2, if_false]
            have w1 : IntKind.i64.wrap ((p : Int) + ((1 : Nat) : Int)) = ((p + 1 : Nat) : Int) := h1'
            simp only [w1, hs1, Option.bind_some]
            by_cases q3 : 32 ≤ b.toNat ∧ b.toNat ≤ 126
            · have c3 : decide (32 ≤ ((b.toNat : Nat) : Int) ∧ ((b.toNat : Nat) : Int) ≤ 126 ∧ ((b.toNat : Nat) : Int) ≠ 34 ∧ ((b.toNat : Nat) : Int) ≠ 92) = true := by rw [decide_eq_true_eq]; omega
              simp only [c3, if_true]
              rw [ap1 (by simp; omega), sc (by simp; omega)]
              exact ih _ (p + 1) (by omega) (by omega) (by simp; omega)
            · have c3 : decide (32 ≤ ((b.toNat : Nat) : Int) ∧ ((b.toNat : Nat) : Int) ≤ 126 ∧ ((b.toNat : Nat) : Int) ≠ 34 ∧ ((b.toNat : Nat) : Int) ≠ 92) = false := by rw [decide_eq_false_iff_not]; omega
              simp only [c3, Bool.false_eq_true, if_false]
              exact ⟨_, _, rfl, rfl, rfl⟩
      | b r m h e h1 h2 h3 h4 h5 h6 h7 h8 =>
        have c1 : ¬ ((b.toNat : Nat) : Int) = 34 := by omega
        have c2 : ¬ ((b.toNat : Nat) : Int) = 92 := by omega
        have r1 : ¬ ((r : Nat) : Int) = 34 := by omega
        have r2 : ¬ ((r : Nat) : Int) = 92 := by omega
        have c3 : decide (32 ≤ ((b.toNat : Nat) : Int) ∧ ((b.toNat : Nat) : Int) ≤ 126 ∧ ((b.toNat : Nat) : Int) ≠ 34 ∧ ((b.toNat : Nat) : Int) ≠ 92) = false := by rw [decide_eq_false_iff_not]; omega
        simp only [e, c1, c2, r1, r2, c3, if_false, Bool.false_eq_true]
        rw [f37_m (by omega) (by omega)]
        simp only [Option.bind_some]
        by_cases q : 160 ≤ r
        · have hl0 : longS (b :: t) = m := by simp only [longS, e]; rw [if_pos ⟨q, h1⟩]
          have z1 : ((m : Nat) : Int) > 0 := by omega
          have z2 : decide (160 ≤ ((r : Nat) : Int)) = true := by rw [decide_eq_true_eq]; omega
          simp only [hl0, z1, z2, if_true]
          rw [wr64 (by omega), sub_mid (by omega), hd]
          simp only [Option.bind_some]
          rw [ap1 (by rw [List.length_take]; omega), sc (by rw [List.length_take]; omega)]
          exact ih _ (p + m) (by omega) (by omega) (by rw [List.length_append, List.length_take]; omega)
        · have hl0 : longS (b :: t) = 0 := by simp only [longS, e]; rw [if_neg (by omega)]
          have z2 : decide (160 ≤ ((r : Nat) : Int)) = false := by rw [decide_eq_false_iff_not]; omega
          simp only [hl0, z0, z2, if_false, Bool.false_eq_true]
          exact ⟨_, _, rfl, rfl, rfl⟩
      | c h e h1 =>
        have hl0 : longS (b :: t) = 0 := by simp only [longS, e]; rfl
        have c1 : ¬ ((b.toNat : Nat) : Int) = 34 := by omega
        have c2 : ¬ ((b.toNat : Nat) : Int) = 92 := by omega
        have r1 : ¬ ((65533 : Nat) : Int) = 34 := by omega
        have r2 : ¬ ((65533 : Nat) : Int) = 92 := by omega
        have c3 : decide (32 ≤ ((b.toNat : Nat) : Int) ∧ ((b.toNat : Nat) : Int) ≤ 126 ∧ ((b.toNat : Nat) : Int) ≠ 34 ∧ ((b.toNat : Nat) : Int) ≠ 92) = false := by rw [decide_eq_false_iff_not]; omega
        have c5 : decide (32 ≤ ((65533 : Nat) : Int) ∧ ((65533 : Nat) : Int) ≤ 126 ∧ ((65533 : Nat) : Int) ≠ 34 ∧ ((65533 : Nat) : Int) ≠ 92) = false := by rw [decide_eq_false_iff_not]; omega
        simp only [e, hl0, z0, c1, c2, r1, r2, c3, c5, f37_1, if_false, Bool.false_eq_true, Option.bind_some]
        exact ⟨_, _, rfl, rfl, rfl⟩
    · rw [if_neg (by omega), if_neg (by omega)]
      exact ⟨_, _, rfl, rfl, rfl⟩
end Go.Proofs.YtgmejigjajcbfaaGreatDoor

set_option linter.unusedVariables false
set_option linter.unusedSimpArgs false
namespace Go.Proofs.YtgmejigjajcbfaaGreatDoor
open Go Go.Det Go.RowKit
/-! The runes of a text -/
theorem dec_asc {s : List UInt8} {p : Nat} {b : UInt8} (h : s[p]? = some b) (hb : b.toNat < 128) : decL s p = (b.toNat : Int) ∧ decN s p = 1 := by
  obtain ⟨hl, e⟩ := List.getElem?_eq_some_iff.1 h
  have h1 : p < (bs s).size := by show p < s.toArray.size; simpa using hl
  have h2 : (bs s)[p]'h1 = b := by rw [← e]; show s.toArray[p]'(by simpa using hl) = _; simp
  have h3 := decode_ascii (bs s) p h1 (by rw [h2]; exact hb)
  unfold decL decN
  rw [h3, h2]
  exact ⟨rfl, rfl⟩
theorem dec_big {s : List UInt8} {p : Nat} {b : UInt8} (h : s[p]? = some b) (hb : 128 ≤ b.toNat) : 128 ≤ decL s p := by
  obtain ⟨hl, e⟩ := List.getElem?_eq_some_iff.1 h
  have hg : ((bs s).get! (p + 0)).toNat = b.toNat := by
    rw [Nat.add_zero]
    have : (bs s).get! p = b := by
      rw [← e]
      show s.toArray[p]! = _
      rw [getElem!_pos s.toArray p (by simpa using hl)]
      simp
    rw [this]
  unfold decL Utf8.decode
  simp only [hg, Utf8.runeError]
  repeat' split
  all_goals first
    | omega
    | (simp_all; done)
    | (rename_i q; simp only [Bool.and_eq_true, decide_eq_true_eq, ge_iff_le] at q; simp only; omega)
/-! Names -/
def letB (r : Int) : Bool := decide (97 ≤ r ∧ r ≤ 122 ∨ 65 ≤ r ∧ r ≤ 90)
def goodB (r : Int) : Bool := letB r || decide (r = 45 ∨ 48 ≤ r ∧ r ≤ 57)
theorem f42_eq (r : Int) : f42 r = some (letB r) := by
  unfold f42 letB
  simp only [Option.bind_some, ge_iff_le]
  split
  · split
    · simp; omega
    · split
      · congr 1; rw [decide_eq_decide]; omega
      · simp; omega
  · split
    · congr 1; rw [decide_eq_decide]; omega
    · simp; omega
theorem f43_eq (r : Int) : f43 r = some (letB r) := f42_eq r
theorem f44_eq (r : Int) : f44 r = some (decide (48 ≤ r ∧ r ≤ 57)) := by
  unfold f44
  simp only [Option.bind_some, ge_iff_le]
  split
  · congr 1; rw [decide_eq_decide]; omega
  · simp; omega
def allG (s : List UInt8) : Bool := s.all fun b => goodB (b.toNat : Int)
theorem drop_cons {s : List UInt8} {p : Nat} {b : UInt8} (h : s[p]? = some b) : s.drop p = b :: s.drop (p + 1) := by
  obtain ⟨hl, e⟩ := List.getElem?_eq_some_iff.1 h
  rw [List.drop_eq_getElem_cons hl, e]
theorem f16_loop (s : List UInt8) : ∀ (n p : Nat), p ≤ s.length → s.length < n + p →
    f16_l1 s n p = some (if allG (s.drop p) = true ∧ (p = 0 → ∀ b, s[0]? = some b → letB (b.toNat : Int) = true) then .inr () else .inl false)
  | 0, p, h1, h2 => by omega
  | n + 1, p, h1, h2 => by
    rw [f16_l1]
    by_cases hp : p < s.length
    · rw [if_pos hp]
      obtain ⟨b, hb⟩ : ∃ b, s[p]? = some b := ⟨s[p], List.getElem?_eq_getElem hp⟩
      have hd := drop_cons hb
      have hall : allG (s.drop p) = (goodB (b.toNat : Int) && allG (s.drop (p + 1))) := by rw [hd]; rfl
      have hb256 : b.toNat < 256 := UInt8.toNat_lt b
      simp only [f42_eq, Option.bind_some]
      by_cases h7 : b.toNat < 128
      · obtain ⟨e1, e2⟩ := dec_asc hb h7
        rw [e1, e2, f16_loop s n (p + 1) (by omega) (by omega), hall]
        by_cases hL : letB (b.toNat : Int) = true
        · rw [if_pos hL]
          have hg : goodB (b.toNat : Int) = true := by unfold goodB; rw [hL]; rfl
          have h0 : (p = 0 → ∀ b, s[0]? = some b → letB (b.toNat : Int) = true) := by
            rintro rfl c hc; rw [hb] at hc; cases hc; exact hL
          simp [hg, h0]
          congr 1
          simp [h0]
          intro q; exact h0
        · rw [if_neg hL]
          by_cases hp0 : p = 0
          · subst hp0
            rw [if_pos (by simp)]
            rw [if_neg]
            rintro ⟨_, k⟩
            exact hL (k rfl b hb)
          · rw [if_neg (by omega)]
            have hgd : goodB (b.toNat : Int) = decide ((b.toNat : Int) = 45 ∨ 48 ≤ (b.toNat : Int) ∧ (b.toNat : Int) ≤ 57) := by
              unfold goodB; rw [Bool.not_eq_true] at hL; rw [hL]; rfl
            rw [hgd]
            by_cases h45 : (b.toNat : Int) = 45
            · simp [h45, hp0]
            · rw [if_neg h45]
              by_cases h48 : (b.toNat : Int) < 48
              · rw [if_pos h48, if_neg]
                rintro ⟨k, _⟩
                simp only [Bool.and_eq_true, decide_eq_true_eq] at k
                omega
              · rw [if_neg h48]
                by_cases h57 : (b.toNat : Int) > 57
                · rw [if_pos h57, if_neg]
                  rintro ⟨k, _⟩
                  simp only [Bool.and_eq_true, decide_eq_true_eq] at k
                  omega
                · rw [if_neg h57]
                  have : decide ((b.toNat : Int) = 45 ∨ 48 ≤ (b.toNat : Int) ∧ (b.toNat : Int) ≤ 57) = true := by
                    rw [decide_eq_true_eq]; omega
                  rw [this]
                  simp [hp0]
      · have e1 := dec_big hb (by omega)
        have hL : letB (decL s p) = false := by unfold letB; rw [decide_eq_false_iff_not]; omega
        have hgd : goodB (b.toNat : Int) = false := by
          unfold goodB letB
          rw [Bool.or_eq_false_iff, decide_eq_false_iff_not, decide_eq_false_iff_not]
          omega
        rw [hL, hall, hgd]
        simp only [Bool.false_eq_true, if_false, Bool.false_and, false_and]
        split
        · rfl
        · rw [if_neg (by omega), if_neg (by omega), if_pos (by omega)]
    · rw [if_neg hp]
      have : s.drop p = [] := List.drop_eq_nil_of_le (by omega)
      rw [this, if_pos]
      refine ⟨rfl, ?_⟩
      rintro rfl b hb
      have : s = [] := List.length_eq_zero_iff.1 (by omega)
      subst this
      simp at hb
theorem f17_loop (s : List UInt8) (hs : s.length ≤ 1000) : ∀ (n p : Nat), p ≤ s.length → s.length < n + p →
    f17_l1 s n (p : Int) = some (if allG (s.drop p) = true then .inr () else .inl false)
  | 0, p, h1, h2 => by omega
  | n + 1, p, h1, h2 => by
    rw [f17_l1]
    by_cases hp : p < s.length
    · rw [if_pos (by omega)]
      obtain ⟨b, hb⟩ : ∃ b, s[p]? = some b := ⟨s[p], List.getElem?_eq_getElem hp⟩
      have hd := drop_cons hb
      have hall : allG (s.drop p) = (goodB (b.toNat : Int) && allG (s.drop (p + 1))) := by rw [hd]; rfl
      have hw : IntKind.i64.wrap ((p : Int) + 1) = ((p + 1 : Nat) : Int) := by rw [w64 (by omega) (by omega)]; omega
      simp only [rd_nat, hb, Option.bind_some, f43_eq, f44_eq, hw, f17_loop s hs n (p + 1) (by omega) (by omega), hall]
      unfold goodB
      by_cases hL : letB (b.toNat : Int) = true
      · simp [hL]
      · rw [if_neg hL]
        rw [Bool.not_eq_true] at hL
        rw [hL]
        by_cases h1 : 48 ≤ (b.toNat : Int) ∧ (b.toNat : Int) ≤ 57
        · simp [h1]
        · by_cases h2 : (b.toNat : Int) = 45
          · simp [h2]
          · rw [if_neg (by simpa using h1), if_neg h2, if_neg]
            simp only [Bool.false_or, Bool.and_eq_true, decide_eq_true_eq]
            rintro ⟨q, _⟩
            omega
    · rw [if_neg (by omega)]
      have : s.drop p = [] := List.drop_eq_nil_of_le (by omega)
      rw [this]; rfl
def nameB (s : List UInt8) : Bool := decide (s ≠ [] ∧ s.length ≤ 16) && allG s && (match s with | [] => false | b :: _ => letB (b.toNat : Int))
theorem f16_eq {s : List UInt8} {k : Nat} (hs : s.length ≤ 300) (hk : 1000 ≤ k) : f16 k s = some (nameB s) := by
  unfold f16
  rw [f16_loop s k 0 (by omega) (by omega), Option.bind_some, List.drop_zero]
  unfold nameB
  cases s with
  | nil => simp [allG]
  | cons b r =>
    by_cases h1 : allG (b :: r) = true
    · by_cases h2 : letB (b.toNat : Int) = true
      · rw [if_pos ⟨h1, fun _ c hc => by simp at hc; subst hc; exact h2⟩]
        simp only [h1, h2, Option.bind_some, reduceCtorEq, if_false]
        simp; omega
      · rw [if_neg (fun q => h2 (q.2 rfl b rfl))]
        rw [Bool.not_eq_true] at h2
        simp [h2]
    · rw [if_neg (fun q => h1 q.1)]
      rw [Bool.not_eq_true] at h1
      simp [h1]
theorem f17_eq {s : List UInt8} {k : Nat} (hs : s.length ≤ 300) (hk : 1000 ≤ k) : f17 k s = some (nameB s) := by
  unfold f17 nameB
  cases s with
  | nil => simp
  | cons b r =>
    rw [if_neg (by simp; omega)]
    by_cases h16 : (((b :: r).length : Nat) : Int) > 16
    · rw [if_pos h16]
      have : ¬ (b :: r).length ≤ 16 := by omega
      simp [this]
      intro q; simp at h16; omega
    · rw [if_neg h16]
      have hl : (b :: r).length ≤ 16 := by omega
      have h0 : rd (b :: r) 0 = some b := rfl
      have hloop := f17_loop (b :: r) (by omega) k 0 (by omega) (by omega)
      rw [show ((0 : Nat) : Int) = 0 from rfl, List.drop_zero] at hloop
      simp only [h0, Option.bind_some, f43_eq, hloop]
      have hd : decide (b :: r ≠ [] ∧ (b :: r).length ≤ 16) = true := by rw [decide_eq_true_eq]; exact ⟨by simp, hl⟩
      rw [hd]
      cases letB (b.toNat : Int) <;> cases allG (b :: r) <;> rfl
/-! Together -/
theorem uq_eq {s : List UInt8} (hs : s.length ≤ 300) : ∃ a, f12 2000 s = some a ∧ f13 2000 s = some a := by
  cases s with
  | nil => exact ⟨([], 3), rfl, rfl⟩
  | cons b t =>
    have hr : rd (b :: t) 0 = some b := rfl
    have hne : ¬ (b :: t) = ([] : List UInt8) := by simp
    by_cases q : b.toNat = 34
    · have c1 : ((b.toNat : Nat) : Int) = 34 := by omega
      obtain ⟨x, y, e1, e2, e3⟩ := unq_loop (b :: t) hs 2000 [] 1 (by simp) (by omega) (by simp)
      rw [show ((1 : Nat) : Int) = 1 from rfl] at e1 e2
      have h31 : f31 2000 (b :: t) = some (ou x) := by
        unfold f31
        simp only [hne, if_false, hr, Option.bind_some, c1, if_true, e1]
        cases x <;> rfl
      have h32 : f32 2000 (b :: t) = some (ou y) := by
        unfold f32
        simp only [e2, Option.bind_some]
        cases y <;> rfl
      unfold f12 f13
      simp only [hne, if_false, hr, Option.bind_some, c1, if_true, h31, h32, e3]
      obtain ⟨a, i⟩ := ou y
      simp only
      by_cases h0 : i = 0
      · have : ¬ i = ((b :: t).length : Int) := by simp only [List.length_cons]; omega
        simp only [h0, if_true]
        rw [h0] at this
        rw [if_neg this]
        exact ⟨_, rfl, rfl⟩
      · simp only [h0, if_false]
        split <;> exact ⟨_, rfl, rfl⟩
    · have c1 : ¬ ((b.toNat : Nat) : Int) = 34 := by omega
      refine ⟨([], 3), ?_, ?_⟩
      · unfold f12 f31
        simp only [hne, if_false, hr, Option.bind_some, c1]; rfl
      · unfold f13
        simp only [hne, if_false, hr, Option.bind_some, c1]
theorem pure4 : Pure4 := by
  intro x0 x1 _ _
  refine ⟨2000, ?_⟩
  unfold f4
  have h8 : f8 = some true := rfl
  by_cases h0 : (x0.length : Int) > 300
  · rw [if_pos h0, h8]; rfl
  · rw [if_neg h0]
    by_cases h1 : (x1.length : Int) > 300
    · rw [if_pos h1, h8]; rfl
    · rw [if_neg h1]
      obtain ⟨a, e1, e2⟩ := uq_eq (s := x1) (by omega)
      have hx : x0.length ≤ 300 := by omega
      rw [e1, e2, f14_eq hx, f15_eq hx]
      simp only [Option.bind_some, if_true, f16_eq hx (k := 2000) (by omega), f17_eq hx (k := 2000) (by omega), h8, beq_self_eq_true]
end Go.Proofs.YtgmejigjajcbfaaGreatDoor

set_option linter.unusedVariables false
namespace Go.Proofs.YtgmejigjajcbfaaGreatDoor
open Go Go.Det Go.RowKit
theorem star : "*" ++ "errors.errorString" = "*errors.errorString" := by decide
theorem rowErr (u : TypeId) (h : Tryz.prog.typeName? 3 u = some "*errors.errorString") : u = 149 :=
  typeName_ptr_named (nm := "errors.errorString") (by rw [star]; kernel_rfl) (by kernel_rfl) (by decide) u (by rw [star]; exact h)
theorem cells126 : Tryz.prog.cellsOf 151 = 1 := by kernel_rfl
theorem cells9 : Tryz.prog.cellsOf 9 = 1 := by kernel_rfl
theorem lt_cell {w : World} {g : Nat} {v : Value} (h : w.cell? ⟨g, 0, none⟩ = some v) : g < w.heap.size := by
  unfold World.cell? at h
  split at h
  · rename_i hh; exact (Array.getElem?_eq_some_iff.1 hh).1
  · cases h
theorem chunks : ∀ (n s : Nat) (l : List Value), l.length = 2 * n → (∀ i, i < n → (l.drop (i * 2)).take 2 = [.int .u8 (Lib.accLo (s + i) : Int), .int .u8 (Lib.accHi (s + i) : Int)]) → l = accCells (List.range' s n)
  | 0, s, l, h, _ => by
    have : l = [] := List.length_eq_zero_iff.1 (by simpa using h)
    subst this; rfl
  | n + 1, s, l, h, k => by
    rcases l with _ | ⟨a, _ | ⟨b, r⟩⟩
    · simp at h
    · simp at h; omega
    · have k0 := k 0 (by omega)
      simp only [Nat.zero_mul, List.drop_zero, List.take_succ_cons, List.take_zero, Nat.add_zero, List.cons.injEq, and_true] at k0
      obtain ⟨rfl, rfl⟩ := k0
      rw [List.range'_succ, accCells, ← chunks n (s + 1) r (by simp at h; omega) (fun i hi => by
        have := k (i + 1) (by omega)
        rw [show s + (i + 1) = s + 1 + i by omega, Nat.succ_mul] at this
        simpa using this)]
set_option maxRecDepth 100000 in
theorem laid_acc {W : World} (h4 : Lib.VarReads Tryz.prog W "unicode/utf8.acceptRanges" Lib.acceptData) : 1 < W.heap.size ∧ ∃ t fr, W.heap[1]? = some (.cells ⟨accCells (List.range 16)⟩ t fr) := by
  obtain ⟨g, t, cs, fuel, p, hg, hty, hv, hd⟩ := h4
  have hg1 : g = 1 := Option.some.inj (hg.symm.trans (by kernel_rfl))
  subst hg1
  have ht1 : t = 106 := Option.some.inj (hty.symm.trans (by kernel_rfl))
  subst ht1
  have hu : Tryz.prog.underlying 106 = some (.array 16 105) := by kernel_rfl
  have hc : Tryz.prog.cellsOf 105 = 2 := by kernel_rfl
  have hct : Tryz.prog.cellsOf 106 = 32 := by kernel_rfl
  have hl : cs.toList.length = 32 := by
    cases fuel with
    | zero => simp [DataW.trod] at hd
    | succ fuel =>
      simp only [DataW.trod, hu, hc] at hd
      split at hd
      · rename_i q; exact q.trans hct
      · cases hd
  have hcs := chunks 16 0 cs.toList (by rw [hl]) (fun i hi => by
    obtain ⟨fuel', d, q, hdi, he⟩ := Lib.array_elem hu hd i hi
    simp only [Lib.acceptData, List.getElem?_map, List.getElem?_range hi, Option.map_some, Option.some.injEq] at hdi
    subst hdi
    rw [hc] at he
    have := Lib.ints_of_struct (fs := (match Tryz.prog.underlying 105 with | some (.struct fs) => fs | _ => #[])) (k := .u8) (by kernel_rfl) (fun j f hj => by
      match j, hj with
      | 0, hj => cases hj; exact ⟨by kernel_rfl, by kernel_rfl, by kernel_rfl⟩
      | 1, hj => cases hj; exact ⟨by kernel_rfl, by kernel_rfl, by kernel_rfl⟩
      | j + 2, hj => have : (match Tryz.prog.underlying 105 with | some (.struct fs) => fs | _ => #[]).size = 2 := by kernel_rfl
                     rw [Array.getElem?_eq_none (by rw [this]; omega)] at hj; cases hj) (by kernel_rfl) he
    rw [this, Nat.zero_add]; rfl)
  rw [← List.range_eq_range'] at hcs
  unfold World.var? at hv
  rw [hg] at hv
  simp only [Option.bind_some] at hv
  split at hv
  · rename_i c1 t1 f1 hh
    cases hv
    refine ⟨(Array.getElem?_eq_some_iff.1 hh).1, t1, f1, ?_⟩
    rw [hh, ← hcs]
  · cases hv
/-- What the row lists is what the walks ask for. -/
theorem known {W : World} {a b : String × DataW Unit} (h : laidMet Tryz.prog [a, b, ("internal/strconv.uint64pow10", Rows.laid_internal_strconv_uint64pow10), ("unicode/utf8.acceptRanges", Rows.laid_unicode_utf8_acceptRanges), ("strconv.ErrRange", Rows.laid_strconv_ErrRange), ("strconv.ErrSyntax", Rows.laid_strconv_ErrSyntax), ("unicode/utf8.first", Rows.laid_unicode_utf8_first)] W) (hs : W.ShapedOpen Tryz.prog) : Laid W W.heap.size := by
  have e0 : (Rows.laid_unicode_utf8_first : DataW Unit) = Lib.tabData .u8 Lib.firstTab := by kernel_rfl
  have e1 : (Rows.laid_unicode_utf8_acceptRanges : DataW Unit) = Lib.acceptData := by kernel_rfl
  have e2 : (Rows.laid_internal_strconv_uint64pow10 : DataW Unit) = Lib.tabData .u64 Lib.pow10Tab := by kernel_rfl
  have k0 := laid_tab (g := 0) (n := 256) (by kernel_rfl) (t := 103) (e := 5) (by kernel_rfl) (by kernel_rfl) (by kernel_rfl) (by kernel_rfl) (by kernel_rfl) (e0 ▸ Lib.laidMet.reads h (n := "unicode/utf8.first") (d := Rows.laid_unicode_utf8_first) (by simp))
  have k1 := laid_acc (e1 ▸ Lib.laidMet.reads h (n := "unicode/utf8.acceptRanges") (d := Rows.laid_unicode_utf8_acceptRanges) (by simp))
  have k2 := laid_tab (g := 3) (n := 20) (by kernel_rfl) (t := 139) (e := 124) (by kernel_rfl) (by kernel_rfl) (by kernel_rfl) (by kernel_rfl) (by kernel_rfl) (e2 ▸ Lib.laidMet.reads h (n := "internal/strconv.uint64pow10") (d := Rows.laid_internal_strconv_uint64pow10) (by simp))
  have h3 := h.tail.tail.tail.tail
  have h4 := h3.tail
  obtain ⟨a4, s4, v4, _⟩ := laid_sentinel (g := 4) (ti := 65) (tp := 149) (te := 151) (ts := 9) h4 (by kernel_rfl) (by kernel_rfl) Tryz.underlying65 rowErr Tryz.underlying149 Tryz.underlying151 rfl rfl Tryz.underlying9 cells126 cells9
  obtain ⟨a3, s3, v3, _⟩ := laid_sentinel (g := 5) (ti := 65) (tp := 149) (te := 151) (ts := 9) h3 (by kernel_rfl) (by kernel_rfl) Tryz.underlying65 rowErr Tryz.underlying149 Tryz.underlying151 rfl rfl Tryz.underlying9 cells126 cells9
  have c4 : W.cell? ⟨4, 0, none⟩ = some (.iface 149 (.pointer (some a4))) := by simpa using World.var?_cell (g := 4) (by kernel_rfl) v4 0
  have c3 : W.cell? ⟨5, 0, none⟩ = some (.iface 149 (.pointer (some a3))) := by simpa using World.var?_cell (g := 5) (by kernel_rfl) v3 0
  refine ⟨fun p hp => ?_, fun g hg => ?_, fun g hg => ?_⟩
  · simp only [seatCells, List.mem_cons, List.mem_nil_iff, or_false] at hp
    rcases hp with rfl | rfl | rfl
    · exact k0
    · exact k1
    · exact k2
  · simp [seatInts] at hg
  · simp only [seatIfs, List.mem_cons, List.mem_nil_iff, or_false] at hg
    rcases hg with rfl | rfl
    · exact ⟨lt_cell c4, _, _, c4⟩
    · exact ⟨lt_cell c3, _, _, c3⟩
end Go.Proofs.YtgmejigjajcbfaaGreatDoor
