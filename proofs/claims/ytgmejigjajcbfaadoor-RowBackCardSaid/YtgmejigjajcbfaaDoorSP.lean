import Derived.Test.YtgmejigjajcbfaaDoorSF
import Derived.Lib.MapLaws
import Derived.Test.YtgmejigjajcbfaaDoorD52
import Derived.Test.YtgmejigjajcbfaaDoorRows
import Derived.Shelf.Vars
import Derived.Lay
import Derived.Stop.Joined
import Derived.Stop.LaidErr
set_option linter.unusedVariables false
set_option linter.unusedSimpArgs false
namespace Go.Proofs.YtgmejigjajcbfaaDoor
open Go Go.Det Go.RowKit
theorem w64 {x : Int} (h1 : -9223372036854775808 ≤ x) (h2 : x ≤ 9223372036854775807) : IntKind.i64.wrap x = x := by rw [IntKind.wrap_i64]; omega
/-! The runes of a text -/
theorem decL_eq (s : List UInt8) (p : Nat) : decL s p = ((Lib.decodeL (s.drop p)).1 : Int) := by
  have := Lib.decodeL_drop (bs s) p
  unfold decL; rw [← this]
theorem decN_eq (s : List UInt8) (p : Nat) : decN s p = (Lib.decodeL (s.drop p)).2 := by
  have := Lib.decodeL_drop (bs s) p
  unfold decN; rw [← this]
theorem go_eq {l : List UInt8} (h : l ≠ []) : Lib.decodeGo (bs l) = Lib.decodeL l := by
  unfold Lib.decodeGo
  rw [if_neg (by intro q; exact h (List.length_eq_zero_iff.1 q))]
  exact (Lib.decodeL_drop (bs l) 0).symm
theorem enA (r : Nat) (v : Utf8.valid (r : Int) = true) (c1 : r < 128) : (Utf8.encode (r : Int)).data.toList = List.map (fun x => x.toNat.toUInt8) [(r : Int)] := by simp [Utf8.encode, v, c1]
theorem enB (r : Nat) (v : Utf8.valid (r : Int) = true) (c1 : ¬ r < 128) (c2 : r < 2048) : (Utf8.encode (r : Int)).data.toList = List.map (fun x => x.toNat.toUInt8) [192 + (r : Int) / 64, 128 + (r : Int) % 64] := by
  have e1 : (192 + (r : Int) / 64).toNat = 192 + r / 64 := by omega
  have e2 : (128 + (r : Int) % 64).toNat = 128 + r % 64 := by omega
  simp [Utf8.encode, v, c1, c2, e1, e2]
theorem enC (r : Nat) (v : Utf8.valid (r : Int) = true) (c1 : ¬ r < 128) (c2 : ¬ r < 2048) (c3 : r < 65536) : (Utf8.encode (r : Int)).data.toList = List.map (fun x => x.toNat.toUInt8) [224 + (r : Int) / 4096, 128 + (r : Int) / 64 % 64, 128 + (r : Int) % 64] := by
  have e1 : (224 + (r : Int) / 4096).toNat = 224 + r / 4096 := by omega
  have e2 : (128 + (r : Int) / 64 % 64).toNat = 128 + r / 64 % 64 := by omega
  have e3 : (128 + (r : Int) % 64).toNat = 128 + r % 64 := by omega
  simp [Utf8.encode, v, c1, c2, c3, e1, e2, e3]
theorem enD (r : Nat) (v : Utf8.valid (r : Int) = true) (c1 : ¬ r < 128) (c2 : ¬ r < 2048) (c3 : ¬ r < 65536) : (Utf8.encode (r : Int)).data.toList = List.map (fun x => x.toNat.toUInt8) [240 + (r : Int) / 262144, 128 + (r : Int) / 4096 % 64, 128 + (r : Int) / 64 % 64, 128 + (r : Int) % 64] := by
  have e0 : (240 + (r : Int) / 262144).toNat = 240 + r / 262144 := by omega
  have e1 : (128 + (r : Int) / 4096 % 64).toNat = 128 + r / 4096 % 64 := by omega
  have e2 : (128 + (r : Int) / 64 % 64).toNat = 128 + r / 64 % 64 := by omega
  have e3 : (128 + (r : Int) % 64).toNat = 128 + r % 64 := by omega
  simp [Utf8.encode, v, c1, c2, c3, e0, e1, e2, e3]
theorem encR_of {n : Int} {l : List UInt8} (h : (Utf8.encode n).data.toList = l) : encR n = l := h
theorem rune_of {n : Int} {z : List Int} (h : Lib.encodeRuneZ n = z) : Lib.encodeRune n = List.map (fun x => x.toNat.toUInt8) z := by subst h; rfl
theorem encR_enc (r : Nat) (h : r < 55296 ∨ 57344 ≤ r ∧ r ≤ 1114111) : encR (r : Int) = Lib.encodeRune (r : Int) := by
  have v : Utf8.valid (r : Int) = true := by simp [Utf8.valid]; omega
  have key : ∀ l, Lib.encodeRuneZ (r : Int) = l → (Utf8.encode (r : Int)).data.toList = List.map (fun x => x.toNat.toUInt8) l → encR (r : Int) = Lib.encodeRune (r : Int) := fun l e1 e2 => (encR_of e2).trans (rune_of e1).symm
  by_cases c1 : r < 128
  · exact key _ (Lib.encodeRuneZ_one (by omega) (by omega)) (enA r v c1)
  · by_cases c2 : r < 2048
    · exact key _ (Lib.encodeRuneZ_two (by omega) (by omega)) (enB r v c1 c2)
    · by_cases c3 : r < 65536
      · exact key _ (Lib.encodeRuneZ_three (by omega)) (enC r v c1 c2 c3)
      · exact key _ (Lib.encodeRuneZ_four (by omega) (by omega)) (enD r v c1 c2 c3)
/-- How a text that is not empty begins. -/
inductive Sh (b : UInt8) (t : List UInt8) : Prop where
  | a (h : b.toNat < 128) (e : Lib.decodeL (b :: t) = (b.toNat, 1))
  | b (r n : Nat) (h : 194 ≤ b.toNat) (e : Lib.decodeL (b :: t) = (r, n)) (h1 : 2 ≤ n) (h2 : n ≤ 4) (h3 : n ≤ (b :: t).length) (h4 : 128 ≤ r) (h5 : r ≤ 1114111) (h6 : r < 160 → n = 2 ∧ ∃ c u, t = c :: u ∧ 128 ≤ c.toNat ∧ c.toNat < 160) (h7 : encR (r : Int) = (b :: t).take n) (h8 : Lib.runeLen (r : Int) = n)
  | c (h : 128 ≤ b.toNat) (e : Lib.decodeL (b :: t) = (65533, 1)) (h1 : (b :: t).take 3 ≠ [239, 191, 189])
theorem shape (b : UInt8) (t : List UInt8) : Sh b t := by
  have k0 := b.toNat_lt
  have hb0 : ((b :: t).getD 0 0).toNat = b.toNat := rfl
  have hlen : (b :: t).length = t.length + 1 := rfl
  have k1 := ((b :: t).getD 1 0).toNat_lt
  have k2 := ((b :: t).getD 2 0).toNat_lt
  have k3 := ((b :: t).getD 3 0).toNat_lt
  have hN := Lib.decodeL_N (b :: t)
  have hle := Lib.decodeL_le (b :: t) (by simp)
  have hsh := Lib.decodeN_shape (b :: t).length ((b :: t).getD 0 0).toNat ((b :: t).getD 1 0).toNat ((b :: t).getD 2 0).toNat ((b :: t).getD 3 0).toNat
  rw [hb0] at hN hsh
  have enc : ∀ r n, Lib.decodeL (b :: t) = (r, n) → ¬ (r = 65533 ∧ n = 1) → (r < 55296 ∨ 57344 ≤ r ∧ r ≤ 1114111) → encR (r : Int) = (b :: t).take n := by
    intro r n e hv hr
    rw [encR_enc r hr]
    have := Lib.encode_decode (b :: t) (by simp) (by rw [e]; exact hv)
    rw [e] at this; exact this
  have rl : ∀ r n : Nat, Lib.decodeL (b :: t) = (r, n) → r ≠ 65533 → Lib.runeLen (r : Int) = n := by
    intro r n e hr
    have := Lib.runeLen_decode (b :: t) (by rw [e]; exact hr)
    rw [e] at this; exact this
  rcases hsh with ⟨c, e⟩ | ⟨c1, c2, c3, cv, e⟩ | ⟨c1, c2, c3, c4, cv, cs, e⟩ | ⟨c1, c2, c3, c4, c5, cv, cw, e⟩ | e
  · exact .a c (by rw [hN, e])
  · have e' := hN.trans e
    refine .b _ 2 (by omega) e' (by omega) (by omega) (by omega) (by omega) (by omega) (fun q => ⟨rfl, ?_⟩) (enc _ _ e' (by omega) (by omega)) (rl _ _ e' (by omega))
    cases t with
    | nil => simp at c2
    | cons c u =>
      have : ((b :: c :: u).getD 1 0).toNat = c.toNat := rfl
      rw [this] at c3 cv q
      exact ⟨c, u, rfl, by omega, by omega⟩
  · have e' := hN.trans e
    refine .b _ 3 (by omega) e' (by omega) (by omega) (by omega) (by omega) (by omega) (fun q => by omega) (enc _ _ e' (by omega) (by omega)) ?_
    unfold Lib.runeLen
    repeat' split
    all_goals omega
  · have e' := hN.trans e
    refine .b _ 4 (by omega) e' (by omega) (by omega) (by omega) (by omega) (by omega) (fun q => by omega) (enc _ _ e' (by omega) (by omega)) (rl _ _ e' (by omega))
  · have e' := hN.trans e
    by_cases h : b.toNat < 128
    · have := Lib.decodeN_ascii (b :: t).length b.toNat ((b :: t).getD 1 0).toNat ((b :: t).getD 2 0).toNat ((b :: t).getD 3 0).toNat h
      exact .a h (by rw [hN, this])
    · refine .c (by omega) e' fun q => ?_
      rcases t with _ | ⟨c, _ | ⟨d, u⟩⟩
      · simp at q
      · simp at q
      · simp only [List.take_succ_cons, List.take_zero, List.cons.injEq, and_true] at q
        obtain ⟨rfl, rfl, rfl⟩ := q
        have h1 : Lib.decodeL (239 :: 191 :: 189 :: u) = (65533, 3) := by
          rw [Lib.decodeL_N]
          show Lib.decodeN (u.length + 3) 239 191 189 _ = _
          unfold Lib.decodeN
          simp
        rw [e'] at h1; cases h1
/-- The length of the rune from 160 on with which a text begins. -/
def longS : List UInt8 → Nat
  | [] => 0
  | b :: t => if 160 ≤ (Lib.decodeL (b :: t)).1 ∧ 2 ≤ (Lib.decodeL (b :: t)).2 then (Lib.decodeL (b :: t)).2 else 0
theorem sub_to {l : List UInt8} {n : Nat} (h : n ≤ l.length) : sub l 0 (n : Int) = some (l.take n) := by
  unfold sub
  rw [if_pos ⟨by omega, by omega, by omega⟩]
  simp
/-! Quoting -/
def hexS : List UInt8 := [48, 49, 50, 51, 52, 53, 54, 55, 56, 57, 97, 98, 99, 100, 101, 102]
def hexB (b : UInt8) : List UInt8 := [92, 120, hexS.getD (b.toNat / 16) 0, hexS.getD (b.toNat % 16) 0]
def escB (b : UInt8) : List UInt8 := if b.toNat = 34 ∨ b.toNat = 92 then [92, b] else if 32 ≤ b.toNat ∧ b.toNat ≤ 126 then [b] else hexB b
def qS : Nat → List UInt8 → List UInt8
  | 0, _ => []
  | _, [] => []
  | n + 1, b :: t => if 0 < longS (b :: t) then (b :: t).take (longS (b :: t)) ++ qS n ((b :: t).drop (longS (b :: t))) else escB b ++ qS n t
theorem all256 {P : Nat → Bool} (h : (List.range 256).all P = true) (b : UInt8) : P b.toNat = true :=
  List.all_eq_true.1 h _ (List.mem_range.2 b.toNat_lt)
theorem hx1 (b : UInt8) : sub ([48, 49, 50, 51, 52, 53, 54, 55, 56, 57, 97, 98, 99, 100, 101, 102] : List UInt8) (IntKind.u8.wrap (((b.toNat : Nat) : Int).tdiv 16)) (IntKind.u8.wrap ((IntKind.u8.wrap (((b.toNat : Nat) : Int).tdiv 16)) + 1)) = some [hexS.getD (b.toNat / 16) 0] :=
  of_decide_eq_true (all256 (P := fun x => decide (sub ([48, 49, 50, 51, 52, 53, 54, 55, 56, 57, 97, 98, 99, 100, 101, 102] : List UInt8) (IntKind.u8.wrap (((x : Nat) : Int).tdiv 16)) (IntKind.u8.wrap ((IntKind.u8.wrap (((x : Nat) : Int).tdiv 16)) + 1)) = some [hexS.getD (x / 16) 0])) (by kernel_rfl) b)
theorem hx2 (b : UInt8) : sub ([48, 49, 50, 51, 52, 53, 54, 55, 56, 57, 97, 98, 99, 100, 101, 102] : List UInt8) (((b.toNat : Nat) : Int).tmod 16) (IntKind.u8.wrap ((((b.toNat : Nat) : Int).tmod 16) + 1)) = some [hexS.getD (b.toNat % 16) 0] :=
  of_decide_eq_true (all256 (P := fun x => decide (sub ([48, 49, 50, 51, 52, 53, 54, 55, 56, 57, 97, 98, 99, 100, 101, 102] : List UInt8) (((x : Nat) : Int).tmod 16) (IntKind.u8.wrap ((((x : Nat) : Int).tmod 16) + 1)) = some [hexS.getD (x % 16) 0])) (by kernel_rfl) b)
theorem hx3 (b : UInt8) : sub ([48, 49, 50, 51, 52, 53, 54, 55, 56, 57, 97, 98, 99, 100, 101, 102] : List UInt8) (gshr .u8 ((b.toNat : Nat) : Int) 4) (IntKind.u8.wrap ((gshr .u8 ((b.toNat : Nat) : Int) 4) + 1)) = some [hexS.getD (b.toNat / 16) 0] :=
  of_decide_eq_true (all256 (P := fun x => decide (sub ([48, 49, 50, 51, 52, 53, 54, 55, 56, 57, 97, 98, 99, 100, 101, 102] : List UInt8) (gshr .u8 ((x : Nat) : Int) 4) (IntKind.u8.wrap ((gshr .u8 ((x : Nat) : Int) 4) + 1)) = some [hexS.getD (x / 16) 0])) (by kernel_rfl) b)
theorem hx4 (b : UInt8) : sub ([48, 49, 50, 51, 52, 53, 54, 55, 56, 57, 97, 98, 99, 100, 101, 102] : List UInt8) (bits .and .u8 ((b.toNat : Nat) : Int) 15) (IntKind.u8.wrap ((bits .and .u8 ((b.toNat : Nat) : Int) 15) + 1)) = some [hexS.getD (b.toNat % 16) 0] :=
  of_decide_eq_true (all256 (P := fun x => decide (sub ([48, 49, 50, 51, 52, 53, 54, 55, 56, 57, 97, 98, 99, 100, 101, 102] : List UInt8) (bits .and .u8 ((x : Nat) : Int) 15) (IntKind.u8.wrap ((bits .and .u8 ((x : Nat) : Int) 15) + 1)) = some [hexS.getD (x % 16) 0])) (by kernel_rfl) b)
theorem sub_all {s : List UInt8} {p : Nat} (h : p ≤ s.length) : sub s (p : Int) (s.length : Int) = some (s.drop p) := by
  unfold sub
  rw [if_pos ⟨by omega, by omega, by omega⟩]
  simp only [Int.toNat_natCast]
  rw [List.take_of_length_le (by rw [List.length_drop]; omega)]
theorem sub_mid {s : List UInt8} {p n : Nat} (h : p + n ≤ s.length) : sub s (p : Int) ((p + n : Nat) : Int) = some ((s.drop p).take n) := by
  unfold sub
  rw [if_pos ⟨by omega, by omega, by omega⟩]
  simp only [Int.toNat_natCast]
  rw [Nat.add_sub_cancel_left]
theorem wr64 {p n : Nat} (h : p + n < 1000000) : IntKind.i64.wrap ((p : Int) + (n : Int)) = ((p + n : Nat) : Int) := by
  rw [w64 (by omega) (by omega)]; omega
theorem sc {a b : List UInt8} (h : a.length + b.length < 1000000) : scat a b = some (a ++ b) := if_pos (by omega)
theorem ap1 {α : Type} {a b : List α} (h : a.length + b.length < 1000000) : apd 1 a b = some (a ++ b) := if_pos (by omega)
theorem longS_le (b : UInt8) (t : List UInt8) : longS (b :: t) ≤ (b :: t).length := by
  have := Lib.decodeL_le (b :: t) (by simp)
  simp only [longS]
  split <;> omega
theorem escB_len (b : UInt8) : (escB b).length ≤ 4 := by
  unfold escB hexB
  repeat' split
  all_goals simp
theorem qS_len : ∀ (n : Nat) (l : List UInt8), (qS n l).length ≤ 4 * l.length
  | 0, l => by simp [qS]
  | n + 1, [] => by simp [qS]
  | n + 1, b :: t => by
    have hL := longS_le b t
    simp only [qS]
    split
    · have := qS_len n ((b :: t).drop (longS (b :: t)))
      rw [List.length_append, List.length_take]
      rw [List.length_drop] at this
      omega
    · have := qS_len n t
      have := escB_len b
      rw [List.length_append, List.length_cons]
      omega
/-! The program's own -/
theorem f18_eq (r : Nat) : f18 (r : Int) = some (Lib.runeLen (r : Int)) := by
  unfold f18 Lib.runeLen
  repeat' split
  all_goals first | rfl | (exfalso; omega) | skip
theorem f21_eq (r n : Int) : f21 r n = some (decide (r ≠ 34 ∧ r ≠ 92 ∧ (n = 1 → 32 ≤ r ∧ r ≤ 126) ∧ (n ≠ 1 → 160 ≤ r))) := by
  unfold f21
  simp only [Option.bind_some, ge_iff_le]
  repeat' split
  all_goals first | (simp; omega) | (congr 1; rw [Bool.eq_iff_iff]; simp; omega)
theorem ne8_of {l : List UInt8} (h : l ≠ []) : ne8 l = some (l.map fun u => ((u.toNat : Nat) : Int)) := if_neg h
theorem f13_hex (l : List UInt8) (p : Nat) (hl : l.length ≤ 10) : ∀ (n : Nat) (acc : List UInt8) (i : Nat), i ≤ l.length → l.length < n + i → acc.length ≤ 5000 + 4 * i → f13_l2 (l.map fun u => ((u.toNat : Nat) : Int)) n acc (i : Int) p = some (acc ++ (l.drop i).flatMap hexB, p)
  | 0, acc, i, h1, h2, h3 => by omega
  | n + 1, acc, i, h1, h2, h3 => by
    rw [f13_l2]
    simp only [Option.bind_some, List.length_map]
    by_cases hi : i < l.length
    · rw [if_pos (by simpa using hi)]
      obtain ⟨b, hb⟩ : ∃ b, l[i]? = some b := ⟨l[i], List.getElem?_eq_getElem hi⟩
      have hd : l.drop i = b :: l.drop (i + 1) := by
        obtain ⟨hl, e⟩ := List.getElem?_eq_some_iff.1 hb
        rw [List.drop_eq_getElem_cons hl, e]
      have hr : rd (l.map fun u => ((u.toNat : Nat) : Int)) (i : Int) = some ((b.toNat : Nat) : Int) := by rw [rd_nat, List.getElem?_map, hb]; rfl
      rw [hr]
      simp only [Option.bind_some, hx3, hx4]
      rw [sc (by simp)]
      simp only [Option.bind_some]
      rw [sc (by simp)]
      simp only [Option.bind_some]
      rw [ap1 (by simp; omega)]
      simp only [Option.bind_some]
      rw [show IntKind.i64.wrap ((i : Int) + 1) = ((i + 1 : Nat) : Int) from wr64 (n := 1) (by omega)]
      rw [f13_hex l p hl n _ (i + 1) (by omega) (by omega) (by simp; omega), hd]
      simp [hexB]
    · rw [if_neg (by simpa using hi), List.drop_eq_nil_of_le (by omega)]
      simp
theorem qS_fuel : ∀ (n m : Nat) (l : List UInt8), l.length ≤ n → l.length ≤ m → qS n l = qS m l
  | 0, m, l, h1, h2 => by
    have : l = [] := List.length_eq_zero_iff.1 (by omega)
    subst this
    cases m <;> rfl
  | n + 1, 0, l, h1, h2 => by
    have : l = [] := List.length_eq_zero_iff.1 (by omega)
    subst this; rfl
  | n + 1, m + 1, [], h1, h2 => rfl
  | n + 1, m + 1, b :: t, h1, h2 => by
    simp only [List.length_cons] at h1 h2
    simp only [qS]
    split
    · rw [qS_fuel n m _ (by rw [List.length_drop, List.length_cons]; omega) (by rw [List.length_drop, List.length_cons]; omega)]
    · rw [qS_fuel n m _ (by omega) (by omega)]
theorem qS_cons {b : UInt8} {t : List UInt8} (h : t.length < 1999) : qS 2000 (b :: t) = if 0 < longS (b :: t) then (b :: t).take (longS (b :: t)) ++ qS 2000 ((b :: t).drop (longS (b :: t))) else escB b ++ qS 2000 t := by
  rw [show qS 2000 (b :: t) = if 0 < longS (b :: t) then (b :: t).take (longS (b :: t)) ++ qS 1999 ((b :: t).drop (longS (b :: t))) else escB b ++ qS 1999 t from rfl]
  split
  · rw [qS_fuel 1999 2000 _ (by rw [List.length_drop, List.length_cons]; omega) (by rw [List.length_drop, List.length_cons]; omega)]
  · rw [qS_fuel 1999 2000 _ (by omega) (by omega)]
theorem c7_of {b : UInt8} (h : b.toNat < 128) : c7 ((b.toNat : Nat) : Int) = some b := by
  unfold c7
  rw [if_pos (by omega)]
  simp
theorem f19_of {l : List UInt8} (h : l ≠ []) : f19 l = some (((Lib.decodeL l).1 : Int), ((Lib.decodeL l).2 : Int)) := by
  unfold f19; rw [go_eq h]
theorem longS_cont {c : UInt8} {u : List UInt8} (h1 : 128 ≤ c.toNat) (h2 : c.toNat < 194) : longS (c :: u) = 0 := by
  cases shape c u with
  | a h e => omega
  | b r n h e => omega
  | c h e h1 => simp only [longS, e]; rfl
theorem f13_loop (s : List UInt8) (hs : s.length ≤ 300) : ∀ (n : Nat) (acc : List UInt8) (p : Nat), p ≤ s.length → s.length < n + p → acc.length ≤ 1 + 4 * p → f13_l1 2000 s n acc p = some (acc ++ qS 2000 (s.drop p))
  | 0, acc, p, h1, h2, h3 => by omega
  | n + 1, acc, p, h1, h2, h3 => by
    rw [f13_l1]
    by_cases hp : p < s.length
    · rw [if_pos hp]
      obtain ⟨b, hb⟩ : ∃ b, s[p]? = some b := ⟨s[p], List.getElem?_eq_getElem hp⟩
      have hd : s.drop p = b :: s.drop (p + 1) := by
        obtain ⟨hl, e⟩ := List.getElem?_eq_some_iff.1 hb
        rw [List.drop_eq_getElem_cons hl, e]
      have hlen : (b :: s.drop (p + 1)).length = s.length - p := by rw [← hd, List.length_drop]
      have hlt : (s.drop (p + 1)).length < 1999 := by rw [List.length_drop]; omega
      have hdd : ∀ m, s.drop (p + m) = (b :: s.drop (p + 1)).drop m := by intro m; rw [← hd, List.drop_drop]
      have h1' : IntKind.i64.wrap ((p : Int) + 1) = ((p + 1 : Nat) : Int) := wr64 (n := 1) (by omega)
      have hs1 : sub s (p : Int) ((p + 1 : Nat) : Int) = some [b] := by rw [sub_mid (by omega), hd]; rfl
      have hc8 : c8 92 = some 92 := rfl
      have hfin : ∀ e : List UInt8, e = escB b → longS (b :: s.drop (p + 1)) = 0 → f13_l1 2000 s n (acc ++ e) (p + 1) = some (acc ++ qS 2000 (b :: s.drop (p + 1))) := by
        rintro e rfl q
        have := escB_len b
        rw [f13_loop s hs n _ (p + 1) (by omega) (by omega) (by rw [List.length_append]; omega), qS_cons hlt, if_neg (by omega), List.append_assoc]
      simp only [decL_eq, decN_eq, hd]
      generalize hT : s.drop (p + 1) = t at *
      cases shape b t with
      | a h e =>
        have hb256 := b.toNat_lt
        have hrl : Lib.runeLen ((b.toNat : Nat) : Int) = 1 := by unfold Lib.runeLen; rw [if_neg (by omega), if_pos (by omega)]
        have hl0 : longS (b :: t) = 0 := by simp only [longS, e]; rw [if_neg (by omega)]
        simp only [e, f18_eq, hrl, Option.bind_some]
        rw [if_neg (by omega)]
        simp only [Option.bind_some, hc8, c7_of h]
        by_cases q1 : b.toNat = 34
        · rw [if_pos (by omega), ap1 (by simp; omega)]
          simp only [Option.bind_some]
          rw [ap1 (by simp; omega)]
          simp only [Option.bind_some, List.append_assoc]
          exact hfin _ (by unfold escB; rw [if_pos (.inl q1)]; rfl) hl0
        · rw [if_neg (by omega)]
          by_cases q2 : b.toNat = 92
          · rw [if_pos (by omega), ap1 (by simp; omega)]
            simp only [Option.bind_some]
            rw [ap1 (by simp; omega)]
            simp only [Option.bind_some, List.append_assoc]
            exact hfin _ (by unfold escB; rw [if_pos (.inr q2)]; rfl) hl0
          · rw [if_neg (by omega), f21_eq]
            simp only [Option.bind_some, h1', hs1]
            by_cases q3 : 32 ≤ b.toNat ∧ b.toNat ≤ 126
            · rw [if_pos (by rw [decide_eq_true_eq]; omega), ap1 (by simp; omega)]
              simp only [Option.bind_some]
              exact hfin _ (by unfold escB; rw [if_neg (by omega), if_pos q3]) hl0
            · rw [if_neg (by rw [decide_eq_true_eq]; rintro ⟨_, _, k, _⟩; have := k trivial; omega), ne8_of (by simp)]
              simp only [Option.bind_some]
              have := f13_hex [b] (p + 1) (by simp) 2000 acc 0 (by simp) (by simp) (by omega)
              rw [show ((0 : Nat) : Int) = 0 from rfl] at this
              rw [this]
              simp only [Option.bind_some]
              exact hfin _ (by unfold escB; rw [if_neg (by omega), if_neg q3]; simp) hl0
      | b r m h e h1 h2 h3 h4 h5 h6 h7 h8 =>
        simp only [e, f18_eq, h8, Option.bind_some]
        have hx : (if ((r : Nat) : Int) = 65533 then (sub s (p : Int) (s.length : Int)).bind fun s23u1 => (f19 s23u1).bind fun x => match x with | (t24u1_0, t24u1_1) => some (t24u1_1, p + m) else some (((m : Nat) : Int), p + m)) = some (((m : Nat) : Int), p + m) := by
          split
          · rw [sub_all (by omega), hd]
            simp only [Option.bind_some]
            rw [f19_of (by simp), e]; rfl
          · rfl
        rw [hx]
        simp only [Option.bind_some]
        rw [if_neg (by omega), if_neg (by omega), f21_eq]
        simp only [Option.bind_some]
        rw [wr64 (by omega), sub_mid (by omega), hd]
        by_cases q : 160 ≤ r
        · rw [if_pos (by rw [decide_eq_true_eq]; omega)]
          have hl0 : longS (b :: t) = m := by simp only [longS, e]; rw [if_pos ⟨q, h1⟩]
          simp only [Option.bind_some]
          rw [ap1 (by rw [List.length_take]; omega)]
          simp only [Option.bind_some]
          rw [f13_loop s hs n _ (p + m) (by omega) (by omega) (by rw [List.length_append, List.length_take]; omega), qS_cons hlt, hl0, if_pos (by omega), hdd m, List.append_assoc]
        · rw [if_neg (by rw [decide_eq_true_eq]; omega)]
          obtain ⟨rfl, c, u, rfl, k1, k2⟩ := h6 (by omega)
          have hb0 : longS (b :: c :: u) = 0 := by simp only [longS, e]; rw [if_neg (by omega)]
          have hc0 := longS_cont (c := c) (u := u) k1 (by omega)
          simp only [Option.bind_some, List.take_succ_cons, List.take_zero]
          rw [ne8_of (by simp)]
          simp only [Option.bind_some]
          have := f13_hex [b, c] (p + 2) (by simp) 2000 acc 0 (by simp) (by simp) (by omega)
          rw [show ((0 : Nat) : Int) = 0 from rfl] at this
          rw [this]
          simp only [Option.bind_some]
          have hb256 := b.toNat_lt
          have e1 : escB b = hexB b := by unfold escB; rw [if_neg (by omega), if_neg (by omega)]
          have e2 : escB c = hexB c := by unfold escB; rw [if_neg (by omega), if_neg (by omega)]
          have hu : u.length < 1999 := by simp at hlt; omega
          rw [f13_loop s hs n _ (p + 2) (by omega) (by omega) (by simp [hexB]; omega), qS_cons hlt, hb0, if_neg (by omega), qS_cons hu, hc0, if_neg (by omega), hdd 2, e1, e2]
          simp
      | c h e h1 =>
        have hb256 := b.toNat_lt
        have hl0 : longS (b :: t) = 0 := by simp only [longS, e]; rfl
        simp only [e, f18_eq, Option.bind_some]
        rw [if_pos (by rfl), sub_all (by omega), hd]
        simp only [Option.bind_some]
        rw [f19_of (by simp), e]
        simp only [Option.bind_some]
        rw [if_neg (by omega), if_neg (by omega), f21_eq]
        simp only [Option.bind_some]
        rw [if_neg (by rw [decide_eq_true_eq]; omega)]
        rw [show IntKind.i64.wrap ((p : Int) + ((1 : Nat) : Int)) = ((p + 1 : Nat) : Int) from h1', hs1]
        simp only [Option.bind_some]
        rw [ne8_of (by simp)]
        simp only [Option.bind_some]
        have := f13_hex [b] (p + 1) (by simp) 2000 acc 0 (by simp) (by simp) (by omega)
        rw [show ((0 : Nat) : Int) = 0 from rfl] at this
        rw [this]
        simp only [Option.bind_some]
        exact hfin _ (by unfold escB; rw [if_neg (by omega), if_neg (by omega)]; simp) hl0
    · rw [if_neg hp, List.drop_eq_nil_of_le (by omega)]
      simp [qS]
theorem f13_eq {s : List UInt8} (hs : s.length ≤ 300) : f13 2000 s = some ([34] ++ qS 2000 s ++ [34]) := by
  unfold f13
  have h34 : c8 34 = some 34 := rfl
  have hq := qS_len 2000 s
  rw [h34]
  simp only [Option.bind_some]
  rw [ap1 (by simp)]
  simp only [Option.bind_some]
  have := f13_loop s hs 2000 ([] ++ [34]) 0 (by omega) (by omega) (by simp)
  rw [this, List.drop_zero]
  simp only [Option.bind_some]
  rw [ap1 (by simp; omega)]
  simp only [Option.bind_some]
  rw [ap1 (by simp; omega)]
  simp
end Go.Proofs.YtgmejigjajcbfaaDoor

set_option linter.unusedVariables false
set_option linter.unusedSimpArgs false
namespace Go.Proofs.YtgmejigjajcbfaaDoor
open Go Go.Det Go.RowKit
/-! What is quoted is read back -/
def hexOk (x : Nat) : Bool := decide (f38 (((hexS.getD (x / 16) 0).toNat : Nat) : Int) = some (((x / 16 : Nat) : Int), true)) && decide (f38 (((hexS.getD (x % 16) 0).toNat : Nat) : Int) = some (((x % 16 : Nat) : Int), true)) && decide (c8 (bits .or .u8 (gshl .u8 ((x / 16 : Nat) : Int) 4) ((x % 16 : Nat) : Int)) = some (UInt8.ofNat x))
theorem hexv (b : UInt8) : f38 (((hexS.getD (b.toNat / 16) 0).toNat : Nat) : Int) = some (((b.toNat / 16 : Nat) : Int), true) ∧ f38 (((hexS.getD (b.toNat % 16) 0).toNat : Nat) : Int) = some (((b.toNat % 16 : Nat) : Int), true) ∧ c8 (bits .or .u8 (gshl .u8 ((b.toNat / 16 : Nat) : Int) 4) ((b.toNat % 16 : Nat) : Int)) = some b := by
  have h : hexOk b.toNat = true := all256 (P := hexOk) (by kernel_rfl) b
  unfold hexOk at h
  rw [Bool.and_eq_true, Bool.and_eq_true, decide_eq_true_eq, decide_eq_true_eq, decide_eq_true_eq] at h
  refine ⟨h.1.1, h.1.2, h.2.trans ?_⟩
  simp
theorem f28_q {c : UInt8} {u : List UInt8} (h : c.toNat = 34 ∨ c.toNat = 92) : f28 (c :: u) = some (((c.toNat : Nat) : Int), 1) := by
  unfold f28
  rw [if_neg (by simp)]
  have hr : rd (c :: u) 0 = some c := rfl
  simp only [hr, Option.bind_some]
  by_cases q : c.toNat = 34
  · rw [if_pos (by omega)]
  · rw [if_neg (by omega), if_pos (by omega)]
theorem f28_x {c d e : UInt8} {u : List UInt8} (h : c.toNat = 120) {v1 v2 : Int} {o1 o2 : Bool} (h1 : f38 ((d.toNat : Nat) : Int) = some (v1, o1)) (h2 : f38 ((e.toNat : Nat) : Int) = some (v2, o2)) :
    f28 (c :: d :: e :: u) = some (if o1 = true ∧ o2 = true then (bits .or .u8 (gshl .u8 v1 4) v2, 3) else (0, 0)) := by
  unfold f28
  rw [if_neg (by simp)]
  have hr : rd (c :: d :: e :: u) 0 = some c := rfl
  have hr1 : rd (c :: d :: e :: u) 1 = some d := rfl
  have hr2 : rd (c :: d :: e :: u) 2 = some e := rfl
  simp only [hr, hr1, hr2, h1, h2, Option.bind_some]
  rw [if_neg (by omega), if_neg (by omega), if_pos (by omega), if_neg (by simp; omega)]
  cases o1 <;> cases o2 <;> rfl
theorem f21_1 (x : Int) : f21 x ((1 : Nat) : Int) = some (decide (32 ≤ x ∧ x ≤ 126 ∧ x ≠ 34 ∧ x ≠ 92)) := by
  rw [f21_eq]
  congr 1
  rw [Bool.eq_iff_iff]
  simp; omega
theorem f21_m {x : Int} {m : Nat} (h : m ≠ 1) (hx : 128 ≤ x) : f21 x (m : Int) = some (decide (160 ≤ x)) := by
  rw [f21_eq]
  congr 1
  rw [Bool.eq_iff_iff, decide_eq_true_eq, decide_eq_true_eq]
  constructor
  · rintro ⟨_, _, _, k⟩; exact k (by omega)
  · intro k; exact ⟨by omega, by omega, fun q => by omega, fun _ => k⟩
theorem decN_more {n n' b0 b1 b2 b3 c1 c2 c3 r m : Nat} (h : Lib.decodeN n b0 b1 b2 b3 = (r, m)) (hm : 2 ≤ m) (hn : m ≤ n') (e1 : c1 = b1) (e2 : 2 < m → c2 = b2) (e3 : 3 < m → c3 = b3) : Lib.decodeN n' b0 c1 c2 c3 = (r, m) := by
  subst e1
  rcases Lib.decodeN_shape n b0 c1 b2 b3 with ⟨c, e⟩ | ⟨k1, k2, k3, cv, e⟩ | ⟨k1, k2, k3, k4, cv, cs, e⟩ | ⟨k1, k2, k3, k4, k5, cv, cw, e⟩ | e
  · rw [e] at h; cases h; omega
  · rw [e] at h; cases h
    unfold Lib.decodeN
    rw [if_neg (by omega), if_pos (by omega), if_pos (by omega)]
  · rw [e] at h; cases h
    have := e2 (by omega); subst this
    unfold Lib.decodeN
    rw [if_neg (by omega), if_neg (by omega), if_pos (by omega), if_pos (by omega)]
  · rw [e] at h; cases h
    have := e2 (by omega); subst this
    have := e3 (by omega); subst this
    unfold Lib.decodeN
    rw [if_neg (by omega), if_neg (by omega), if_neg (by omega), if_pos (by omega), if_pos (by omega)]
  · rw [e] at h; cases h; omega
theorem getD_pre {l rest : List UInt8} {m k : Nat} (hk : k < m) (hm : m ≤ l.length) : (l.take m ++ rest).getD k 0 = l.getD k 0 := by
  simp only [List.getD]
  rw [List.getElem?_append_left (by rw [List.length_take]; omega), List.getElem?_take_of_lt hk]
theorem dec_pre {l rest : List UInt8} {r m : Nat} (h : Lib.decodeL l = (r, m)) (hm : 2 ≤ m) (hl : m ≤ l.length) : Lib.decodeL (l.take m ++ rest) = (r, m) := by
  rw [Lib.decodeL_N] at h ⊢
  rw [getD_pre (by omega) hl]
  refine decN_more h hm (by rw [List.length_append, List.length_take]; omega) (by rw [getD_pre (by omega) hl]) (fun q => by rw [getD_pre q hl]) (fun q => by rw [getD_pre q hl])
theorem dec_ascii (b : UInt8) (t : List UInt8) (h : b.toNat < 128) : Lib.decodeL (b :: t) = (b.toNat, 1) := by
  rw [Lib.decodeL_N]
  exact Lib.decodeN_ascii _ _ _ _ _ h
theorem escB_pos (b : UInt8) : 1 ≤ (escB b).length := by
  unfold escB hexB
  repeat' split
  all_goals simp
theorem rb_loop (Q : List UInt8) (hQ : Q.length ≤ 2000) : ∀ (n : Nat) (l acc : List UInt8) (p : Nat), l.length ≤ 1000 → Q.drop p = qS 2000 l ++ [34] → Q.length < n + p → acc.length + l.length ≤ 1000 → f16_l1 Q n acc (p : Int) = some (.inl (acc ++ l, (Q.length : Int)))
  | 0, l, acc, p, h1, h2, h3, h4 => by
    have := congrArg List.length h2
    rw [List.length_drop, List.length_append, List.length_singleton] at this
    omega
  | n + 1, l, acc, p, h1, h2, h3, h4 => by
    have hlen := congrArg List.length h2
    rw [List.length_drop, List.length_append, List.length_singleton] at hlen
    have hp : p < Q.length := by omega
    rw [f16_l1, if_pos (by omega), sub_all (by omega)]
    have ih := rb_loop Q hQ n
    have h1' : IntKind.i64.wrap ((p : Int) + 1) = ((p + 1 : Nat) : Int) := wr64 (n := 1) (by omega)
    have h2' : IntKind.i64.wrap ((p : Int) + IntKind.i64.wrap (1 + 1)) = ((p + 2 : Nat) : Int) := wr64 (n := 2) (by omega)
    have h4' : IntKind.i64.wrap ((p : Int) + IntKind.i64.wrap (1 + 3)) = ((p + 4 : Nat) : Int) := wr64 (n := 4) (by omega)
    have hdd : ∀ m, Q.drop (p + m) = (Q.drop p).drop m := by intro m; rw [List.drop_drop]
    have n1 : ¬ ((1 : Int) = 0) := by omega
    have n3 : ¬ ((3 : Int) = 0) := by omega
    simp only [Option.bind_some]
    cases l with
    | nil =>
      have hq : Q.drop p = [34] := h2
      rw [hq]
      rw [f19_of (by simp), dec_ascii 34 [] (by decide)]
      simp only [Option.bind_some]
      rw [if_pos (by rfl), ap1 (by simp; omega), h1']
      have : p + 1 = Q.length := by rw [h2] at hq; simp [qS] at hlen; omega
      simp [this]
    | cons b t =>
      have ht : t.length < 1999 := by simp only [List.length_cons] at h1; omega
      have hL := longS_le b t
      have hb256 := b.toNat_lt
      simp only [List.length_cons] at h1 h4 hL
      rw [qS_cons ht] at h2
      by_cases q : 0 < longS (b :: t)
      · rw [if_pos q, List.append_assoc] at h2
        cases shape b t with
        | a h e => simp only [longS, e] at q; rw [if_neg (by omega)] at q; omega
        | c h e h1 => simp only [longS, e] at q; rw [if_neg (by omega)] at q; omega
        | b r m h e g1 g2 g3 g4 g5 g6 g7 g8 =>
          have hr : 160 ≤ r := by
            by_cases k : 160 ≤ r
            · exact k
            · simp only [longS, e] at q; rw [if_neg (by omega)] at q; omega
          have hl0 : longS (b :: t) = m := by simp only [longS, e]; rw [if_pos ⟨hr, g1⟩]
          rw [hl0] at h2 hL
          have htk : ((b :: t).take m).length = m := by rw [List.length_take]; simp only [List.length_cons] at g3 ⊢; omega
          have hdr := hdd m
          have hmp : p + m ≤ Q.length := by
            have := congrArg List.length h2
            rw [List.length_drop, List.length_append, htk] at this; omega
          have htake : (Q.drop p).take m = (b :: t).take m := by rw [h2, List.take_append_of_le_length (by omega), List.take_of_length_le (by omega)]
          have hdrop : Q.drop (p + m) = qS 2000 ((b :: t).drop m) ++ [34] := by rw [hdr, h2, List.drop_append_of_le_length (by omega), List.drop_of_length_le (by omega), List.nil_append]
          have hne : Q.drop p ≠ [] := by rw [h2]; intro k; have := congrArg List.length k; rw [List.length_append, htk] at this; simp at this
          have hdec : Lib.decodeL (Q.drop p) = (r, m) := by rw [h2]; exact dec_pre e g1 g3
          rw [f19_of hne, hdec]
          simp only [Option.bind_some]
          rw [if_neg (by omega), if_neg (by omega), f21_m (by omega) (by omega)]
          simp only [Option.bind_some]
          rw [if_pos (by rw [decide_eq_true_eq]; omega), wr64 (by omega), sub_mid hmp, htake]
          simp only [Option.bind_some]
          rw [ap1 (by rw [htk]; omega)]
          simp only [Option.bind_some]
          rw [ih ((b :: t).drop m) _ (p + m) (by rw [List.length_drop, List.length_cons]; omega) hdrop (by omega) (by rw [List.length_append, htk, List.length_drop, List.length_cons]; omega), List.append_assoc, List.take_append_drop]
      · rw [if_neg q, List.append_assoc] at h2
        have hfin : ∀ m : Nat, m = (escB b).length → f16_l1 Q n (acc ++ [b]) ((p + m : Nat) : Int) = some (.inl (acc ++ b :: t, (Q.length : Int))) := by
          rintro m rfl
          rw [ih t _ _ (by omega) (by rw [hdd, h2, List.drop_append_of_le_length (by omega), List.drop_of_length_le (by omega), List.nil_append]) (by have := escB_pos b; omega) (by simp; omega)]
          simp
        have hpl : p + (escB b).length ≤ Q.length := by
          have := congrArg List.length h2
          rw [List.length_drop, List.length_append] at this
          have := escB_pos b
          omega
        by_cases q1 : b.toNat = 34 ∨ b.toNat = 92
        · have he : escB b = [92, b] := by unfold escB; rw [if_pos q1]
          rw [he] at h2 hpl hfin
          have c8b : c8 ((b.toNat : Nat) : Int) = some b := by unfold c8; rw [if_pos (by omega)]; simp
          have hd1 : Q.drop (p + 1) = b :: (qS 2000 t ++ [34]) := by rw [hdd, h2]; rfl
          rw [h2, f19_of (by simp)]
          simp only [List.cons_append, List.nil_append]
          rw [dec_ascii 92 _ (by decide)]
          simp only [Option.bind_some]
          rw [if_neg (by decide), if_pos (by rfl), h1', sub_all (by simp at hpl; omega), hd1]
          simp only [Option.bind_some]
          rw [f28_q q1]
          simp only [Option.bind_some, n1, if_false, c8b, h2']
          rw [ap1 (by simp; omega)]
          exact hfin 2 rfl
        · by_cases q3 : 32 ≤ b.toNat ∧ b.toNat ≤ 126
          · have he : escB b = [b] := by unfold escB; rw [if_neg q1, if_pos q3]
            rw [he] at h2 hpl hfin
            have hs1 : sub Q (p : Int) ((p + 1 : Nat) : Int) = some [b] := by rw [sub_mid (by simpa using hpl), h2]; rfl
            rw [h2, f19_of (by simp)]
            simp only [List.cons_append, List.nil_append]
            rw [dec_ascii b _ (by omega)]
            simp only [Option.bind_some]
            rw [if_neg (by omega), if_neg (by omega), f21_1]
            simp only [Option.bind_some]
            rw [if_pos (by rw [decide_eq_true_eq]; omega), show IntKind.i64.wrap ((p : Int) + ((1 : Nat) : Int)) = ((p + 1 : Nat) : Int) from h1', hs1]
            simp only [Option.bind_some]
            rw [ap1 (by simp; omega)]
            exact hfin 1 rfl
          · have he : escB b = hexB b := by unfold escB; rw [if_neg q1, if_neg q3]
            rw [he] at h2 hpl hfin
            obtain ⟨v1, v2, v3⟩ := hexv b
            have hd1 : Q.drop (p + 1) = 120 :: hexS.getD (b.toNat / 16) 0 :: hexS.getD (b.toNat % 16) 0 :: (qS 2000 t ++ [34]) := by rw [hdd, h2]; rfl
            rw [h2, f19_of (by simp [hexB])]
            simp only [hexB, List.cons_append, List.nil_append]
            rw [dec_ascii 92 _ (by decide)]
            simp only [Option.bind_some]
            rw [if_neg (by decide), if_pos (by rfl), h1', sub_all (by simp [hexB] at hpl; omega), hd1]
            simp only [Option.bind_some]
            rw [f28_x (by decide) v1 v2]
            simp only [Option.bind_some, and_self, if_true, n3, if_false, v3, h4']
            rw [ap1 (by simp; omega)]
            exact hfin 4 rfl
end Go.Proofs.YtgmejigjajcbfaaDoor

set_option linter.unusedVariables false
set_option linter.unusedSimpArgs false
namespace Go.Proofs.YtgmejigjajcbfaaDoor
open Go Go.Det Go.RowKit
/-! What bytes are written -/
theorem take_big {b : UInt8} {t : List UInt8} {r m : Nat} (e : Lib.decodeL (b :: t) = (r, m)) (hm : 2 ≤ m) (hl : m ≤ (b :: t).length) : ∀ x ∈ (b :: t).take m, 128 ≤ x.toNat := by
  have key : ∀ k, k < m → 128 ≤ ((b :: t).getD k 0).toNat := by
    rw [Lib.decodeL_N] at e
    intro k hk
    rcases Lib.decodeN_shape (b :: t).length ((b :: t).getD 0 0).toNat ((b :: t).getD 1 0).toNat ((b :: t).getD 2 0).toNat ((b :: t).getD 3 0).toNat with ⟨c, e'⟩ | ⟨k1, k2, k3, cv, e'⟩ | ⟨k1, k2, k3, k4, cv, cs, e'⟩ | ⟨k1, k2, k3, k4, k5, cv, cw, e'⟩ | e'
    · rw [e'] at e; cases e; omega
    · rw [e'] at e; cases e
      rcases (by omega : k = 0 ∨ k = 1) with rfl | rfl <;> omega
    · rw [e'] at e; cases e
      rcases (by omega : k = 0 ∨ k = 1 ∨ k = 2) with rfl | rfl | rfl <;> omega
    · rw [e'] at e; cases e
      rcases (by omega : k = 0 ∨ k = 1 ∨ k = 2 ∨ k = 3) with rfl | rfl | rfl | rfl <;> omega
    · rw [e'] at e; cases e; omega
  intro x hx
  obtain ⟨k, hk⟩ := List.getElem?_of_mem hx
  have hkm : k < m := by
    have := lt_of_get hk
    rw [List.length_take] at this; omega
  rw [List.getElem?_take_of_lt hkm] at hk
  have h := key k hkm
  simp only [List.getD, hk, Option.getD_some] at h
  exact h
def okH (x : Nat) : Bool := decide (32 ≤ (hexS.getD (x / 16) 0).toNat ∧ (hexS.getD (x / 16) 0).toNat ≠ 127) && decide (32 ≤ (hexS.getD (x % 16) 0).toNat ∧ (hexS.getD (x % 16) 0).toNat ≠ 127)
theorem escB_ok (b : UInt8) : ∀ x ∈ escB b, 32 ≤ x.toNat ∧ x.toNat ≠ 127 := by
  have h : okH b.toNat = true := all256 (P := okH) (by kernel_rfl) b
  unfold okH at h
  rw [Bool.and_eq_true, decide_eq_true_eq, decide_eq_true_eq] at h
  intro x hx
  unfold escB at hx
  split at hx
  · rename_i q
    simp only [List.mem_cons, List.not_mem_nil, or_false] at hx
    rcases hx with rfl | rfl
    · decide
    · omega
  · split at hx
    · simp only [List.mem_cons, List.not_mem_nil, or_false] at hx
      subst hx; omega
    · simp only [hexB, List.mem_cons, List.not_mem_nil, or_false] at hx
      rcases hx with rfl | rfl | rfl | rfl
      · decide
      · decide
      · exact h.1
      · exact h.2
theorem qS_ok : ∀ (n : Nat) (l : List UInt8), ∀ x ∈ qS n l, 32 ≤ x.toNat ∧ x.toNat ≠ 127
  | 0, l, x, hx => by simp [qS] at hx
  | n + 1, [], x, hx => by simp [qS] at hx
  | n + 1, b :: t, x, hx => by
    simp only [qS] at hx
    split at hx
    · rename_i q
      rcases List.mem_append.1 hx with hx | hx
      · have hle := longS_le b t
        simp only [longS] at q hx hle
        split at q
        · rename_i q2
          rw [if_pos q2] at hx hle
          have := take_big (b := b) (t := t) (r := (Lib.decodeL (b :: t)).1) (m := (Lib.decodeL (b :: t)).2) rfl q2.2 hle x hx
          omega
        · omega
      · exact qS_ok n _ x hx
    · rcases List.mem_append.1 hx with hx | hx
      · exact escB_ok b x hx
      · exact qS_ok n t x hx
theorem f5_loop (q : List UInt8) (hq : q.length ≤ 2000) (h : ∀ x ∈ q, 32 ≤ x.toNat ∧ x.toNat ≠ 127) : ∀ (n i : Nat), i ≤ q.length → q.length < n + i → f5_l1 q n (i : Int) = some (.inr ())
  | 0, i, h0, h1 => by omega
  | n + 1, i, h0, h1 => by
    rw [f5_l1]
    by_cases hi : i < q.length
    · obtain ⟨b, hb⟩ : ∃ b, q[i]? = some b := ⟨q[i], List.getElem?_eq_getElem hi⟩
      have hm := h b (List.mem_of_getElem? hb)
      rw [if_pos (by omega), rd_nat, hb]
      simp only [Option.bind_some]
      rw [if_neg (by omega), if_neg (by omega), show IntKind.i64.wrap ((i : Int) + 1) = ((i + 1 : Nat) : Int) from wr64 (n := 1) (by omega)]
      exact f5_loop q hq h n (i + 1) (by omega) (by omega)
    · rw [if_neg (by omega)]
theorem back {s : List UInt8} (hs : s.length ≤ 300) : f12 2000 ([34] ++ qS 2000 s ++ [34]) = some (s, 0) := by
  have hl := qS_len 2000 s
  have hlen : ([34] ++ qS 2000 s ++ [34]).length = (qS 2000 s).length + 2 := by simp
  have h := rb_loop ([34] ++ qS 2000 s ++ [34]) (by omega) 2000 s [] 1 (by omega) rfl (by omega) (by simp; omega)
  rw [show ((1 : Nat) : Int) = 1 from rfl] at h
  have hne : ¬ ([34] ++ qS 2000 s ++ [34]) = ([] : List UInt8) := by simp
  have hr : rd ([34] ++ qS 2000 s ++ [34]) 0 = some 34 := rfl
  have c1 : (((34 : UInt8).toNat : Nat) : Int) = 34 := rfl
  unfold f12 f16
  simp only [hne, if_false, hr, Option.bind_some, c1, if_true, h, List.nil_append]
  rw [if_neg (by rw [hlen]; omega)]
theorem pure5 : Pure5 := by
  intro x0 x1 _ _
  refine ⟨2000, ?_⟩
  unfold f5
  have h8 : f9 = some true := rfl
  by_cases h0 : (x0.length : Int) > 200
  · rw [if_pos h0, h8]; rfl
  · rw [if_neg h0]
    by_cases h1 : (x1.length : Int) > 200
    · rw [if_pos h1, h8]; rfl
    · rw [if_neg h1]
      have hx : x0.length ≤ 300 := by omega
      have hy : x1.length ≤ 300 := by omega
      have hl := qS_len 2000 x0
      rw [f13_eq hx]
      simp only [Option.bind_some]
      rw [back hx]
      simp only [Option.bind_some]
      have hok : ∀ x ∈ ([34] ++ qS 2000 x0 ++ [34] : List UInt8), 32 ≤ x.toNat ∧ x.toNat ≠ 127 := by
        intro x hm
        simp only [List.mem_append, List.mem_singleton] at hm
        rcases hm with (rfl | hm) | rfl
        · decide
        · exact qS_ok _ _ x hm
        · decide
      have := f5_loop _ (by simp; omega) hok 2000 0 (by omega) (by simp; omega)
      rw [show ((0 : Nat) : Int) = 0 from rfl] at this
      rw [this, f13_eq hy]
      simp only [Option.bind_some, if_true]
      have key : (decide (([34] ++ qS 2000 x0 ++ [34] : List UInt8) = [34] ++ qS 2000 x1 ++ [34]) == decide (x0 = x1)) = true := by
        by_cases e : x0 = x1
        · subst e; simp
        · have : ¬ ([34] ++ qS 2000 x0 ++ [34] : List UInt8) = [34] ++ qS 2000 x1 ++ [34] := by
            intro q
            have b0 := back hx
            rw [q, back hy] at b0
            simp only [Option.some.injEq, Prod.mk.injEq, and_true] at b0
            exact e b0.symm
          rw [decide_eq_false this, decide_eq_false e]; rfl
      rw [key, h8]; rfl
end Go.Proofs.YtgmejigjajcbfaaDoor

set_option linter.unusedVariables false
namespace Go.Proofs.YtgmejigjajcbfaaDoor
open Go Go.Det Go.RowKit
theorem star : "*" ++ "errors.errorString" = "*errors.errorString" := by decide
theorem row124 (u : TypeId) (h : Tryd.prog.typeName? 3 u = some "*errors.errorString") : u = 124 :=
  typeName_ptr_named (nm := "errors.errorString") (by rw [star]; kernel_rfl) (by kernel_rfl) (by decide) u (by rw [star]; exact h)
theorem cells126 : Tryd.prog.cellsOf 126 = 1 := by kernel_rfl
theorem cells9 : Tryd.prog.cellsOf 9 = 1 := by kernel_rfl
theorem lt_cell {w : World} {g : Nat} {v : Value} (h : w.cell? ⟨g, 0, none⟩ = some v) : g < w.heap.size := by
  unfold World.cell? at h
  split at h
  · rename_i hh; exact (Array.getElem?_eq_some_iff.1 hh).1
  · cases h
theorem chunks : ∀ (n s : Nat) (l : List Value), l.length = 2 * n → (∀ i, i < n → (l.drop (i * 2)).take 2 = [.int .u8 (Lib.accLo (s + i) : Int), .int .u8 (Lib.accHi (s + i) : Int)]) → l = accCells (List.range' s n)
  | 0, s, l, h, _ => by
    have : l = [] := List.length_eq_zero_iff.1 (by simpa using h)
    subst this; rfl
  | n + 1, s, l, h, k => by
    rcases l with _ | ⟨a, _ | ⟨b, r⟩⟩
    · simp at h
    · simp at h; omega
    · have k0 := k 0 (by omega)
      simp only [Nat.zero_mul, List.drop_zero, List.take_succ_cons, List.take_zero, Nat.add_zero, List.cons.injEq, and_true] at k0
      obtain ⟨rfl, rfl⟩ := k0
      rw [List.range'_succ, accCells, ← chunks n (s + 1) r (by simp at h; omega) (fun i hi => by
        have := k (i + 1) (by omega)
        rw [show s + (i + 1) = s + 1 + i by omega, Nat.succ_mul] at this
        simpa using this)]
set_option maxRecDepth 100000 in
theorem laid_acc {W : World} (h4 : Lib.VarReads Tryd.prog W "unicode/utf8.acceptRanges" Lib.acceptData) : 1 < W.heap.size ∧ ∃ t fr, W.heap[1]? = some (.cells ⟨accCells (List.range 16)⟩ t fr) := by
  obtain ⟨g, t, cs, fuel, p, hg, hty, hv, hd⟩ := h4
  have hg1 : g = 1 := Option.some.inj (hg.symm.trans (by kernel_rfl))
  subst hg1
  have ht1 : t = 90 := Option.some.inj (hty.symm.trans (by kernel_rfl))
  subst ht1
  have hu : Tryd.prog.underlying 90 = some (.array 16 89) := by kernel_rfl
  have hc : Tryd.prog.cellsOf 89 = 2 := by kernel_rfl
  have hct : Tryd.prog.cellsOf 90 = 32 := by kernel_rfl
  have hl : cs.toList.length = 32 := by
    cases fuel with
    | zero => simp [DataW.trod] at hd
    | succ fuel =>
      simp only [DataW.trod, hu, hc] at hd
      split at hd
      · rename_i q; exact q.trans hct
      · cases hd
  have hcs := chunks 16 0 cs.toList (by rw [hl]) (fun i hi => by
    obtain ⟨fuel', d, q, hdi, he⟩ := Lib.array_elem hu hd i hi
    simp only [Lib.acceptData, List.getElem?_map, List.getElem?_range hi, Option.map_some, Option.some.injEq] at hdi
    subst hdi
    rw [hc] at he
    have := Lib.ints_of_struct (fs := (match Tryd.prog.underlying 89 with | some (.struct fs) => fs | _ => #[])) (k := .u8) (by kernel_rfl) (fun j f hj => by
      match j, hj with
      | 0, hj => cases hj; exact ⟨by kernel_rfl, by kernel_rfl, by kernel_rfl⟩
      | 1, hj => cases hj; exact ⟨by kernel_rfl, by kernel_rfl, by kernel_rfl⟩
      | j + 2, hj => have : (match Tryd.prog.underlying 89 with | some (.struct fs) => fs | _ => #[]).size = 2 := by kernel_rfl
                     rw [Array.getElem?_eq_none (by rw [this]; omega)] at hj; cases hj) (by kernel_rfl) he
    rw [this, Nat.zero_add]; rfl)
  rw [← List.range_eq_range'] at hcs
  unfold World.var? at hv
  rw [hg] at hv
  simp only [Option.bind_some] at hv
  split at hv
  · rename_i c1 t1 f1 hh
    cases hv
    refine ⟨(Array.getElem?_eq_some_iff.1 hh).1, t1, f1, ?_⟩
    rw [hh, ← hcs]
  · cases hv
/-- What the row lists is what the walks ask for. -/
theorem known {W : World} {a b : String × DataW Unit} (h : laidMet Tryd.prog [a, b, ("internal/strconv.uint64pow10", Rows.laid_internal_strconv_uint64pow10), ("unicode/utf8.acceptRanges", Rows.laid_unicode_utf8_acceptRanges), ("strconv.ErrRange", Rows.laid_strconv_ErrRange), ("strconv.ErrSyntax", Rows.laid_strconv_ErrSyntax), ("unicode/utf8.first", Rows.laid_unicode_utf8_first)] W) (hs : W.ShapedOpen Tryd.prog) : Laid W W.heap.size := by
  have e0 : (Rows.laid_unicode_utf8_first : DataW Unit) = Lib.tabData .u8 Lib.firstTab := by kernel_rfl
  have e1 : (Rows.laid_unicode_utf8_acceptRanges : DataW Unit) = Lib.acceptData := by kernel_rfl
  have e2 : (Rows.laid_internal_strconv_uint64pow10 : DataW Unit) = Lib.tabData .u64 Lib.pow10Tab := by kernel_rfl
  have k0 := laid_tab (g := 0) (n := 256) (by kernel_rfl) (t := 87) (e := 5) (by kernel_rfl) (by kernel_rfl) (by kernel_rfl) (by kernel_rfl) (by kernel_rfl) (e0 ▸ Lib.laidMet.reads h (n := "unicode/utf8.first") (d := Rows.laid_unicode_utf8_first) (by simp))
  have k1 := laid_acc (e1 ▸ Lib.laidMet.reads h (n := "unicode/utf8.acceptRanges") (d := Rows.laid_unicode_utf8_acceptRanges) (by simp))
  have k2 := laid_tab (g := 5) (n := 20) (by kernel_rfl) (t := 134) (e := 116) (by kernel_rfl) (by kernel_rfl) (by kernel_rfl) (by kernel_rfl) (by kernel_rfl) (e2 ▸ Lib.laidMet.reads h (n := "internal/strconv.uint64pow10") (d := Rows.laid_internal_strconv_uint64pow10) (by simp))
  have h3 := h.tail.tail.tail.tail
  have h4 := h3.tail
  obtain ⟨a4, s4, v4, _⟩ := laid_sentinel (g := 3) (ti := 58) (tp := 124) (te := 126) (ts := 9) h4 (by kernel_rfl) (by kernel_rfl) Tryd.underlying58 row124 Tryd.underlying124 Tryd.underlying126 rfl rfl Tryd.underlying9 cells126 cells9
  obtain ⟨a3, s3, v3, _⟩ := laid_sentinel (g := 4) (ti := 58) (tp := 124) (te := 126) (ts := 9) h3 (by kernel_rfl) (by kernel_rfl) Tryd.underlying58 row124 Tryd.underlying124 Tryd.underlying126 rfl rfl Tryd.underlying9 cells126 cells9
  have c4 : W.cell? ⟨3, 0, none⟩ = some (.iface 124 (.pointer (some a4))) := by simpa using World.var?_cell (g := 3) (by kernel_rfl) v4 0
  have c3 : W.cell? ⟨4, 0, none⟩ = some (.iface 124 (.pointer (some a3))) := by simpa using World.var?_cell (g := 4) (by kernel_rfl) v3 0
  refine ⟨fun p hp => ?_, fun g hg => ?_, fun g hg => ?_⟩
  · simp only [seatCells, List.mem_cons, List.mem_nil_iff, or_false] at hp
    rcases hp with rfl | rfl | rfl
    · exact k0
    · exact k1
    · exact k2
  · simp [seatInts] at hg
  · simp only [seatIfs, List.mem_cons, List.mem_nil_iff, or_false] at hg
    rcases hg with rfl | rfl
    · exact ⟨lt_cell c4, _, _, c4⟩
    · exact ⟨lt_cell c3, _, _, c3⟩
end Go.Proofs.YtgmejigjajcbfaaDoor
