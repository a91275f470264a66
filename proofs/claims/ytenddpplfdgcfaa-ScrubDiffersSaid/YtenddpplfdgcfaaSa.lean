import Derived.Test.YtenddpplfdgcfaaD33
import Derived.Test.YtenddpplfdgcfaaChecked
import Derived.Test.YtenddpplfdgcfaaD35
import Derived.Test.YtenddpplfdgcfaaD36
import Derived.Test.YtenddpplfdgcfaaD37
import Derived.Test.YtenddpplfdgcfaaD38
import Derived.Test.YtenddpplfdgcfaaD39
namespace Go.Proofs.Ytenddpplfdgcfaa
open Go Go.Det Go.RowKit


/-- A list of whole numbers in memory. -/
def Ints (H : Hp) (a : Option Addr) (cap : Nat) (l : List Int) : Prop := Sl H 1 a l.length cap (l.map (Value.int .i64))
theorem Ints.at {H : Hp} {a : Option Addr} {cap : Nat} {l : List Int} (h : Ints H a cap l) {i : Nat} {x : Int} (hx : l[i]? = some x) : ∃ p, indexAddrD Try.prog 22 (.slice a l.length cap) (.int .i64 (i : Nat)) = some p ∧ loadD Try.prog H 3 p = some (.int .i64 x) :=
  Sl.at1 h (e := 3) (by kernel_rfl) (by kernel_rfl) (by kernel_rfl) (by simp [hx])
theorem Ints.mono {H H' : Hp} (x : Ext H H') {a : Option Addr} {cap : Nat} {l : List Int} (h : Ints H a cap l) : Ints H' a cap l := Sl.mono x h
/-- The address of a place, and what lies there, in all heaps that come after. -/
theorem Ints.at' {H : Hp} {a : Option Addr} {cap : Nat} {l : List Int} (h : Ints H a cap l) {i : Nat} {x : Int} (hx : l[i]? = some x) : ∃ p, indexAddrD Try.prog 22 (.slice a l.length cap) (.int .i64 (i : Nat)) = some p ∧ ∀ H', Ext H H' → loadD Try.prog H' 3 p = some (.int .i64 x) := by
  obtain ⟨p, h1, _⟩ := h.at hx
  refine ⟨p, h1, fun H' e => ?_⟩
  obtain ⟨q, g1, g2⟩ := (h.mono e).at hx
  rw [h1] at g1; cases g1; exact g2

def modS (a b : Int) : Int := if b < 1 then 0 else if a.tmod b < 0 then IntKind.i64.wrap (a.tmod b + b) else a.tmod b
theorem mod_ok (H : Hp) (a b : Int) : SCall Try.prog 18 [.int .i64 a, .int .i64 b] H (Ret fun v H' => Ext H H' ∧ v = .int .i64 (modS a b)) := by
  refine SCall.v Try.func18 rfl rfl rfl rfl rfl (l := [(0, .v (.int .i64 a)), (1, .v (.int .i64 b))]) (fun _ => rfl) ?_
  refine VJ.cm 100 rfl rfl rfl rfl rfl rfl rfl rfl rfl (fun h => ?_) (fun h => ?_) <;> simp only [decide_eq_true_eq, decide_eq_false_iff_not] at h
  · refine VJ.rt1 100 rfl rfl fun ids H' fr => ⟨fr.ext0, ?_⟩
    simp [modS, h]
  · refine VJ.hd 100 rfl rfl rfl rfl (fun ids H' fr => opD_bin rfl (evV_eq _ _ _ _ _ rfl) (evV_eq _ _ _ _ _ rfl) (bin_rem (by omega))) rfl ?_
    refine VJ.cm 100 rfl rfl rfl rfl rfl rfl rfl rfl rfl (fun h1 => ?_) (fun h1 => ?_) <;> simp only [decide_eq_true_eq, decide_eq_false_iff_not] at h1
    · refine VJ.rt1 100 rfl rfl fun ids H' fr => ⟨fr.ext0, ?_⟩
      simp [modS, h, h1]
    · refine VJ.rt1 100 rfl rfl fun ids H' fr => ⟨fr.ext0, ?_⟩
      simp [modS, h, h1]

def badGap (g : Int) : Bool := decide (g < 1) || decide (g > 1000)
theorem f34_ok (H : Hp) (g : Int) : SCall Try.prog 34 [.int .i64 g] H (Ret fun v H' => Ext H H' ∧ ∃ b, v = .bool b ∧ badGap g = b) := by
  refine SCall.v Try.func34 rfl rfl rfl rfl rfl (l := [(0, .v (.int .i64 g))]) (fun _ => rfl) ?_
  refine VJ.cm 100 rfl rfl rfl rfl rfl rfl rfl rfl rfl (fun h => ?_) (fun h => ?_) <;> simp only [decide_eq_true_eq, decide_eq_false_iff_not] at h
  · refine VJ.rt1 100 rfl rfl fun ids H' fr => ⟨fr.ext0, _, rfl, ?_⟩
    simp [badGap, h]
  · refine VJ.cm 100 rfl rfl rfl rfl rfl rfl rfl rfl rfl (fun h1 => ?_) (fun h1 => ?_) <;> simp only [decide_eq_true_eq, decide_eq_false_iff_not] at h1
    · refine VJ.rt1 100 rfl rfl fun ids H' fr => ⟨fr.ext0, _, rfl, ?_⟩
      simp [badGap, h, h1]
    · refine VJ.rt1 100 rfl rfl fun ids H' fr => ⟨fr.ext0, _, rfl, ?_⟩
      simp [badGap, h, h1]

def findS (p : Int → Bool) : List Int → Nat → Int
  | [], _ => -1
  | x :: l, i => if p x then (i : Int) else findS p l (i + 1)
theorem findS_step {p : Int → Bool} {l : List Int} {i : Nat} {x : Int} (h : l[i]? = some x) : findS p (l.drop i) i = if p x then (i : Int) else findS p (l.drop (i + 1)) (i + 1) := by
  obtain ⟨hi, rfl⟩ := List.getElem?_eq_some_iff.1 h
  rw [List.drop_eq_getElem_cons hi]; rfl

set_option maxRecDepth 10000 in
theorem indexFunc_ok {H : Hp} {a : Option Addr} {cap : Nat} {l : List Int} (hl : Ints H a cap l) (hsz : l.length < 1000000) :
    SCall Try.prog 35 [.slice a l.length cap, .func (.func 34) ⟨[]⟩ ⟨[]⟩] H (Ret fun v H' => Ext H H' ∧ v = .int .i64 (findS badGap l 0)) := by
  refine SCall.v Try.func35 rfl rfl rfl rfl rfl (l := [(0, .v (.slice a l.length cap)), (1, .v (.func (.func 34) ⟨[]⟩ ⟨[]⟩))]) (fun _ => rfl) ?_
  refine VJ.lp 100 0 true (α := Nat × Hp) (fun y => [(0, .v (.slice a l.length cap)), (1, .v (.func (.func 34) ⟨[]⟩ ⟨[]⟩)), (7, .v (.int .i64 l.length)), (8, .v (.int .i64 (y.1 : Nat)))]) (fun _ => []) (fun y => y.2) (fun y => l.length - y.1)
    (fun y => y.1 ≤ l.length ∧ findS badGap l 0 = findS badGap (l.drop y.1) y.1 ∧ Ext H y.2) (0, H) rfl ⟨Nat.zero_le _, rfl, Ext.refl H⟩ ⟨rfl, rfl, rfl, rfl, trivial⟩ rfl rfl (fun _ => rfl) rfl ?_
  rintro ⟨i, M⟩ ⟨hi, hfi, hx⟩ ih
  refine VJ.cm 100 rfl rfl rfl rfl rfl rfl rfl rfl rfl (fun h => ?_) (fun h => ?_) <;> simp only [decide_eq_true_eq, decide_eq_false_iff_not] at h
  · have hi : i < l.length := by omega
    obtain ⟨x, hxi⟩ : ∃ x, l[i]? = some x := ⟨l[i], by simp⟩
    obtain ⟨q, hq1, hq2⟩ := (hl.mono hx).at' hxi
    simp only [findS_step hxi] at hfi
    refine VJ.hd 100 rfl rfl rfl rfl (fun ids H' fr => opD_indexAddr rfl (evV_eq _ _ _ _ _ rfl) (evV_eq _ _ _ _ _ rfl) hq1) rfl ?_
    refine VJ.hd 100 rfl rfl rfl rfl (fun ids H' fr => opD_load rfl (evV_eq _ _ _ _ _ rfl) (hq2 _ (fr.extB rfl))) rfl ?_
    refine VJ.cl 100 rfl (fun ids H' fr => f34_ok H' x) ?_
    rintro v H' h0 hB ⟨b, rfl, hb⟩
    cases b
    · refine ⟨_, rfl, ?_⟩
      simp only [hb] at hfi
      refine VJ.ag 100 rfl ?_ rfl rfl (fun _ => rfl) rfl (ih (i + 1, H') ⟨by omega, hfi, hx.trans (hB rfl)⟩ (by show l.length - (i + 1) < l.length - i; omega))
      exact ⟨rfl, rfl, rfl, by rw [← wrap_succ (by omega)]; rfl, trivial⟩
    · refine ⟨_, rfl, ?_⟩
      simp only [hb] at hfi
      refine VJ.rt1 100 rfl rfl fun ids H'' fr => ⟨fr.ext0, ?_⟩
      rw [hfi]; rfl
  · refine VJ.rt1 100 rfl rfl fun ids H'' fr => ⟨fr.ext0, ?_⟩
    rw [hfi, List.drop_eq_nil_iff.2 (by show l.length ≤ i; omega)]; rfl

def checkS (l : List Int) : Int × Int :=
  if (l.length : Int) < 1 ∨ (l.length : Int) ≥ 64 then (4, 0) else if findS badGap l 0 ≥ 0 then (2, findS badGap l 0) else (0, 0)
theorem shaftCheck_ok {H : Hp} {a : Option Addr} {cap : Nat} {l : List Int} (hl : Ints H a cap l) :
    SCall Try.prog 25 [.slice a l.length cap] H (Ret fun v H' => Ext H H' ∧ v = .tuple ⟨[.int .i64 (checkS l).1, .int .i64 (checkS l).2]⟩) := by
  refine SCall.v Try.func25 rfl rfl rfl rfl rfl (l := [(0, .v (.slice a l.length cap))]) (fun _ => rfl) ?_
  refine VJ.cm 100 rfl rfl rfl rfl rfl rfl rfl rfl rfl (fun h => ?_) (fun h => ?_) <;> simp only [decide_eq_true_eq, decide_eq_false_iff_not] at h
  · refine VJ.rt2 100 rfl rfl fun ids H' fr => ⟨fr.ext0, ?_⟩
    simp only [checkS, h, true_or, if_true]
  · refine VJ.cm 100 rfl rfl rfl rfl rfl rfl rfl rfl rfl (fun h1 => ?_) (fun h1 => ?_) <;> simp only [decide_eq_true_eq, decide_eq_false_iff_not] at h1
    · refine VJ.rt2 100 rfl rfl fun ids H' fr => ⟨fr.ext0, ?_⟩
      simp only [checkS, h1, or_true, if_true]
    · refine VJ.cl 100 rfl (fun ids H' fr => indexFunc_ok (hl.mono (fr.extB rfl)) (by omega)) ?_
      rintro v H' h0 hB rfl
      refine ⟨_, rfl, ?_⟩
      have hc : checkS l = if findS badGap l 0 ≥ 0 then (2, findS badGap l 0) else (0, 0) := by
        simp only [checkS, h, h1, or_self, if_false]
      refine VJ.cm 100 rfl rfl rfl rfl rfl rfl rfl rfl rfl (fun h2 => ?_) (fun h2 => ?_) <;> simp only [decide_eq_true_eq, decide_eq_false_iff_not] at h2
      · refine VJ.rt2 100 rfl rfl fun ids H' fr => ⟨fr.ext0, ?_⟩
        rw [hc, if_pos h2]
      · refine VJ.rt2 100 rfl rfl fun ids H' fr => ⟨fr.ext0, ?_⟩
        rw [hc, if_neg h2]
end Go.Proofs.Ytenddpplfdgcfaa

namespace Go.Proofs.Ytenddpplfdgcfaa
open Go Go.Det Go.RowKit

structure Shown where
  d : Int
  sv : Bool
  fa : Bool
  ho : Bool
  at_ : Int
  pa : Int
def Shown.cs (x : Shown) : List Value := [.int .i64 x.d, .bool x.sv, .bool x.fa, .bool x.ho, .int .i64 x.at_, .int .i64 x.pa]
def Shown.val (x : Shown) : Value := .agg ⟨[.int .i64 x.d, .bool x.sv, .bool x.fa, .bool x.ho, .int .i64 x.at_, .int .i64 x.pa]⟩
structure Sight where
  floor : Int
  panel : Int
  out : Bool
  deriving DecidableEq
def Sight.cs (x : Sight) : List Value := [.int .i64 x.floor, .int .i64 x.panel, .bool x.out]
def Sight.val (x : Sight) : Value := .agg ⟨[.int .i64 x.floor, .int .i64 x.panel, .bool x.out]⟩

theorem f40_ok (H : Hp) (x : Shown) : SCall Try.prog 40 [x.val] H (Ret fun v H' => Ext H H' ∧ v = (Sight.mk (-1) 0 false).val) := by
  refine SCall.v Try.func40 rfl rfl rfl rfl rfl (l := [(0, .v x.val)]) (fun _ => rfl) ?_
  exact VJ.rt1 100 rfl rfl fun ids H' fr => ⟨fr.ext0, rfl⟩
theorem f41_ok (H : Hp) (d : Int) (x : Shown) : SCall Try.prog 41 [.int .i64 d, x.val] H (Ret fun v H' => Ext H H' ∧ ∃ b, v = .bool b ∧ decide (x.d ≠ d) = b) := by
  refine SCall.v Try.func41 rfl rfl rfl rfl rfl (l := [(0, .v (.int .i64 d)), (1, .v x.val)]) (fun _ => rfl) ?_
  refine VJ.cm 100 rfl rfl rfl rfl rfl rfl rfl rfl rfl (fun h => ?_) (fun h => ?_)
  · exact VJ.rt1 100 rfl rfl fun ids H' fr => ⟨fr.ext0, _, rfl, by simpa using h⟩
  · exact VJ.rt1 100 rfl rfl fun ids H' fr => ⟨fr.ext0, _, rfl, by simpa using h⟩
theorem f42_ok (H : Hp) (d : Int) (x : Shown) : SCall Try.prog 42 [.int .i64 d, x.val] H (Ret fun v H' => Ext H H' ∧ ∃ b, v = .bool b ∧ (!x.sv) = b) := by
  refine SCall.v Try.func42 rfl rfl rfl rfl rfl (l := [(0, .v (.int .i64 d)), (1, .v x.val)]) (fun _ => rfl) ?_
  exact VJ.rt1 100 rfl rfl fun ids H' fr => ⟨fr.ext0, _, rfl, rfl⟩
theorem f43_ok (H : Hp) (x : Shown) : SCall Try.prog 43 [x.val] H (Ret fun v H' => Ext H H' ∧ v = (Sight.mk (-1) 0 true).val) := by
  refine SCall.v Try.func43 rfl rfl rfl rfl rfl (l := [(0, .v x.val)]) (fun _ => rfl) ?_
  exact VJ.rt1 100 rfl rfl fun ids H' fr => ⟨fr.ext0, rfl⟩
theorem f44_ok (H : Hp) (d : Int) (x : Shown) : SCall Try.prog 44 [.int .i64 d, x.val] H (Ret fun v H' => Ext H H' ∧ ∃ b, v = .bool b ∧ x.fa = b) := by
  refine SCall.v Try.func44 rfl rfl rfl rfl rfl (l := [(0, .v (.int .i64 d)), (1, .v x.val)]) (fun _ => rfl) ?_
  exact VJ.rt1 100 rfl rfl fun ids H' fr => ⟨fr.ext0, _, rfl, rfl⟩
theorem f45_ok (H : Hp) (x : Shown) : SCall Try.prog 45 [x.val] H (Ret fun v H' => Ext H H' ∧ v = (Sight.mk (-1) x.pa true).val) := by
  refine SCall.v Try.func45 rfl rfl rfl rfl rfl (l := [(0, .v x.val)]) (fun _ => rfl) ?_
  exact VJ.rt1 100 rfl rfl fun ids H' fr => ⟨fr.ext0, rfl⟩
theorem f46_ok (H : Hp) (d : Int) (x : Shown) : SCall Try.prog 46 [.int .i64 d, x.val] H (Ret fun v H' => Ext H H' ∧ ∃ b, v = .bool b ∧ x.ho = b) := by
  refine SCall.v Try.func46 rfl rfl rfl rfl rfl (l := [(0, .v (.int .i64 d)), (1, .v x.val)]) (fun _ => rfl) ?_
  exact VJ.rt1 100 rfl rfl fun ids H' fr => ⟨fr.ext0, _, rfl, rfl⟩
theorem f47_ok (H : Hp) (d : Int) (x : Shown) : SCall Try.prog 47 [.int .i64 d, x.val] H (Ret fun v H' => Ext H H' ∧ ∃ b, v = .bool b ∧ true = b) := by
  refine SCall.v Try.func47 rfl rfl rfl rfl rfl (l := [(0, .v (.int .i64 d)), (1, .v x.val)]) (fun _ => rfl) ?_
  exact VJ.rt1 100 rfl rfl fun ids H' fr => ⟨fr.ext0, _, rfl, rfl⟩
end Go.Proofs.Ytenddpplfdgcfaa

namespace Go.Proofs.Ytenddpplfdgcfaa
open Go Go.Det Go.RowKit

theorem load3 {H : Hp} {b o : Nat} {m : Det.Mode} {cs : List Value} {v : Value} (h : H.get b = some (.cells m cs)) (hv : cs[o]? = some v) : loadD Try.prog H 3 (.pointer (some ⟨b, o, none⟩)) = some v := by
  have : isAggD Try.prog 3 = some false := by kernel_rfl
  simp only [loadD, h, this, hv]
theorem store3 {H : Hp} {b o : Nat} {m : Det.Mode} {cs : List Value} {n : Int} (h : H.get b = some (.cells m cs)) (hm : m ≠ .old) (ho : o < cs.length) : storeD Try.prog H 3 (.pointer (some ⟨b, o, none⟩)) (.int .i64 n) = some (H.put b (.cells m (cs.set o (.int .i64 n)))) := by
  have : sizeD Try.prog 3 = some 1 := by kernel_rfl
  simp only [storeD, h, this]
  rw [if_pos ⟨hm, rfl, by show o + 1 ≤ _; omega, rfl⟩]
  rfl

theorem f52_ok (H : Hp) (g at_ : Int) (b : Nat) (hb : H.get b = some (.cells .fix [.int .i64 at_])) (hlt : b < H.next) :
    SCall Try.prog 52 [.int .i64 g, .pointer (some ⟨b, 0, none⟩)] H (Ret fun v H' => v = .int .i64 (IntKind.i64.wrap (at_ + g)) ∧ H'.get b = some (.cells .fix [.int .i64 (IntKind.i64.wrap (at_ + g))]) ∧ (∀ c, c ≠ b → c < H.next → H'.get c = H.get c) ∧ H.next ≤ H'.next) := by
  refine SCall.w Try.func52 rfl rfl rfl rfl rfl (l := [(0, .v (.int .i64 g)), (1, .v (.pointer (some ⟨b, 0, none⟩)))]) (fun _ => rfl) ?_
  refine VJ.hd 100 rfl rfl rfl rfl (fun ids H' fr => opD_load rfl (evV_eq _ _ _ _ _ rfl) (load3 (by rw [(fr.extB rfl).same b hlt]; exact hb) rfl)) rfl ?_
  refine VJ.hn (R := fun v H' => v = undef ∧ H'.get b = some (.cells .fix [.int .i64 (IntKind.i64.wrap (at_ + g))]) ∧ (∀ c, c ≠ b → c < H.next → H'.get c = H.get c) ∧ H.next ≤ H'.next) 100 rfl rfl rfl rfl (fun ids H' fr => ?_) ?_
  · have hb' : H'.get b = some (.cells .fix [.int .i64 at_]) := by rw [(fr.extB rfl).same b hlt]; exact hb
    refine ⟨_, _, opD_store rfl (evV_eq _ _ _ _ _ rfl) (evV_eq _ _ _ _ _ rfl) (store3 hb' (by decide) (by simp)), ⟨noHp_ext _, Nat.le_refl _, fun k hk => absurd hk (Nat.not_lt_zero _)⟩, rfl, by rw [Hp.get_put, if_pos rfl]; rfl, ?_, (fr.extB rfl).next⟩
    intro c hc hlt'
    rw [Hp.get_put, if_neg hc]; exact (fr.extB rfl).same c hlt'
  · rintro v H' h0 ⟨rfl, h1, h2, h3⟩
    refine ⟨_, rfl, ?_⟩
    refine VJ.hd 100 rfl rfl rfl rfl (fun ids H'' fr => opD_load rfl (evV_eq _ _ _ _ _ rfl) (load3 (by rw [(fr.extB rfl).same b (by omega)]; exact h1) rfl)) rfl ?_
    refine VJ.rt1 100 rfl rfl fun ids H'' fr => ⟨rfl, ?_, ?_, ?_⟩
    · rw [(fr.extB rfl).same b (by omega)]; exact h1
    · intro c hc hlt'
      rw [(fr.extB rfl).same c (by omega)]; exact h2 c hc hlt'
    · exact Nat.le_trans h3 (fr.extB rfl).next
end Go.Proofs.Ytenddpplfdgcfaa

namespace Go.Proofs.Ytenddpplfdgcfaa
open Go Go.Det Go.RowKit

def psums : Int → List Int → List Int
  | a, [] => [a]
  | a, g :: l => a :: psums (a + g) l
theorem psums_length : ∀ (a : Int) (l : List Int), (psums a l).length = l.length + 1
  | _, [] => rfl
  | a, g :: l => by simp [psums, psums_length (a + g) l]
theorem psums_next : ∀ (a : Int) (l : List Int) (i : Nat) (x g : Int), (psums a l)[i]? = some x → l[i]? = some g → (psums a l)[i + 1]? = some (x + g)
  | a, [], i, x, g, _, h => by simp at h
  | a, y :: l, 0, x, g, h1, h2 => by
    simp only [psums, List.getElem?_cons_zero, Option.some.injEq] at h1 h2
    subst h1 h2
    simp only [psums, List.getElem?_cons_succ]
    cases l <;> rfl
  | a, y :: l, i + 1, x, g, h1, h2 => by
    simp only [psums, List.getElem?_cons_succ] at h1 h2 ⊢
    exact psums_next (a + y) l i x g h1 h2
theorem psums_bound : ∀ (a : Int) (l : List Int) (i : Nat) (x : Int), (∀ g ∈ l, 1 ≤ g ∧ g ≤ 1000) → (psums a l)[i]? = some x → a ≤ x ∧ x ≤ a + 1000 * i
  | a, [], i, x, _, h => by
    cases i with
    | zero => simp [psums] at h; omega
    | succ i => simp [psums] at h
  | a, y :: l, 0, x, _, h => by simp [psums] at h; omega
  | a, y :: l, i + 1, x, hl, h => by
    simp only [psums, List.getElem?_cons_succ] at h
    have h1 := hl y (List.mem_cons_self ..)
    have := psums_bound (a + y) l i x (fun g hg => hl g (List.mem_cons_of_mem _ hg)) h
    omega

/-- The row while it is summed up. -/
def part (l : List Int) (j : Nat) : List Int := (psums 0 l).take (j + 1) ++ l.drop j
theorem part_length {l : List Int} {j : Nat} (h : j ≤ l.length) : (part l j).length = l.length + 1 := by
  simp only [part, List.length_append, List.length_take, List.length_drop, psums_length]; omega
theorem part_get {l : List Int} {j : Nat} {g : Int} (h : l[j]? = some g) : (part l j)[j + 1]? = some g := by
  have hj := (List.getElem?_eq_some_iff.1 h).1
  have hlen : ((psums 0 l).take (j + 1)).length = j + 1 := by rw [List.length_take, psums_length]; omega
  simp only [part]
  rw [List.getElem?_append_right (by omega), hlen, Nat.sub_self, List.getElem?_drop]
  simpa using h
theorem part_set {l : List Int} {j : Nat} {g x : Int} (h : l[j]? = some g) (hx : (psums 0 l)[j + 1]? = some x) : (part l j).set (j + 1) x = part l (j + 1) := by
  have hj := (List.getElem?_eq_some_iff.1 h).1
  have hlen : ((psums 0 l).take (j + 1)).length = j + 1 := by rw [List.length_take, psums_length]; omega
  simp only [part]
  rw [List.set_append_right _ _ (by omega), hlen, Nat.sub_self]
  have hd : l.drop j = g :: l.drop (j + 1) := by
    rw [List.drop_eq_getElem_cons hj]
    obtain ⟨_, e⟩ := List.getElem?_eq_some_iff.1 h
    rw [e]
  rw [hd, List.set_cons_zero, List.take_add_one (i := j + 1), hx]
  simp
theorem part_end (l : List Int) : part l l.length = psums 0 l := by
  simp only [part]
  rw [List.drop_length, List.append_nil, List.take_of_length_le (by rw [psums_length]; omega)]
theorem part_zero (l : List Int) : part l 0 = 0 :: l := by
  cases l <;> simp [part, psums]

theorem findS_none : ∀ {p : Int → Bool} (l : List Int) (i : Nat), findS p l i < 0 → ∀ x ∈ l, p x = false
  | p, [], i, _, x, hx => by cases hx
  | p, y :: l, i, h, x, hx => by
    unfold findS at h
    cases hp : p y with
    | true => rw [hp] at h; simp at h; omega
    | false =>
      rw [hp] at h
      rcases List.mem_cons.1 hx with rfl | hx
      · exact hp
      · exact findS_none l (i + 1) (by simpa using h) x hx
/-- What sound gaps are. -/
theorem checkS_ok {l : List Int} (h : (checkS l).1 = 0) : 1 ≤ l.length ∧ l.length < 64 ∧ ∀ g ∈ l, 1 ≤ g ∧ g ≤ 1000 := by
  unfold checkS at h
  split at h
  · simp at h
  · rename_i h1
    split at h
    · simp at h
    · rename_i h2
      refine ⟨by omega, by omega, fun g hg => ?_⟩
      have := findS_none (p := badGap) l 0 (by omega) g hg
      simp [badGap] at this
      omega

theorem elem22 {c : Call} (h : c.argTypes = #[22, 22]) : Elem Try.prog c 22 3 1 8 :=
  ⟨by rw [h]; rfl, ⟨22, _, by rw [h]; rfl, Try.underlying22, by intro k q; cases q⟩, Try.underlying22, by kernel_rfl, by kernel_rfl, ⟨.int .i64 0, by kernel_rfl, rfl⟩, by omega⟩

theorem ownAddr {c n i : Nat} (h : i < n) : indexAddrD Try.prog 22 (.slice (some ⟨c, 0, none⟩) n LOOSE) (.int .i64 ((i : Nat) : Int)) = some (.pointer (some ⟨c, i, none⟩)) := by
  have : sizeD Try.prog 3 = some 1 := by kernel_rfl
  simp only [indexAddrD, Try.underlying22, this]
  rw [if_pos ⟨by omega, by omega⟩]
  simp
theorem pj_some {l : List Int} {j : Nat} (h : j ≤ l.length) : (psums 0 l)[j]? = some ((psums 0 l).getD j 0) := by
  rw [List.getD_eq_getElem?_getD, List.getElem?_eq_getElem (by rw [psums_length]; omega)]; rfl
theorem pj_step {l : List Int} {j : Nat} {g : Int} (h : l[j]? = some g) (hl : ∀ g ∈ l, 1 ≤ g ∧ g ≤ 1000) (hs : l.length < 64) : IntKind.i64.wrap ((psums 0 l).getD j 0 + g) = (psums 0 l).getD (j + 1) 0 ∧ (psums 0 l)[j + 1]? = some ((psums 0 l).getD (j + 1) 0) := by
  have hj := (List.getElem?_eq_some_iff.1 h).1
  have h1 := pj_some (l := l) (j := j) (by omega)
  have h2 := psums_next 0 l j _ g h1 h
  have h3 := pj_some (l := l) (j := j + 1) (by omega)
  have h4 := psums_bound 0 l j _ hl h1
  have h5 := hl g (List.mem_of_getElem? h)
  rw [h3] at h2
  refine ⟨?_, h3⟩
  rw [Option.some.inj h2]
  exact wrap_i64 (by omega) (by omega)

set_option maxRecDepth 10000 in
theorem positions_ok {H : Hp} {a : Option Addr} {cap : Nat} {l : List Int} (hl : Ints H a cap l) :
    SCall Try.prog 38 [.slice a l.length cap] H (Ret fun v H' => Ext H H' ∧ ∃ r c out, v = .tuple ⟨[.slice r (List.length out) c, .int .i64 (checkS l).1]⟩ ∧ Ints H' r c out ∧ out = if (checkS l).1 = 0 then psums 0 l else []) := by
  refine SCall.v Try.func38 rfl rfl rfl rfl rfl (l := [(0, .v (.slice a l.length cap))]) (fun _ => rfl) ?_
  refine VJ.cl 100 rfl (fun ids H' fr => shaftCheck_ok (hl.mono (fr.extB rfl))) ?_
  rintro v H1 h0 hB rfl
  have hB := hB rfl
  refine ⟨_, rfl, ?_⟩
  refine VJ.cm 100 rfl rfl rfl rfl rfl rfl rfl rfl rfl (fun h => ?_) (fun h => ?_)
  · refine VJ.rt2 100 rfl rfl fun ids H' fr => ⟨fr.ext0, none, 0, [], rfl, ⟨rfl, .inl ⟨rfl, rfl, rfl⟩⟩, ?_⟩
    have h : (checkS l).1 ≠ 0 := by simpa using h
    rw [if_neg h]
  · have h : (checkS l).1 = 0 := by simpa using h
    obtain ⟨g1, g2, g3⟩ := checkS_ok h
    have hl1 := hl.mono hB
    refine VJ.hn (R := fun v H' => ∃ b, v = .slice (some ⟨b, 0, none⟩) 1 1 ∧ H'.get b = some (.cells .fix [.int .i64 0]) ∧ b < H'.next ∧ Ext H1 H') 100 rfl rfl rfl rfl (fun ids H' fr => ?_) ?_
    · obtain ⟨k1, k2, k3⟩ := fr.here 1 _ rfl
      exact ⟨_, H', opD_slice rfl (evV_eq _ _ _ _ _ rfl) rfl rfl rfl rfl, ⟨fr.ext0, Nat.le_refl _, fun _ _ => rfl⟩, ids 1, rfl, k1, k2, fr.extB rfl⟩
    · rintro v H2 h02 ⟨b, rfl, hb, hbl, h12⟩
      refine ⟨_, rfl, ?_⟩
      have hl2 := hl1.mono h12
      refine VJ.hn (R := fun v H' => ∃ b, v = .slice (some ⟨b, 0, none⟩) (1 + l.length) LOOSE ∧ H'.get b = some (.cells (.more 1) ((part l 0).map (Value.int .i64))) ∧ H.next ≤ b ∧ b < H'.next) 100 rfl rfl rfl rfl (fun ids H' fr => ?_) ?_
      · have hb' : H'.get b = some (.cells .fix [.int .i64 0]) := by rw [(fr.extB rfl).same b hbl]; exact hb
        refine ⟨_, _, opD_append rfl rfl rfl (append_fix (elem22 rfl) rfl (hl2.mono (fr.extB rfl)).src (by omega) hb' (by decide) (by omega) (by omega) (by omega) (by simp)), fr.updExt (Ext.of_alloc _ _), H'.next, rfl, ?_, fr.ext0.next, by rw [Hp.next_alloc]; omega⟩
        rw [Hp.get_alloc, if_pos rfl, part_zero]; rfl
      · rintro v H3 h03 ⟨c, rfl, hc, hcl, hcn⟩
        refine ⟨_, rfl, ?_⟩
        refine VJ.lp 100 2 true (α := Nat × Hp) (fun y => [(7, .fn 52 [.p 0 0]), (9, .v (.slice (some ⟨c, 0, none⟩) (1 + l.length) LOOSE)), (10, .v (.int .i64 ((y.1 + 1 : Nat) : Int)))]) (fun y => [[.int .i64 ((psums 0 l).getD y.1 0)], [.int .i64 0]]) (fun y => y.2) (fun y => l.length - y.1)
          (fun y => y.1 ≤ l.length ∧ y.2.get c = some (.cells (.more 1) ((part l y.1).map (Value.int .i64))) ∧ c < y.2.next) (0, H3) rfl ⟨Nat.zero_le _, hc, hcn⟩ ⟨rfl, rfl, rfl, trivial⟩ (by cases l <;> rfl) rfl (fun _ => rfl) rfl ?_
        rintro ⟨j, M⟩ ⟨hj, hM, hMn⟩ ih
        simp only at hj hM hMn
        refine VJ.cm 100 rfl rfl rfl rfl rfl rfl rfl rfl rfl (fun h1 => ?_) (fun h1 => ?_) <;> simp only [decide_eq_true_eq, decide_eq_false_iff_not] at h1
        · have hj : j < l.length := by omega
          obtain ⟨g, hg⟩ : ∃ g, l[j]? = some g := ⟨l[j], by simp⟩
          obtain ⟨hw, hp⟩ := pj_step hg g3 g2
          have hmore : ∀ ids H', Fr H M true 2 [[.int .i64 ((psums 0 l).getD j 0)], [.int .i64 0]] ids H' → H'.get c = some (.cells (.more 1) ((part l j).map (Value.int .i64))) := fun ids H' fr => by rw [(fr.extB rfl).same c hMn]; exact hM
          refine VJ.hd 100 rfl rfl rfl rfl (fun ids H' fr => opD_indexAddr rfl (evV_eq _ _ _ _ _ rfl) (evV_eq _ _ _ _ _ rfl) (ownAddr (by omega))) rfl ?_
          refine VJ.hd 100 rfl rfl rfl rfl (fun ids H' fr => opD_load rfl (evV_eq _ _ _ _ _ rfl) (load3 (hmore ids H' fr) (v := .int .i64 g) (by rw [List.getElem?_map, part_get hg]; rfl))) rfl ?_
          refine VJ.cg 100 (loc' := [[.int .i64 ((psums 0 l).getD (j + 1) 0)], [.int .i64 0]]) (R := fun v H' => v = .int .i64 ((psums 0 l).getD (j + 1) 0) ∧ H'.get c = some (.cells (.more 1) ((part l j).map (Value.int .i64))) ∧ c < H'.next) rfl (fun ids H' fr => ?_) ?_
          · obtain ⟨k1, k2, k3⟩ := fr.here 0 _ rfl
            obtain ⟨m1, m2, m3⟩ := fr.here 1 _ rfl
            have hcc := hmore ids H' fr
            have hne : c ≠ ids 0 := by intro q; rw [← q, hcc] at k1; cases k1
            have hcn' : c < H'.next := Nat.lt_of_lt_of_le hMn (fr.extB rfl).next
            refine (f52_ok H' g _ (ids 0) k1 k2).mono ?_
            rintro e H'' ⟨v, rfl, rfl, q1, q2, q3⟩
            rw [hw] at q1
            refine ⟨_, rfl, ⟨⟨Nat.le_trans fr.ext0.next q3, fun d hd => ?_⟩, Nat.le_refl _, fun _ => Ext.refl _, ?_, fun k h2 h3 => by omega, fr.inj⟩, by rw [hw], ?_, by omega⟩
            · rw [q2 d (by omega) (by have := fr.ext0.next; omega)]; exact fr.ext0.same d hd
            · intro k cs hk
              match k, hk with
              | 0, hk => cases hk; exact ⟨q1, by omega, k3⟩
              | 1, hk =>
                cases hk
                have : ids 1 ≠ ids 0 := fun q => by have := fr.inj 1 0 (by simp) (by simp) q; omega
                exact ⟨by rw [q2 _ this m2]; exact m1, by omega, m3⟩
              | k + 2, hk => simp at hk
            · rw [q2 c hne hcn']; exact hcc
          · rintro v H4 h04 ⟨rfl, hc4, hn4⟩
            refine ⟨_, rfl, ?_⟩
            refine VJ.hd 100 rfl rfl rfl rfl (fun ids H' fr => opD_indexAddr rfl (evV_eq _ _ _ _ _ rfl) (evV_eq _ _ _ _ _ rfl) (ownAddr (by omega))) rfl ?_
            refine VJ.hn (R := fun v H' => v = undef ∧ H'.get c = some (.cells (.more 1) ((part l (j + 1)).map (Value.int .i64))) ∧ c < H'.next) 100 rfl rfl rfl rfl (fun ids H' fr => ?_) ?_
            · have hcc : H'.get c = some (.cells (.more 1) ((part l j).map (Value.int .i64))) := by rw [(fr.extB rfl).same c hn4]; exact hc4
              refine ⟨_, _, opD_store rfl (evV_eq _ _ _ _ _ rfl) (evV_eq _ _ _ _ _ rfl) (store3 hcc (by decide) (by rw [List.length_map, part_length (by omega)]; omega)), ⟨fr.ext0.put _ hcl, Nat.le_refl _, fun k hk => ?_⟩, rfl, ?_, Nat.lt_of_lt_of_le hn4 (fr.extB rfl).next⟩
              · obtain ⟨k1, _, _⟩ := fr.here k _ (List.getElem?_eq_getElem hk)
                rw [Hp.get_put, if_neg (fun q => by rw [q, hcc] at k1; cases k1)]
              · rw [Hp.get_put, if_pos rfl, ← part_set hg hp, List.map_set]
            · rintro v H5 h05 ⟨rfl, hc5, hn5⟩
              refine ⟨_, rfl, ?_⟩
              refine VJ.ag 100 rfl ?_ rfl rfl (fun _ => rfl) rfl (ih (j + 1, H5) ⟨by show j + 1 ≤ _; omega, hc5, hn5⟩ (by show l.length - (j + 1) < l.length - j; omega))
              refine ⟨rfl, rfl, ?_, trivial⟩
              show _ = some (SV.v (.int .i64 ((j + 1 + 1 : Nat) : Int)))
              rw [← wrap_succ (i := j + 1) (by omega)]; rfl
        · have hj : j = l.length := by omega
          subst hj
          refine VJ.rt2 100 rfl rfl fun ids H' fr => ⟨fr.ext0, some ⟨c, 0, none⟩, LOOSE, psums 0 l, ?_, ?_, ?_⟩
          · rw [psums_length, h, Nat.add_comm]
          · rw [part_end] at hM
            refine ⟨by simp, .inr ⟨c, 0, rfl, .inr ⟨_, _, by rw [(fr.extB rfl).same c hMn]; exact hM, Nat.lt_of_lt_of_le hMn (fr.extB rfl).next, by simp, ?_⟩⟩⟩
            simp [List.take_of_length_le]
          · rw [if_pos h]
end Go.Proofs.Ytenddpplfdgcfaa

namespace Go.Proofs.Ytenddpplfdgcfaa
open Go Go.Det Go.RowKit

def heightS (l : List Int) : Int × Int := if (checkS l).1 = 0 then ((psums 0 l).getD l.length 0, 0) else (0, (checkS l).1)
theorem height_ok {H : Hp} {a : Option Addr} {cap : Nat} {l : List Int} (hl : Ints H a cap l) :
    SCall Try.prog 29 [.slice a l.length cap] H (Ret fun v H' => Ext H H' ∧ v = .tuple ⟨[.int .i64 (heightS l).1, .int .i64 (heightS l).2]⟩) := by
  refine SCall.v Try.func29 rfl rfl rfl rfl rfl (l := [(0, .v (.slice a l.length cap))]) (fun _ => rfl) ?_
  refine VJ.cl 100 rfl (fun ids H' fr => positions_ok (hl.mono (fr.extB rfl))) ?_
  rintro v H1 h0 hB ⟨r, c, out, rfl, ho, he⟩
  refine ⟨_, rfl, ?_⟩
  refine VJ.cm 100 rfl rfl rfl rfl rfl rfl rfl rfl rfl (fun h => ?_) (fun h => ?_)
  · refine VJ.rt2 100 rfl rfl fun ids H' fr => ⟨fr.ext0, ?_⟩
    have h : (checkS l).1 ≠ 0 := by simpa using h
    simp only [heightS, if_neg h]
  · have h : (checkS l).1 = 0 := by simpa using h
    rw [if_pos h] at he
    have hlen : out.length = l.length + 1 := by rw [he, psums_length]
    have hx : out[l.length]? = some ((psums 0 l).getD l.length 0) := by rw [he]; exact pj_some (Nat.le_refl _)
    obtain ⟨q, hq1, hq2⟩ := ho.at' hx
    have hsz := (checkS_ok h).2.1
    have hw : IntKind.i64.wrap ((out.length : Int) - 1) = ((l.length : Nat) : Int) := by rw [wrap_i64 (by omega) (by omega)]; omega
    refine VJ.hd 100 rfl rfl rfl rfl (fun ids H' fr => opD_indexAddr rfl (evV_eq _ _ _ _ _ rfl) (evV_eq _ _ _ _ _ rfl) (by show indexAddrD Try.prog 22 (.slice r out.length c) (.int .i64 (IntKind.i64.wrap ((out.length : Int) - 1))) = _; rw [hw]; exact hq1)) rfl ?_
    refine VJ.hd 100 rfl rfl rfl rfl (fun ids H' fr => opD_load rfl (evV_eq _ _ _ _ _ rfl) (hq2 _ (fr.extB rfl))) rfl ?_
    refine VJ.rt2 100 rfl rfl fun ids H' fr => ⟨fr.ext0, ?_⟩
    simp only [heightS, if_pos h]

def carS (l : List Int) (x : Shown) : Int :=
  if (heightS l).2 ≠ 0 then (heightS l).2
  else if x.d < 0 ∨ x.d > 3 ∨ x.at_ < 0 ∨ x.at_ > (heightS l).1 ∨ x.pa < 0 ∨ x.pa > 20 then 2 else 0
set_option maxRecDepth 10000 in
theorem carCheck_ok {H : Hp} {a : Option Addr} {cap : Nat} {l : List Int} (hl : Ints H a cap l) (x : Shown) :
    SCall Try.prog 14 [.slice a l.length cap, x.val] H (Ret fun v H' => Ext H H' ∧ v = .int .i64 (carS l x)) := by
  refine SCall.v Try.func14 rfl rfl rfl rfl rfl (l := [(0, .v (.slice a l.length cap)), (1, .v x.val)]) (fun _ => rfl) ?_
  refine VJ.cl 100 rfl (fun ids H' fr => height_ok (hl.mono (fr.extB rfl))) ?_
  rintro v H1 h0 hB rfl
  refine ⟨_, rfl, ?_⟩
  refine VJ.cm 100 rfl rfl rfl rfl rfl rfl rfl rfl rfl (fun h => ?_) (fun h => ?_)
  · refine VJ.rt1 100 rfl rfl fun ids H' fr => ⟨fr.ext0, ?_⟩
    have h : (heightS l).2 ≠ 0 := by simpa using h
    simp only [carS, if_pos h]
  · have h : (heightS l).2 = 0 := by simpa using h
    have hc : carS l x = if x.d < 0 ∨ x.d > 3 ∨ x.at_ < 0 ∨ x.at_ > (heightS l).1 ∨ x.pa < 0 ∨ x.pa > 20 then 2 else 0 := by
      simp only [carS, h, ne_eq, not_true_eq_false, if_false]
    refine VJ.cm 100 rfl rfl rfl rfl rfl rfl rfl rfl rfl (fun h1 => ?_) (fun h1 => ?_) <;> simp only [decide_eq_true_eq, decide_eq_false_iff_not] at h1
    · exact VJ.rt1 100 rfl rfl fun ids H' fr => ⟨fr.ext0, by rw [hc, if_pos (by simp [h1])]⟩
    refine VJ.cm 100 rfl rfl rfl rfl rfl rfl rfl rfl rfl (fun h2 => ?_) (fun h2 => ?_) <;> simp only [decide_eq_true_eq, decide_eq_false_iff_not] at h2
    · exact VJ.rt1 100 rfl rfl fun ids H' fr => ⟨fr.ext0, by rw [hc, if_pos (by simp [h2])]⟩
    refine VJ.cm 100 rfl rfl rfl rfl rfl rfl rfl rfl rfl (fun h3 => ?_) (fun h3 => ?_) <;> simp only [decide_eq_true_eq, decide_eq_false_iff_not] at h3
    · exact VJ.rt1 100 rfl rfl fun ids H' fr => ⟨fr.ext0, by rw [hc, if_pos (by simp [h3])]⟩
    refine VJ.cm 100 rfl rfl rfl rfl rfl rfl rfl rfl rfl (fun h4 => ?_) (fun h4 => ?_) <;> simp only [decide_eq_true_eq, decide_eq_false_iff_not] at h4
    · exact VJ.rt1 100 rfl rfl fun ids H' fr => ⟨fr.ext0, by rw [hc, if_pos (by simp [h4])]⟩
    refine VJ.cm 100 rfl rfl rfl rfl rfl rfl rfl rfl rfl (fun h5 => ?_) (fun h5 => ?_) <;> simp only [decide_eq_true_eq, decide_eq_false_iff_not] at h5
    · exact VJ.rt1 100 rfl rfl fun ids H' fr => ⟨fr.ext0, by rw [hc, if_pos (by simp [h5])]⟩
    refine VJ.cm 100 rfl rfl rfl rfl rfl rfl rfl rfl rfl (fun h6 => ?_) (fun h6 => ?_) <;> simp only [decide_eq_true_eq, decide_eq_false_iff_not] at h6
    · exact VJ.rt1 100 rfl rfl fun ids H' fr => ⟨fr.ext0, by rw [hc, if_pos (by simp [h6])]⟩
    · exact VJ.rt1 100 rfl rfl fun ids H' fr => ⟨fr.ext0, by rw [hc, if_neg (by omega)]⟩
end Go.Proofs.Ytenddpplfdgcfaa

namespace Go.Proofs.Ytenddpplfdgcfaa
open Go Go.Det Go.RowKit

def fnV (f : Nat) : Value := .func (.func f) ⟨[]⟩ ⟨[]⟩
def rowsCs (p : Nat) : List Value := [fnV 41, fnV 40, fnV 42, fnV 43, fnV 44, fnV 45, fnV 46, fnV 40, fnV 47, .func (.func 48) ⟨[]⟩ ⟨[.pointer (some ⟨p, 0, none⟩)]⟩]
set_option maxRecDepth 10000 in
theorem rows_ok {H : Hp} {a : Option Addr} {len cap : Nat} :
    SCall Try.prog 36 [.slice a len cap] H (Ret fun v H' => Ext H H' ∧ ∃ b p, v = .slice (some ⟨b, 0, none⟩) 5 5 ∧ H'.get b = some (.cells .fix (rowsCs p)) ∧ b < H'.next ∧ H'.get p = some (.cells .fix [.slice a len cap]) ∧ p < H'.next) := by
  refine SCall.v Try.func36 rfl rfl rfl rfl rfl (l := [(0, .v (.slice a len cap))]) (fun _ => rfl) ?_
  refine VJ.hn (R := fun v H' => ∃ p, v = .agg ⟨[fnV 47, .func (.func 48) ⟨[]⟩ ⟨[.pointer (some ⟨p, 0, none⟩)]⟩]⟩ ∧ H'.get p = some (.cells .fix [.slice a len cap]) ∧ p < H'.next) 100 rfl rfl rfl rfl (fun ids H' fr => ?_) ?_
  · obtain ⟨k1, k2, k3⟩ := fr.here 0 _ rfl
    exact ⟨_, H', opD_build rfl rfl rfl, ⟨fr.ext0, Nat.le_refl _, fun _ _ => rfl⟩, ids 0, rfl, k1, k2⟩
  · rintro v H1 h0 ⟨p, rfl, hp, hpl⟩
    refine ⟨_, rfl, ?_⟩
    refine VJ.hn (R := fun v H' => ∃ b, v = .slice (some ⟨b, 0, none⟩) 5 5 ∧ H'.get b = some (.cells .fix (rowsCs p)) ∧ b < H'.next ∧ Ext H1 H') 100 rfl rfl rfl rfl (fun ids H' fr => ?_) ?_
    · refine ⟨_, _, opD_buildSlice rfl rfl rfl, fr.updExt (Ext.of_alloc _ _), H'.next, rfl, ?_, by rw [Hp.next_alloc]; omega, (fr.extB rfl).alloc _⟩
      rw [Hp.get_alloc, if_pos rfl]; rfl
    · rintro v H2 h0 ⟨b, rfl, hb, hbl, h12⟩
      refine ⟨_, rfl, ?_⟩
      refine VJ.rt1 100 rfl rfl fun ids H' fr => ⟨fr.ext0, b, p, rfl, ?_, ?_, ?_, ?_⟩
      · rw [(fr.extB rfl).same b hbl]; exact hb
      · exact Nat.lt_of_lt_of_le hbl (fr.extB rfl).next
      · rw [(h12.trans (fr.extB rfl)).same p hpl]; exact hp
      · exact Nat.lt_of_lt_of_le hpl (h12.trans (fr.extB rfl)).next
end Go.Proofs.Ytenddpplfdgcfaa

namespace Go.Proofs.Ytenddpplfdgcfaa
open Go Go.Det Go.RowKit
theorem f58_ok (H : Hp) (a : Int) : SCall Try.prog 58 [.int .i64 a] H (Ret fun v H' => Ext H H' ∧ v = .bool false) := by
  refine SCall.v Try.func58 rfl rfl rfl rfl rfl (l := [(0, .v (.int .i64 a))]) (fun _ => rfl) ?_
  refine VJ.cm 100 rfl rfl rfl rfl rfl rfl rfl rfl rfl (fun h => ?_) (fun h => ?_)
  · simp at h
  · exact VJ.rt1 100 rfl rfl fun ids H' fr => ⟨fr.ext0, rfl⟩
theorem f57_ok (H : Hp) (a : Int) : SCall Try.prog 57 [.int .i64 a] H (Ret fun v H' => Ext H H' ∧ v = .bool false) := by
  refine SCall.v Try.func57 rfl rfl rfl rfl rfl (l := [(0, .v (.int .i64 a))]) (fun _ => rfl) ?_
  refine VJ.cm 100 rfl rfl rfl rfl rfl rfl rfl rfl rfl (fun h => ?_) (fun h => ?_)
  · simp at h
  · exact VJ.rt1 100 rfl rfl fun ids H' fr => ⟨fr.ext0, rfl⟩
theorem less_ok (H : Hp) (a b : Int) : SCall Try.prog 56 [.int .i64 a, .int .i64 b] H (Ret fun v H' => Ext H H' ∧ ∃ t, v = .bool t ∧ decide (a < b) = t) := by
  refine SCall.v Try.func56 rfl rfl rfl rfl rfl (l := [(0, .v (.int .i64 a)), (1, .v (.int .i64 b))]) (fun _ => rfl) ?_
  refine VJ.cl 100 rfl (fun ids H' fr => f58_ok H' a) ?_
  rintro v H1 h0 hB rfl
  refine ⟨_, rfl, ?_⟩
  refine VJ.cm 100 rfl rfl rfl rfl rfl rfl rfl rfl rfl (fun h => ?_) (fun h => ?_)
  · exact VJ.rt1 100 rfl rfl fun ids H' fr => ⟨fr.ext0, _, rfl, h⟩
  · exact VJ.rt1 100 rfl rfl fun ids H' fr => ⟨fr.ext0, _, rfl, h⟩

/-- The positions, or the error of a position. -/
def placedS (l : List Int) (pos : Int) : Int := if (checkS l).1 = 0 then if pos < 0 ∨ pos > (psums 0 l).getD l.length 0 then 2 else 0 else (checkS l).1
theorem placed_ok {H : Hp} {a : Option Addr} {cap : Nat} {l : List Int} (hl : Ints H a cap l) (pos : Int) :
    SCall Try.prog 53 [.slice a l.length cap, .int .i64 pos] H (Ret fun v H' => Ext H H' ∧ ∃ r c out, v = .tuple ⟨[.slice r (List.length out) c, .int .i64 (placedS l pos)]⟩ ∧ Ints H' r c out ∧ out = if placedS l pos = 0 then psums 0 l else []) := by
  refine SCall.v Try.func53 rfl rfl rfl rfl rfl (l := [(0, .v (.slice a l.length cap)), (1, .v (.int .i64 pos))]) (fun _ => rfl) ?_
  refine VJ.cl 100 rfl (fun ids H' fr => positions_ok (hl.mono (fr.extB rfl))) ?_
  rintro v H1 h0 hB ⟨r, c, out, rfl, ho, he⟩
  refine ⟨_, rfl, ?_⟩
  refine VJ.cm 100 rfl rfl rfl rfl rfl rfl rfl rfl rfl (fun h => ?_) (fun h => ?_)
  · have h : (checkS l).1 ≠ 0 := by simpa using h
    have hp : placedS l pos = (checkS l).1 := by simp only [placedS, if_neg h]
    refine VJ.rt2 100 rfl rfl fun ids H' fr => ⟨fr.ext0, none, 0, [], by rw [hp]; rfl, ⟨rfl, .inl ⟨rfl, rfl, rfl⟩⟩, ?_⟩
    rw [hp, if_neg h]
  · have h : (checkS l).1 = 0 := by simpa using h
    rw [if_pos h] at he
    have hp : placedS l pos = if pos < 0 ∨ pos > (psums 0 l).getD l.length 0 then 2 else 0 := by simp only [placedS, if_pos h]
    have hlen : out.length = l.length + 1 := by rw [he, psums_length]
    have hx : out[l.length]? = some ((psums 0 l).getD l.length 0) := by rw [he]; exact pj_some (Nat.le_refl _)
    obtain ⟨q, hq1, hq2⟩ := ho.at' hx
    have hsz := (checkS_ok h).2.1
    have hw : IntKind.i64.wrap ((out.length : Int) - 1) = ((l.length : Nat) : Int) := by rw [wrap_i64 (by omega) (by omega)]; omega
    have bad : (pos < 0 ∨ pos > (psums 0 l).getD l.length 0) → placedS l pos = 2 := fun q => by rw [hp, if_pos q]
    refine VJ.cm 100 rfl rfl rfl rfl rfl rfl rfl rfl rfl (fun h1 => ?_) (fun h1 => ?_) <;> simp only [decide_eq_true_eq, decide_eq_false_iff_not] at h1
    · refine VJ.rt2 100 rfl rfl fun ids H' fr => ⟨fr.ext0, none, 0, [], by rw [bad (.inl h1)]; rfl, ⟨rfl, .inl ⟨rfl, rfl, rfl⟩⟩, by rw [bad (.inl h1)]; rfl⟩
    refine VJ.hd 100 rfl rfl rfl rfl (fun ids H' fr => opD_indexAddr rfl (evV_eq _ _ _ _ _ rfl) (evV_eq _ _ _ _ _ rfl) (by show indexAddrD Try.prog 22 (.slice r out.length c) (.int .i64 (IntKind.i64.wrap ((out.length : Int) - 1))) = _; rw [hw]; exact hq1)) rfl ?_
    refine VJ.hd 100 rfl rfl rfl rfl (fun ids H' fr => opD_load rfl (evV_eq _ _ _ _ _ rfl) (hq2 _ (fr.extB rfl))) rfl ?_
    refine VJ.cm 100 rfl rfl rfl rfl rfl rfl rfl rfl rfl (fun h2 => ?_) (fun h2 => ?_) <;> simp only [decide_eq_true_eq, decide_eq_false_iff_not] at h2
    · refine VJ.rt2 100 rfl rfl fun ids H' fr => ⟨fr.ext0, none, 0, [], by rw [bad (.inr h2)]; rfl, ⟨rfl, .inl ⟨rfl, rfl, rfl⟩⟩, by rw [bad (.inr h2)]; rfl⟩
    · have hz : placedS l pos = 0 := by rw [hp, if_neg (by omega)]
      refine VJ.rt2 100 rfl rfl fun ids H' fr => ⟨fr.ext0, r, c, out, by rw [hz], ho.mono (fr.extB rfl), by rw [hz, if_pos rfl, he]⟩
end Go.Proofs.Ytenddpplfdgcfaa

namespace Go.Proofs.Ytenddpplfdgcfaa
open Go Go.Det Go.RowKit
theorem bin_shr {P : Program} {ev : Ev} {o : Oper} {t : TypeId} {k k' : IntKind} {a b : Int} (hb : 0 ≤ b) : binD P ev o .shr t (.int k a) (.int k' b) = some (.int k (a.fdiv (2 ^ (min b.toNat k.bits)))) := by
  simp only [binD, shiftD]
  rw [if_neg (by omega)]
theorem wrap_u64 {x : Int} (h1 : 0 ≤ x) (h2 : x ≤ 18446744073709551615) : IntKind.u64.wrap x = x := by
  have e2 : ((2 : Int) ^ 64) = 18446744073709551616 := by decide
  simp only [IntKind.wrap, IntKind.signed, IntKind.bits, Bool.false_and, e2]
  simp
  omega
/-- The middle of two numbers. -/
theorem half {i j : Nat} (h : i + j < 1000000) : IntKind.i64.wrap ((IntKind.u64.wrap (IntKind.i64.wrap ((i : Int) + (j : Int)))).fdiv (2 ^ (min ((1 : Int).toNat) IntKind.u64.bits))) = (((i + j) / 2 : Nat) : Int) := by
  have e : (min ((1 : Int).toNat) IntKind.u64.bits) = 1 := by decide
  have e1 : IntKind.i64.wrap ((i : Int) + (j : Int)) = (i : Int) + j := wrap_i64 (by omega) (by omega)
  have e2 : IntKind.u64.wrap ((i : Int) + (j : Int)) = (i : Int) + j := wrap_u64 (by omega) (by omega)
  have e3 : ((i : Int) + j).fdiv (2 ^ 1) = (((i + j) / 2 : Nat) : Int) := by
    rw [Int.fdiv_eq_ediv_of_nonneg _ (by decide)]; omega
  rw [e1, e2, e, e3]
  exact wrap_i64 (by omega) (by omega)
end Go.Proofs.Ytenddpplfdgcfaa

namespace Go.Proofs.Ytenddpplfdgcfaa
open Go Go.Det Go.RowKit

/-- Where a number would stand in a row. -/
structure Low (l : List Int) (pos : Int) (m : Nat) : Prop where
  le : m ≤ l.length
  lo : ∀ k x, l[k]? = some x → k < m → x < pos
  hi : ∀ k x, l[k]? = some x → m ≤ k → pos ≤ x
def Up (l : List Int) : Prop := ∀ (i j : Nat) (x y : Int), l[i]? = some x → l[j]? = some y → i ≤ j → x ≤ y

set_option maxRecDepth 10000 in
theorem search_ok {H : Hp} {a : Option Addr} {cap : Nat} {l : List Int} (hl : Ints H a cap l) (hs : l.length < 100000) (hu : Up l) (pos : Int) :
    SCall Try.prog 55 [.slice a l.length cap, .int .i64 pos] H (Ret fun v H' => Ext H H' ∧ ∃ m f, v = .tuple ⟨[.int .i64 ((m : Nat) : Int), .bool f]⟩ ∧ Low l pos m ∧ f = decide (l[m]? = some pos)) := by
  refine SCall.v Try.func55 rfl rfl rfl rfl rfl (l := [(0, .v (.slice a l.length cap)), (1, .v (.int .i64 pos))]) (fun _ => rfl) ?_
  refine VJ.lp 100 0 true (α := Nat × Nat × Hp) (fun y => [(0, .v (.slice a l.length cap)), (1, .v (.int .i64 pos)), (6, .v (.int .i64 l.length)), (7, .v (.int .i64 (y.1 : Nat))), (8, .v (.int .i64 (y.2.1 : Nat)))]) (fun _ => []) (fun y => y.2.2) (fun y => y.2.1 - y.1)
    (fun y => y.1 ≤ y.2.1 ∧ y.2.1 ≤ l.length ∧ (∀ k x, l[k]? = some x → k < y.1 → x < pos) ∧ (∀ k x, l[k]? = some x → y.2.1 ≤ k → pos ≤ x) ∧ Ext H y.2.2) (0, l.length, H) rfl
    ⟨Nat.zero_le _, Nat.le_refl _, fun k x _ h => absurd h (Nat.not_lt_zero _), fun k x h1 h2 => by have := (List.getElem?_eq_some_iff.1 h1).1; simp only at h2; omega, Ext.refl H⟩ ⟨rfl, rfl, rfl, rfl, rfl, trivial⟩ rfl rfl (fun _ => rfl) rfl ?_
  rintro ⟨i, j, M⟩ ⟨hij, hjn, hlo, hhi, hx⟩ ih
  simp only at hij hjn hlo hhi hx
  refine VJ.cm 100 rfl rfl rfl rfl rfl rfl rfl rfl rfl (fun h => ?_) (fun h => ?_) <;> simp only [decide_eq_true_eq, decide_eq_false_iff_not] at h
  · have h : i < j := by omega
    have hm := half (i := i) (j := j) (by omega)
    have hlt : (i + j) / 2 < l.length := by omega
    obtain ⟨x, hxi⟩ : ∃ x, l[(i + j) / 2]? = some x := ⟨l[(i + j) / 2], by simp⟩
    obtain ⟨q, hq1, hq2⟩ := (hl.mono hx).at' hxi
    rw [← hm] at hq1
    refine VJ.hd 100 rfl rfl rfl rfl (fun ids H' fr => opD_bin rfl (evV_eq _ _ _ _ _ rfl) (evV_eq _ _ _ _ _ rfl) (bin_shr (k := .u64) (k' := .u64) (b := 1) (by decide))) rfl ?_
    refine VJ.hd 100 rfl rfl rfl rfl (fun ids H' fr => opD_indexAddr rfl (evV_eq _ _ _ _ _ rfl) (evV_eq _ _ _ _ _ rfl) hq1) rfl ?_
    refine VJ.hd 100 rfl rfl rfl rfl (fun ids H' fr => opD_load rfl (evV_eq _ _ _ _ _ rfl) (hq2 _ (fr.extB rfl))) rfl ?_
    refine VJ.cl 100 rfl (fun ids H' fr => less_ok H' x pos) ?_
    rintro v H1 h0 hB ⟨t, rfl, ht⟩
    have hB := hB rfl
    cases t
    · simp only [decide_eq_false_iff_not] at ht
      refine ⟨_, rfl, ?_⟩
      refine VJ.ag 100 rfl ?_ rfl rfl (fun _ => rfl) rfl (ih (i, (i + j) / 2, H1) ⟨by show i ≤ (i + j) / 2; omega, by show (i + j) / 2 ≤ l.length; omega, hlo, fun k y hy hk => by have := hu _ _ _ _ hxi hy hk; omega, hx.trans hB⟩ (by show (i + j) / 2 - i < j - i; omega))
      refine ⟨rfl, rfl, rfl, rfl, ?_, trivial⟩
      show _ = some (SV.v (.int .i64 (((i + j) / 2 : Nat) : Int)))
      rw [← hm]; rfl
    · simp only [decide_eq_true_eq] at ht
      refine ⟨_, rfl, ?_⟩
      refine VJ.ag 100 rfl ?_ rfl rfl (fun _ => rfl) rfl (ih ((i + j) / 2 + 1, j, H1) ⟨by show (i + j) / 2 + 1 ≤ j; omega, hjn, fun k y hy hk => by have := hu k _ _ _ hy hxi (by simp only at hk; omega); omega, hhi, hx.trans hB⟩ (by show j - ((i + j) / 2 + 1) < j - i; omega))
      refine ⟨rfl, rfl, rfl, ?_, rfl, trivial⟩
      show _ = some (SV.v (.int .i64 (((i + j) / 2 + 1 : Nat) : Int)))
      rw [← wrap_succ (by omega), ← hm]; rfl
  · have hji : i = j := by omega
    subst hji
    have low : Low l pos i := ⟨hjn, hlo, hhi⟩
    refine VJ.cm 100 rfl rfl rfl rfl rfl rfl rfl rfl rfl (fun h1 => ?_) (fun h1 => ?_) <;> simp only [decide_eq_true_eq, decide_eq_false_iff_not] at h1
    · have hlt : i < l.length := by omega
      obtain ⟨x, hxi⟩ : ∃ x, l[i]? = some x := ⟨l[i], by simp⟩
      obtain ⟨q, hq1, hq2⟩ := (hl.mono hx).at' hxi
      refine VJ.hd 100 rfl rfl rfl rfl (fun ids H' fr => opD_indexAddr rfl (evV_eq _ _ _ _ _ rfl) (evV_eq _ _ _ _ _ rfl) hq1) rfl ?_
      refine VJ.hd 100 rfl rfl rfl rfl (fun ids H' fr => opD_load rfl (evV_eq _ _ _ _ _ rfl) (hq2 _ (fr.extB rfl))) rfl ?_
      refine VJ.cm 100 rfl rfl rfl rfl rfl rfl rfl rfl rfl (fun h2 => ?_) (fun h2 => ?_)
      · have h2 : x = pos := by simpa using h2
        refine VJ.rt2 100 rfl rfl fun ids H' fr => ⟨fr.ext0, i, _, rfl, low, by rw [hxi, h2]; simp⟩
      · have h2 : x ≠ pos := by simpa using h2
        refine VJ.hd 100 rfl rfl rfl rfl (fun ids H' fr => opD_indexAddr rfl (evV_eq _ _ _ _ _ rfl) (evV_eq _ _ _ _ _ rfl) hq1) rfl ?_
        refine VJ.hd 100 rfl rfl rfl rfl (fun ids H' fr => opD_load rfl (evV_eq _ _ _ _ _ rfl) (hq2 _ (fr.extB rfl))) rfl ?_
        refine VJ.cl 100 rfl (fun ids H' fr => f57_ok H' x) ?_
        rintro v H1 h0 hB rfl
        refine ⟨_, rfl, ?_⟩
        refine VJ.rt2 100 rfl rfl fun ids H' fr => ⟨fr.ext0, i, _, rfl, low, by rw [hxi]; simp [h2]⟩
    · have hn : l[i]? = none := List.getElem?_eq_none (by omega)
      refine VJ.rt2 100 rfl rfl fun ids H' fr => ⟨fr.ext0, i, _, rfl, low, by rw [hn]; simp⟩
end Go.Proofs.Ytenddpplfdgcfaa

namespace Go.Proofs.Ytenddpplfdgcfaa
open Go Go.Det Go.RowKit
theorem mix : Try.prog.follows .mixedOrders = true := by kernel_rfl

/-- The place nearest to a number, of those that a row has. -/
def nearS (l : List Int) (pos : Int) (m : Nat) : Int :=
  if l[m]? = some pos ∨ m = 0 then m else if pos - l.getD (m - 1) 0 ≤ l.getD m 0 - pos then (m : Int) - 1 else m
theorem nearest_ok {H : Hp} {a : Option Addr} {cap : Nat} {l : List Int} (hl : Ints H a cap l) (hs : l.length < 100000) (hu : Up l) (hb : ∀ x ∈ l, 0 ≤ x ∧ x < 1000000) (pos : Int) (hp : 0 ≤ pos) (hlast : ∃ x, l[l.length - 1]? = some x ∧ pos ≤ x) :
    SCall Try.prog 54 [.slice a l.length cap, .int .i64 pos] H (Ret fun v H' => Ext H H' ∧ ∃ m, Low l pos m ∧ v = .int .i64 (nearS l pos m)) := by
  refine SCall.v Try.func54 rfl rfl rfl rfl rfl (l := [(0, .v (.slice a l.length cap)), (1, .v (.int .i64 pos))]) (fun _ => rfl) ?_
  refine VJ.cl 100 rfl (fun ids H' fr => search_ok (hl.mono (fr.extB rfl)) hs hu pos) ?_
  rintro v H1 h0 hB ⟨m, f, rfl, low, hf⟩
  have hl1 := hl.mono (hB rfl)
  refine ⟨_, rfl, ?_⟩
  cases f
  · have hf : ¬ l[m]? = some pos := by simpa using hf
    refine VJ.cm 100 rfl rfl rfl rfl rfl rfl rfl rfl rfl (fun h => ?_) (fun h => ?_)
    · have h : m = 0 := by simpa using h
      refine VJ.rt1 100 rfl rfl fun ids H' fr => ⟨fr.ext0, m, low, ?_⟩
      simp only [nearS, h, or_true, if_true]
    · have h : ¬ m = 0 := by simpa using h
      have hm := low.le
      obtain ⟨y, hy, hyp⟩ := hlast
      have hlt : m < l.length := by
        rcases Nat.lt_or_ge m l.length with q | q
        · exact q
        · have := low.lo (l.length - 1) y hy (by have := (List.getElem?_eq_some_iff.1 hy).1; omega)
          omega
      obtain ⟨x, hx⟩ : ∃ x, l[m]? = some x := ⟨l[m], by simp⟩
      obtain ⟨z, hz⟩ : ∃ z, l[m - 1]? = some z := ⟨l[m - 1]'(by omega), List.getElem?_eq_getElem (by omega)⟩
      obtain ⟨qx, hx1, hx2⟩ := hl1.at' hx
      obtain ⟨qz, hz1, hz2⟩ := hl1.at' hz
      have bx := hb x (List.mem_of_getElem? hx)
      have bz := hb z (List.mem_of_getElem? hz)
      have lz := low.lo _ _ hz (by omega)
      have lx := low.hi _ _ hx (Nat.le_refl _)
      have hw : IntKind.i64.wrap ((m : Int) - 1) = ((m - 1 : Nat) : Int) := by rw [wrap_i64 (by omega) (by omega)]; omega
      have hw1 : IntKind.i64.wrap (pos - z) = pos - z := wrap_i64 (by omega) (by omega)
      have hw2 : IntKind.i64.wrap (x - pos) = x - pos := wrap_i64 (by omega) (by omega)
      have hn : nearS l pos m = if pos - z ≤ x - pos then (m : Int) - 1 else m := by
        have e1 : l.getD (m - 1) 0 = z := by rw [List.getD_eq_getElem?_getD, hz]; rfl
        have e2 : l.getD m 0 = x := by rw [List.getD_eq_getElem?_getD, hx]; rfl
        simp only [nearS, hf, h, or_self, if_false, e1, e2]
      rw [← hw] at hz1
      refine VJ.dr 100 rfl mix (by kernel_rfl) (by kernel_rfl) rfl ?_
      refine VD.hd rfl rfl rfl rfl (fun _ _ _ _ _ => side_no) (fun ids H' f => opD_indexAddr rfl (evV_eq _ _ _ _ _ rfl) (evV_eq _ _ _ _ _ rfl) hz1) rfl ?_
      refine VD.hd rfl rfl rfl rfl (fun _ _ _ _ _ => side_no) (fun ids H' f => opD_load rfl (evV_eq _ _ _ _ _ rfl) (hz2 _ (f.fr.extB rfl))) rfl ?_
      refine VD.hd rfl rfl rfl rfl (fun _ _ _ _ _ => side_no) (fun ids H' f => opD_indexAddr rfl (evV_eq _ _ _ _ _ rfl) (evV_eq _ _ _ _ _ rfl) hx1) rfl ?_
      refine VD.hd rfl rfl rfl rfl (fun _ _ _ _ _ => side_no) (fun ids H' f => opD_load rfl (evV_eq _ _ _ _ _ rfl) (hx2 _ (f.fr.extB rfl))) rfl ?_
      refine VD.cm rfl rfl rfl rfl rfl rfl rfl rfl rfl (fun h1 => ?_) (fun h1 => ?_) <;> simp only [decide_eq_true_eq, decide_eq_false_iff_not, hw1, hw2] at h1
      · refine VD.done rfl ?_
        refine VJ.rt1 100 rfl rfl fun ids H' fr => ⟨fr.ext0, m, low, ?_⟩
        rw [hn, if_pos h1, wrap_i64 (by omega) (by omega)]
      · refine VD.done rfl ?_
        refine VJ.rt1 100 rfl rfl fun ids H' fr => ⟨fr.ext0, m, low, ?_⟩
        rw [hn, if_neg h1]
  · have hf : l[m]? = some pos := by simpa using hf
    refine VJ.rt1 100 rfl rfl fun ids H' fr => ⟨fr.ext0, m, low, ?_⟩
    simp only [nearS, hf, true_or, if_true]
end Go.Proofs.Ytenddpplfdgcfaa

namespace Go.Proofs.Ytenddpplfdgcfaa
open Go Go.Det Go.RowKit

theorem psums_up : ∀ (a : Int) (l : List Int), (∀ g ∈ l, 1 ≤ g ∧ g ≤ 1000) → Up (psums a l)
  | a, [], _ => by
    intro i j x y hi hj _
    have : i = 0 := by have := (List.getElem?_eq_some_iff.1 hi).1; simp [psums] at this; omega
    have : j = 0 := by have := (List.getElem?_eq_some_iff.1 hj).1; simp [psums] at this; omega
    subst i j
    rw [hi] at hj; cases hj; omega
  | a, g :: l, h => by
    intro i j x y hi hj hij
    have ih := psums_up (a + g) l (fun x hx => h x (List.mem_cons_of_mem _ hx))
    have hg := h g (List.mem_cons_self ..)
    cases i with
    | zero =>
      cases j with
      | zero => rw [hi] at hj; cases hj; omega
      | succ j =>
        simp only [psums, List.getElem?_cons_zero, Option.some.injEq] at hi
        simp only [psums, List.getElem?_cons_succ] at hj
        have := psums_bound (a + g) l j y (fun x hx => h x (List.mem_cons_of_mem _ hx)) hj
        omega
    | succ i =>
      cases j with
      | zero => omega
      | succ j =>
        simp only [psums, List.getElem?_cons_succ] at hi hj
        exact ih i j x y hi hj (by omega)

/-- The floor that a position is nearest to: some place of the row of positions at which it would stand. -/
def floorIs (l : List Int) (pos f : Int) : Prop := ∃ m, Low (psums 0 l) pos m ∧ f = nearS (psums 0 l) pos m
theorem Low.only {l : List Int} {pos : Int} {m k : Nat} (h : Low l pos m) (g : Low l pos k) : m = k := by
  rcases Nat.lt_trichotomy m k with q | q | q
  · obtain ⟨x, hx⟩ : ∃ x, l[m]? = some x := ⟨l[m]'(by have := g.le; omega), List.getElem?_eq_getElem _⟩
    have := h.hi m x hx (Nat.le_refl _)
    have := g.lo m x hx q
    omega
  · exact q
  · obtain ⟨x, hx⟩ : ∃ x, l[k]? = some x := ⟨l[k]'(by have := h.le; omega), List.getElem?_eq_getElem _⟩
    have := g.hi k x hx (Nat.le_refl _)
    have := h.lo k x hx q
    omega

theorem Nearest_ok {H : Hp} {a : Option Addr} {cap : Nat} {l : List Int} (hl : Ints H a cap l) (pos : Int) :
    SCall Try.prog 49 [.slice a l.length cap, .int .i64 pos] H (Ret fun v H' => Ext H H' ∧ ∃ f, v = .tuple ⟨[.int .i64 f, .int .i64 (placedS l pos)]⟩ ∧ (placedS l pos = 0 → floorIs l pos f) ∧ (placedS l pos ≠ 0 → f = 0)) := by
  refine SCall.v Try.func49 rfl rfl rfl rfl rfl (l := [(0, .v (.slice a l.length cap)), (1, .v (.int .i64 pos))]) (fun _ => rfl) ?_
  refine VJ.cl 100 rfl (fun ids H' fr => placed_ok (hl.mono (fr.extB rfl)) pos) ?_
  rintro v H1 h0 hB ⟨r, c, out, rfl, ho, he⟩
  refine ⟨_, rfl, ?_⟩
  refine VJ.cm 100 rfl rfl rfl rfl rfl rfl rfl rfl rfl (fun h => ?_) (fun h => ?_)
  · have h : placedS l pos ≠ 0 := by simpa using h
    exact VJ.rt2 100 rfl rfl fun ids H' fr => ⟨fr.ext0, 0, rfl, fun q => absurd q h, fun _ => rfl⟩
  · have h : placedS l pos = 0 := by simpa using h
    rw [if_pos h] at he
    have hc : (checkS l).1 = 0 := by
      unfold placedS at h
      split at h
      · assumption
      · exact h
    obtain ⟨g1, g2, g3⟩ := checkS_ok hc
    have hpos : 0 ≤ pos ∧ pos ≤ (psums 0 l).getD l.length 0 := by
      unfold placedS at h
      rw [if_pos hc] at h
      split at h
      · cases h
      · omega
    have hout : out.length < 100000 := by rw [he, psums_length]; omega
    subst he
    refine VJ.cl 100 rfl (fun ids H' fr => nearest_ok (ho.mono (fr.extB rfl)) hout (psums_up 0 l g3) (fun x hx => ?_) pos hpos.1 ⟨_, by rw [psums_length]; exact pj_some (Nat.le_refl _), hpos.2⟩) ?_
    · obtain ⟨i, hi⟩ := List.getElem?_of_mem hx
      have h1 := psums_bound 0 l i x g3 hi
      have h2 := (List.getElem?_eq_some_iff.1 hi).1
      rw [psums_length] at h2
      omega
    · rintro v H2 h0 hB ⟨m, low, rfl⟩
      refine ⟨_, rfl, ?_⟩
      exact VJ.rt2 100 rfl rfl fun ids H' fr => ⟨fr.ext0, _, by rw [h], fun _ => ⟨m, low, rfl⟩, fun q => absurd h q⟩
end Go.Proofs.Ytenddpplfdgcfaa
