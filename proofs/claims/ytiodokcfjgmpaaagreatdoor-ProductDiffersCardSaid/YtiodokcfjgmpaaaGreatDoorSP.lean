import Derived.Test.YtiodokcfjgmpaaaGreatDoorST
import Derived.Test.YtiodokcfjgmpaaaGreatDoorD51
set_option linter.unusedVariables false
namespace Go.Proofs.YtiodokcfjgmpaaaGreatDoor
open Go Go.Det Go.RowKit
theorem ul3 : Tryz.prog.underlying 3 = some (.int .i64) := by kernel_rfl
def ok3 (x : Int) : Prop := okI .i64 x
theorem rd3 {H : Hp} {cs : List Value} (h : Rd Tryz.prog H 3 cs) : ∃ x : Int, Cod.rep intC 0 H cs x ∧ ok3 x := by
  obtain ⟨x, rfl, hx⟩ := h.int_inv ul3
  exact ⟨x, rfl, hx⟩
theorem ul116 : ∃ fs, Tryz.prog.underlying 116 = some (.struct fs) ∧ fs.toList.map (·.type) = [3, 3] := ⟨_, Tryz.underlying116, rfl⟩
def ok116 (x : Reply) : Prop := ok3 x.Port ∧ ok3 x.Code
theorem rd116 {H : Hp} {cs : List Value} (h : Rd Tryz.prog H 116 cs) : ∃ x : Reply, Cod.rep ReplyC 0 H cs x ∧ ok116 x := by
  obtain ⟨fs, hu, hm⟩ := ul116
  have h := h.struct_inv hu
  obtain ⟨fs⟩ := fs
  simp only at hm h
  obtain ⟨f0, fs, rfl⟩ : ∃ f r, fs = f :: r := by cases fs with | nil => cases hm | cons f r => exact ⟨f, r, rfl⟩
  obtain ⟨c0, d0, e0, h0, h⟩ := h.cons_inv
  simp only [List.map_cons, List.cons.injEq] at hm
  obtain ⟨m0, hm⟩ := hm
  rw [m0] at h0
  obtain ⟨f1, fs, rfl⟩ : ∃ f r, fs = f :: r := by cases fs with | nil => cases hm | cons f r => exact ⟨f, r, rfl⟩
  obtain ⟨c1, d1, e1, h1, h⟩ := h.cons_inv
  simp only [List.map_cons, List.cons.injEq] at hm
  obtain ⟨m1, hm⟩ := hm
  rw [m1] at h1
  obtain rfl : fs = [] := by cases fs with | nil => rfl | cons f r => cases hm
  have h := h.nil_inv
  obtain ⟨y0, rfl, k0⟩ := rd3 h0
  obtain ⟨y1, rfl, k1⟩ := rd3 h1
  subst h
  subst e1
  subst e0
  exact ⟨Reply.mk y0 y1, rfl, ⟨k0, k1⟩⟩
theorem ul53 : Tryz.prog.underlying 53 = some (.slice 116) := by kernel_rfl
theorem bo53 : Tryz.prog.bytesOf 116 = 16 := by kernel_rfl
def ok53 (x : List Reply) : Prop := (∀ y ∈ x, ok116 y) ∧ x.length * 16 ≤ reachBytes ∧ x.length ≤ maxLen
theorem rd53 {H : Hp} {cs : List Value} (h : Rd Tryz.prog H 53 cs) : ∃ x : List Reply, Cod.rep (slC ReplyC) 0 H cs x ∧ ok53 x := by
  obtain ⟨l, a, cap, rfl, h1, h2, h3, h4⟩ := h.sl_inv (c := ReplyC) ul53 fun cs h => rd116 h
  rw [bo53] at h3
  exact ⟨l, ⟨a, cap, rfl, h1⟩, h2, h3, h4⟩
theorem ul4 : Tryz.prog.underlying 4 = some .bool := by kernel_rfl
def ok4 (_ : Bool) : Prop := True
theorem rd4 {H : Hp} {cs : List Value} (h : Rd Tryz.prog H 4 cs) : ∃ x : Bool, Cod.rep boolC 0 H cs x ∧ ok4 x := by
  obtain ⟨x, rfl⟩ := h.bool_inv ul4
  exact ⟨x, rfl, trivial⟩
theorem ul119 : ∃ fs, Tryz.prog.underlying 119 = some (.struct fs) ∧ fs.toList.map (·.type) = [3, 3, 4] := ⟨_, Tryz.underlying119, rfl⟩
def ok119 (x : Sight) : Prop := ok3 x.Floor ∧ ok3 x.Panel ∧ ok4 x.Out
theorem rd119 {H : Hp} {cs : List Value} (h : Rd Tryz.prog H 119 cs) : ∃ x : Sight, Cod.rep SightC 0 H cs x ∧ ok119 x := by
  obtain ⟨fs, hu, hm⟩ := ul119
  have h := h.struct_inv hu
  obtain ⟨fs⟩ := fs
  simp only at hm h
  obtain ⟨f0, fs, rfl⟩ : ∃ f r, fs = f :: r := by cases fs with | nil => cases hm | cons f r => exact ⟨f, r, rfl⟩
  obtain ⟨c0, d0, e0, h0, h⟩ := h.cons_inv
  simp only [List.map_cons, List.cons.injEq] at hm
  obtain ⟨m0, hm⟩ := hm
  rw [m0] at h0
  obtain ⟨f1, fs, rfl⟩ : ∃ f r, fs = f :: r := by cases fs with | nil => cases hm | cons f r => exact ⟨f, r, rfl⟩
  obtain ⟨c1, d1, e1, h1, h⟩ := h.cons_inv
  simp only [List.map_cons, List.cons.injEq] at hm
  obtain ⟨m1, hm⟩ := hm
  rw [m1] at h1
  obtain ⟨f2, fs, rfl⟩ : ∃ f r, fs = f :: r := by cases fs with | nil => cases hm | cons f r => exact ⟨f, r, rfl⟩
  obtain ⟨c2, d2, e2, h2, h⟩ := h.cons_inv
  simp only [List.map_cons, List.cons.injEq] at hm
  obtain ⟨m2, hm⟩ := hm
  rw [m2] at h2
  obtain rfl : fs = [] := by cases fs with | nil => rfl | cons f r => cases hm
  have h := h.nil_inv
  obtain ⟨y0, rfl, k0⟩ := rd3 h0
  obtain ⟨y1, rfl, k1⟩ := rd3 h1
  obtain ⟨y2, rfl, k2⟩ := rd4 h2
  subst h
  subst e2
  subst e1
  subst e0
  exact ⟨Sight.mk y0 y1 y2, rfl, ⟨k0, k1, k2⟩⟩
theorem ul54 : Tryz.prog.underlying 54 = some (.slice 119) := by kernel_rfl
theorem bo54 : Tryz.prog.bytesOf 119 = 24 := by kernel_rfl
def ok54 (x : List Sight) : Prop := (∀ y ∈ x, ok119 y) ∧ x.length * 24 ≤ reachBytes ∧ x.length ≤ maxLen
theorem rd54 {H : Hp} {cs : List Value} (h : Rd Tryz.prog H 54 cs) : ∃ x : List Sight, Cod.rep (slC SightC) 0 H cs x ∧ ok54 x := by
  obtain ⟨l, a, cap, rfl, h1, h2, h3, h4⟩ := h.sl_inv (c := SightC) ul54 fun cs h => rd119 h
  rw [bo54] at h3
  exact ⟨l, ⟨a, cap, rfl, h1⟩, h2, h3, h4⟩
theorem ul24 : Tryz.prog.underlying 24 = some (.int .u64) := by kernel_rfl
def ok24 (x : Int) : Prop := okI .u64 x
theorem rd24 {H : Hp} {cs : List Value} (h : Rd Tryz.prog H 24 cs) : ∃ x : Int, Cod.rep (kindC .u64) 0 H cs x ∧ ok24 x := by
  obtain ⟨x, rfl, hx⟩ := h.int_inv ul24
  exact ⟨x, rfl, hx⟩
theorem ul56 : ∃ fs, Tryz.prog.underlying 56 = some (.struct fs) ∧ fs.toList.map (·.type) = [3, 53, 54, 24, 24, 3] := ⟨_, Tryz.underlying56, rfl⟩
def ok56 (x : ViewT) : Prop := ok3 x.Tick ∧ ok53 x.Replies ∧ ok54 x.Sights ∧ ok24 x.Up ∧ ok24 x.Down ∧ ok3 x.Word
theorem rd56 {H : Hp} {cs : List Value} (h : Rd Tryz.prog H 56 cs) : ∃ x : ViewT, Cod.rep ViewTC 0 H cs x ∧ ok56 x := by
  obtain ⟨fs, hu, hm⟩ := ul56
  have h := h.struct_inv hu
  obtain ⟨fs⟩ := fs
  simp only at hm h
  obtain ⟨f0, fs, rfl⟩ : ∃ f r, fs = f :: r := by cases fs with | nil => cases hm | cons f r => exact ⟨f, r, rfl⟩
  obtain ⟨c0, d0, e0, h0, h⟩ := h.cons_inv
  simp only [List.map_cons, List.cons.injEq] at hm
  obtain ⟨m0, hm⟩ := hm
  rw [m0] at h0
  obtain ⟨f1, fs, rfl⟩ : ∃ f r, fs = f :: r := by cases fs with | nil => cases hm | cons f r => exact ⟨f, r, rfl⟩
  obtain ⟨c1, d1, e1, h1, h⟩ := h.cons_inv
  simp only [List.map_cons, List.cons.injEq] at hm
  obtain ⟨m1, hm⟩ := hm
  rw [m1] at h1
  obtain ⟨f2, fs, rfl⟩ : ∃ f r, fs = f :: r := by cases fs with | nil => cases hm | cons f r => exact ⟨f, r, rfl⟩
  obtain ⟨c2, d2, e2, h2, h⟩ := h.cons_inv
  simp only [List.map_cons, List.cons.injEq] at hm
  obtain ⟨m2, hm⟩ := hm
  rw [m2] at h2
  obtain ⟨f3, fs, rfl⟩ : ∃ f r, fs = f :: r := by cases fs with | nil => cases hm | cons f r => exact ⟨f, r, rfl⟩
  obtain ⟨c3, d3, e3, h3, h⟩ := h.cons_inv
  simp only [List.map_cons, List.cons.injEq] at hm
  obtain ⟨m3, hm⟩ := hm
  rw [m3] at h3
  obtain ⟨f4, fs, rfl⟩ : ∃ f r, fs = f :: r := by cases fs with | nil => cases hm | cons f r => exact ⟨f, r, rfl⟩
  obtain ⟨c4, d4, e4, h4, h⟩ := h.cons_inv
  simp only [List.map_cons, List.cons.injEq] at hm
  obtain ⟨m4, hm⟩ := hm
  rw [m4] at h4
  obtain ⟨f5, fs, rfl⟩ : ∃ f r, fs = f :: r := by cases fs with | nil => cases hm | cons f r => exact ⟨f, r, rfl⟩
  obtain ⟨c5, d5, e5, h5, h⟩ := h.cons_inv
  simp only [List.map_cons, List.cons.injEq] at hm
  obtain ⟨m5, hm⟩ := hm
  rw [m5] at h5
  obtain rfl : fs = [] := by cases fs with | nil => rfl | cons f r => cases hm
  have h := h.nil_inv
  obtain ⟨y0, rfl, k0⟩ := rd3 h0
  obtain ⟨y1, ⟨a_y1, c_y1, rfl, g_y1⟩, k1⟩ := rd53 h1
  obtain ⟨y2, ⟨a_y2, c_y2, rfl, g_y2⟩, k2⟩ := rd54 h2
  obtain ⟨y3, rfl, k3⟩ := rd24 h3
  obtain ⟨y4, rfl, k4⟩ := rd24 h4
  obtain ⟨y5, rfl, k5⟩ := rd3 h5
  subst h
  subst e5
  subst e4
  subst e3
  subst e2
  subst e1
  subst e0
  exact ⟨ViewT.mk y0 y1 y2 y3 y4 y5, ⟨_, _, _, _, rfl, g_y1, g_y2⟩, ⟨k0, k1, k2, k3, k4, k5⟩⟩
theorem ul52 : Tryz.prog.underlying 52 = some (.slice 56) := by kernel_rfl
theorem bo52 : Tryz.prog.bytesOf 56 = 80 := by kernel_rfl
def ok52 (x : List ViewT) : Prop := (∀ y ∈ x, ok56 y) ∧ x.length * 80 ≤ reachBytes ∧ x.length ≤ maxLen
theorem rd52 {H : Hp} {cs : List Value} (h : Rd Tryz.prog H 52 cs) : ∃ x : List ViewT, Cod.rep (slC ViewTC) 0 H cs x ∧ ok52 x := by
  obtain ⟨l, a, cap, rfl, h1, h2, h3, h4⟩ := h.sl_inv (c := ViewTC) ul52 fun cs h => rd56 h
  rw [bo52] at h3
  exact ⟨l, ⟨a, cap, rfl, h1⟩, h2, h3, h4⟩
def Pure4 : Prop := ∀ (x0 : List ViewT) (x1 : List ViewT), ok52 x0 → ok52 x1 → ∃ k : Nat, f4 k x0 x1 = some true
theorem law4 (hp : Pure4) (H : Hp) (args : List Value) (_ : Tryz.prog.globals.size ≤ H.next) (h : RdArgs Tryz.prog H Tryz.f4.params.toList args) : SCall Tryz.prog 4 args H (fun e _ => e = .ret (.bool true)) := by
  replace h : RdArgs Tryz.prog H [52, 52] args := h
  obtain ⟨v0, args0, ea0, h0, h⟩ := h.scal (by kernel_rfl)
  obtain ⟨x0, ⟨a0_0, c0_0, e0, g0_0⟩, k0⟩ := rd52 h0
  obtain rfl := (List.cons.inj e0).1
  obtain ⟨v1, args1, ea1, h1, h⟩ := h.scal (by kernel_rfl)
  obtain ⟨x1, ⟨a1_0, c1_0, e1, g1_0⟩, k1⟩ := rd52 h1
  obtain rfl := (List.cons.inj e1).1
  obtain rfl := h.nil_inv
  subst ea1
  subst ea0
  obtain ⟨k, hk⟩ := hp x0 x1 k0 k1
  exact (f4_ok g0_0 g1_0 hk).mono fun e H' ⟨v, h1, _, h2⟩ => by rw [h1, h2]
end Go.Proofs.YtiodokcfjgmpaaaGreatDoor

set_option linter.unusedVariables false
set_option linter.unusedSimpArgs false
namespace Go.Proofs.YtiodokcfjgmpaaaGreatDoor
open Go Go.Det Go.RowKit
/-! Two lists differ at the same place for both -/
theorem w64 {x : Int} (h1 : -9223372036854775808 ≤ x) (h2 : x ≤ 9223372036854775807) : IntKind.i64.wrap x = x := by rw [IntKind.wrap_i64]; omega
theorem wN {i : Nat} (h : i ≤ 100000) : IntKind.i64.wrap ((i : Int) + 1) = ((i + 1 : Nat) : Int) := by rw [w64 (by omega) (by omega)]; omega
theorem rdN {α : Type} {l : List α} {i : Nat} (h : i < l.length) : rd l (i : Int) = some l[i] := by rw [rd_nat]; simp [h]

/-! equality -/
theorem drop_eq_iff {α : Type} {l m : List α} (hm : l.length = m.length) {i : Nat} (h : i < l.length) : l.drop i = m.drop i ↔ l[i] = m[i]'(hm ▸ h) ∧ l.drop (i + 1) = m.drop (i + 1) := by
  rw [List.drop_eq_getElem_cons h, List.drop_eq_getElem_cons (hm ▸ h : i < m.length), List.cons.injEq]
section eqs
variable {α : Type} [DecidableEq α]
/-- A loop that compares two lists of one length; 'y' and 'n' are its ends. -/
theorem eq_loop {β : Type} (F : List α → List α → Nat → Int → Option β) (y no : β)
    (hF : ∀ (l m : List α) (n : Nat) (i : Nat), i ≤ 100000 → l.length = m.length → F l m (n + 1) (i : Int) = if h : i < l.length then (if l[i] = m[i]? then F l m n ((i + 1 : Nat) : Int) else some no) else some y)
    (l m : List α) (hm : l.length = m.length) (hl : l.length ≤ 100000) : ∀ (n i : Nat), l.length < n + i → i ≤ l.length → F l m n (i : Int) = some (if l.drop i = m.drop i then y else no)
  | 0, i, h, hi => by omega
  | n + 1, i, h, hi => by
    rw [hF l m n i (by omega) hm]
    by_cases hlt : i < l.length
    · rw [dif_pos hlt]
      have hlm : i < m.length := hm ▸ hlt
      by_cases he : l[i] = m[i]
      · rw [if_pos (by rw [List.getElem?_eq_getElem hlm, he]), eq_loop F y no hF l m hm hl n (i + 1) (by omega) (by omega)]
        by_cases hd : l.drop (i + 1) = m.drop (i + 1)
        · rw [if_pos hd, if_pos ((drop_eq_iff hm hlt).2 ⟨he, hd⟩)]
        · rw [if_neg hd, if_neg (fun q => hd ((drop_eq_iff hm hlt).1 q).2)]
      · rw [if_neg (by rw [List.getElem?_eq_getElem hlm]; simpa using he), if_neg (fun q => he ((drop_eq_iff hm hlt).1 q).1)]
    · rw [dif_neg hlt, if_pos (by rw [List.drop_of_length_le (by omega), List.drop_of_length_le (by omega)])]
end eqs
theorem rdM {α : Type} {l m : List α} (hm : l.length = m.length) {i : Nat} (h : i < l.length) : rd m (i : Int) = some (m[i]'(hm ▸ h)) := rdN (hm ▸ h)
theorem f66_eq (k : Nat) (hk : 6000 ≤ k) (l m : List Reply) (hl : l.length ≤ 5010) : f66 k l m = some (decide (l = m)) := by
  unfold f66
  by_cases hm : l.length = m.length
  · rw [if_pos (by omega)]
    have := eq_loop f66_l1 (.inl ()) (.inr false) (fun l m n i hi hm => by
      conv => lhs; unfold f66_l1
      by_cases hlt : i < l.length
      · rw [dif_pos hlt, decide_eq_true (by omega : (i : Int) < (l.length : Int)), Option.bind_some, if_pos rfl, rdN hlt, Option.bind_some, rdM hm hlt, Option.bind_some, wN hi]
        by_cases he : l[i] = m[i]'(hm ▸ hlt)
        · rw [if_pos he, if_pos (by rw [List.getElem?_eq_getElem (hm ▸ hlt), he])]
        · rw [if_neg he, if_neg (by rw [List.getElem?_eq_getElem (hm ▸ hlt)]; simpa using he)]
      · rw [dif_neg hlt, decide_eq_false (by omega : ¬ (i : Int) < (l.length : Int)), Option.bind_some, if_neg (by simp)]) l m hm (by omega) k 0 (by omega) (by omega)
    rw [show (0 : Int) = ((0 : Nat) : Int) from rfl, this, List.drop_zero, List.drop_zero]
    by_cases he : l = m <;> simp [he]
  · rw [if_neg (by omega)]
    have : l ≠ m := fun q => hm (by rw [q])
    simp [this]
theorem f67_eq (k : Nat) (hk : 6000 ≤ k) (l m : List Sight) (hl : l.length ≤ 5010) : f67 k l m = some (decide (l = m)) := by
  unfold f67
  by_cases hm : l.length = m.length
  · rw [if_pos (by omega)]
    have := eq_loop f67_l1 (.inl ()) (.inr false) (fun l m n i hi hm => by
      conv => lhs; unfold f67_l1
      by_cases hlt : i < l.length
      · rw [dif_pos hlt, decide_eq_true (by omega : (i : Int) < (l.length : Int)), Option.bind_some, if_pos rfl, rdN hlt, Option.bind_some, rdM hm hlt, Option.bind_some, wN hi]
        by_cases he : l[i] = m[i]'(hm ▸ hlt)
        · rw [if_pos he, if_pos (by rw [List.getElem?_eq_getElem (hm ▸ hlt), he])]
        · rw [if_neg he, if_neg (by rw [List.getElem?_eq_getElem (hm ▸ hlt)]; simpa using he)]
      · rw [dif_neg hlt, decide_eq_false (by omega : ¬ (i : Int) < (l.length : Int)), Option.bind_some, if_neg (by simp)]) l m hm (by omega) k 0 (by omega) (by omega)
    rw [show (0 : Int) = ((0 : Nat) : Int) from rfl, this, List.drop_zero, List.drop_zero]
    by_cases he : l = m <;> simp [he]
  · rw [if_neg (by omega)]
    have : l ≠ m := fun q => hm (by rw [q])
    simp [this]
theorem step2 {α β : Type} [DecidableEq α] {l m : List α} {i : Nat} (hi : i ≤ 100000) (hm : l.length = m.length) {F : Option β} {no y : β} {G : Int → Option β} (hG : G ((i + 1 : Nat) : Int) = F) :
    (if (i : Int) < (l.length : Int) then (rd l (i : Int)).bind fun a => (rd m (i : Int)).bind fun b => if a = b then G (IntKind.i64.wrap ((i : Int) + 1)) else some no else some y) =
      if h : i < l.length then (if l[i] = m[i]? then F else some no) else some y := by
  by_cases hlt : i < l.length
  · rw [dif_pos hlt, if_pos (by omega), rdN hlt, Option.bind_some, rdM hm hlt, Option.bind_some, wN hi, hG]
    by_cases he : l[i] = m[i]'(hm ▸ hlt)
    · rw [if_pos he, if_pos (by rw [List.getElem?_eq_getElem (hm ▸ hlt), he])]
    · rw [if_neg he, if_neg (by rw [List.getElem?_eq_getElem (hm ▸ hlt)]; simpa using he)]
  · rw [dif_neg hlt, if_neg (by omega)]
theorem f43l1_eq (n : Nat) (l m : List Reply) (hm : l.length = m.length) (hl : l.length < n) (h : l.length ≤ 5010) : f43_l1 l m n 0 = some (if l = m then .inr () else .inl false) := by
  have := eq_loop f43_l1 (.inr ()) (.inl false) (fun l m n i hi hm => by (conv => lhs; unfold f43_l1); exact step2 hi hm (G := f43_l1 l m n) rfl) l m hm (by omega) n 0 (by omega) (by omega)
  rw [List.drop_zero, List.drop_zero] at this; exact this
theorem f43l2_eq (n : Nat) (l m : List Sight) (hm : l.length = m.length) (hl : l.length < n) (h : l.length ≤ 5010) : f43_l2 l m n 0 = some (if l = m then .inr () else .inl false) := by
  have := eq_loop f43_l2 (.inr ()) (.inl false) (fun l m n i hi hm => by (conv => lhs; unfold f43_l2); exact step2 hi hm (G := f43_l2 l m n) rfl) l m hm (by omega) n 0 (by omega) (by omega)
  rw [List.drop_zero, List.drop_zero] at this; exact this
theorem view_ext {v w : ViewT} (h1 : v.Tick = w.Tick) (h2 : v.Replies = w.Replies) (h3 : v.Sights = w.Sights) (h4 : v.Up = w.Up) (h5 : v.Down = w.Down) (h6 : v.Word = w.Word) : v = w := by
  cases v; cases w; simp_all
theorem f42_eq (k : Nat) (hk : 6000 ≤ k) (v w : ViewT) (h : v.Replies.length ≤ 20 ∧ v.Sights.length ≤ 20) : f42 k v w = some (decide (v = w)) := by
  unfold f42
  by_cases h1 : v.Tick = w.Tick
  case neg => rw [if_neg h1, decide_eq_false (fun q => h1 (by rw [q]))]
  by_cases h2 : v.Up = w.Up
  case neg => rw [if_pos h1, if_neg h2, decide_eq_false (fun q => h2 (by rw [q]))]
  by_cases h3 : v.Down = w.Down
  case neg => rw [if_pos h1, if_pos h2, if_neg h3, decide_eq_false (fun q => h3 (by rw [q]))]
  by_cases h4 : v.Word = w.Word
  case neg => rw [if_pos h1, if_pos h2, if_pos h3, if_neg h4, decide_eq_false (fun q => h4 (by rw [q]))]
  rw [if_pos h1, if_pos h2, if_pos h3, if_pos h4, f66_eq k hk _ _ (by omega), Option.bind_some]
  by_cases h5 : v.Replies = w.Replies
  case neg => rw [decide_eq_false h5, if_neg (by simp), decide_eq_false (fun q => h5 (by rw [q]))]
  rw [decide_eq_true h5, if_pos rfl, f67_eq k hk _ _ (by omega), Option.bind_some]
  by_cases h6 : v.Sights = w.Sights
  case neg => rw [decide_eq_false h6, decide_eq_false (fun q => h6 (by rw [q]))]
  rw [decide_eq_true h6, decide_eq_true (view_ext h1 h5 h6 h2 h3 h4)]
theorem f43_eq (k : Nat) (hk : 6000 ≤ k) (v w : ViewT) (h : v.Replies.length ≤ 20 ∧ v.Sights.length ≤ 20) : f43 k v w = some (decide (v = w)) := by
  unfold f43
  by_cases h1 : v.Tick = w.Tick
  case neg => rw [if_neg h1, decide_eq_false (fun q => h1 (by rw [q]))]
  by_cases h2 : v.Up = w.Up
  case neg => rw [if_pos h1, if_neg h2, decide_eq_false (fun q => h2 (by rw [q]))]
  by_cases h3 : v.Down = w.Down
  case neg => rw [if_pos h1, if_pos h2, if_neg h3, decide_eq_false (fun q => h3 (by rw [q]))]
  by_cases h4 : v.Word = w.Word
  case neg => rw [if_pos h1, if_pos h2, if_pos h3, if_neg h4, decide_eq_false (fun q => h4 (by rw [q]))]
  by_cases h7 : v.Replies.length = w.Replies.length
  case neg => rw [if_pos h1, if_pos h2, if_pos h3, if_pos h4, if_neg (by omega), decide_eq_false (fun q => h7 (by rw [q]))]
  by_cases h8 : v.Sights.length = w.Sights.length
  case neg => rw [if_pos h1, if_pos h2, if_pos h3, if_pos h4, if_pos (by omega), if_neg (by omega), decide_eq_false (fun q => h8 (by rw [q]))]
  rw [if_pos h1, if_pos h2, if_pos h3, if_pos h4, if_pos (by omega), if_pos (by omega), f43l1_eq k _ _ h7 (by omega) (by omega), Option.bind_some]
  by_cases h5 : v.Replies = w.Replies
  case neg => rw [if_neg h5, decide_eq_false (fun q => h5 (by rw [q]))]
  rw [if_pos h5]
  simp only
  rw [f43l2_eq k _ _ h8 (by omega) (by omega), Option.bind_some]
  by_cases h6 : v.Sights = w.Sights
  case neg => rw [if_neg h6, decide_eq_false (fun q => h6 (by rw [q]))]
  rw [if_pos h6, decide_eq_true (view_ext h1 h5 h6 h2 h3 h4)]
def Small (l : List ViewT) : Prop := ∀ v ∈ l, v.Replies.length ≤ 20 ∧ v.Sights.length ≤ 20
theorem differ_loop (k : Nat) (hk : 6000 ≤ k) (l m : List ViewT) (hl : l.length ≤ 100) (hm : m.length ≤ 100) (hs : Small l) : ∀ (n i : Nat), 100 < n + i → i ≤ 100 →
    ∃ c : Option Int, f20_l1 k l m n (i : Int) = some (match c with | none => .inl () | some j => .inr j) ∧ f21_l1 k l m n (i : Int) = some (match c with | none => .inr () | some j => .inl j)
  | 0, i, h, hi => by omega
  | n + 1, i, h, hi => by
    unfold f20_l1 f21_l1
    rw [Go.Det.gmax_eq]
    by_cases h1 : i < l.length
    · rw [decide_eq_true (by omega : (i : Int) < max (l.length : Int) (m.length : Int)), Option.bind_some, if_pos rfl, if_neg (by omega : ¬ (i : Int) ≥ (l.length : Int)), if_pos (by omega : (i : Int) < (l.length : Int))]
      simp only [Option.bind_some]
      rw [if_neg (by omega : ¬ (i : Int) ≥ (l.length : Int))]
      by_cases h2 : i < m.length
      · rw [if_neg (by omega : ¬ (i : Int) ≥ (m.length : Int)), if_neg (by omega : ¬ (i : Int) ≥ (m.length : Int)), rdN h1, rdN h2]
        simp only [Option.bind_some]
        have hv := hs _ (List.getElem_mem h1)
        rw [f42_eq k hk _ _ hv, f43_eq k hk _ _ hv]
        simp only [Option.bind_some]
        by_cases e : l[i] = m[i]
        · rw [decide_eq_true e, if_pos rfl, if_pos rfl, wN (by omega)]
          exact differ_loop k hk l m hl hm hs n (i + 1) (by omega) (by omega)
        · rw [decide_eq_false e, if_neg (by simp), if_neg (by simp)]
          exact ⟨some (i : Int), rfl, rfl⟩
      · rw [if_pos (by omega : (i : Int) ≥ (m.length : Int)), if_pos (by omega : (i : Int) ≥ (m.length : Int))]
        exact ⟨some (i : Int), rfl, rfl⟩
    · by_cases h2 : i < m.length
      · rw [decide_eq_true (by omega : (i : Int) < max (l.length : Int) (m.length : Int)), Option.bind_some, if_pos rfl, if_pos (by omega : (i : Int) ≥ (l.length : Int)), if_neg (by omega : ¬ (i : Int) < (l.length : Int)), if_pos (by omega : (i : Int) < (m.length : Int))]
        simp only [Option.bind_some]
        rw [if_pos (by omega : (i : Int) ≥ (l.length : Int))]
        exact ⟨some (i : Int), rfl, rfl⟩
      · rw [decide_eq_false (by omega : ¬ (i : Int) < max (l.length : Int) (m.length : Int)), Option.bind_some, if_neg (by simp), if_neg (by omega : ¬ (i : Int) < (l.length : Int)), if_neg (by omega : ¬ (i : Int) < (m.length : Int))]
        exact ⟨none, rfl, rfl⟩
theorem guard1 (l : List ViewT) (hl : l.length ≤ 100) : ∀ (n i : Nat), l.length < n + i → i ≤ l.length → ∃ c, f4_l1 l n (i : Int) = some c ∧ (∀ b, c = .inl b → b = true) ∧ (c = .inr () → ∀ j (h : j < l.length), i ≤ j → l[j].Replies.length ≤ 20 ∧ l[j].Sights.length ≤ 20)
  | 0, i, h, hi => by omega
  | n + 1, i, h, hi => by
    unfold f4_l1 f7
    by_cases hlt : i < l.length
    · rw [if_pos (by omega), rdN hlt]
      simp only [Option.bind_some]
      by_cases h1 : (l[i].Replies.length : Int) > 20
      · rw [if_pos h1]; exact ⟨_, rfl, (fun b q => by cases q; rfl), (fun q => by cases q)⟩
      · rw [if_neg h1]
        by_cases h2 : (l[i].Sights.length : Int) > 20
        · rw [if_pos h2]; exact ⟨_, rfl, (fun b q => by cases q; rfl), (fun q => by cases q)⟩
        · rw [if_neg h2, wN (by omega)]
          obtain ⟨c, e, k1, k2⟩ := guard1 l hl n (i + 1) (by omega) (by omega)
          refine ⟨c, e, k1, fun q j hj hij => ?_⟩
          rcases Nat.eq_or_lt_of_le hij with rfl | hij
          · omega
          · exact k2 q j hj (by omega)
    · rw [if_neg (by omega)]
      exact ⟨_, rfl, (fun b q => by cases q), (fun _ j hj hij => by omega)⟩
theorem guard2 (l : List ViewT) (hl : l.length ≤ 100) : ∀ (n i : Nat), l.length < n + i → i ≤ l.length → ∃ c, f4_l2 l n (i : Int) = some c ∧ (∀ b, c = .inl b → b = true)
  | 0, i, h, hi => by omega
  | n + 1, i, h, hi => by
    unfold f4_l2 f7
    by_cases hlt : i < l.length
    · rw [if_pos (by omega), rdN hlt]
      simp only [Option.bind_some]
      by_cases h1 : (l[i].Replies.length : Int) > 20
      · rw [if_pos h1]; exact ⟨_, rfl, (fun b q => by cases q; rfl)⟩
      · rw [if_neg h1]
        by_cases h2 : (l[i].Sights.length : Int) > 20
        · rw [if_pos h2]; exact ⟨_, rfl, (fun b q => by cases q; rfl)⟩
        · rw [if_neg h2, wN (by omega)]
          exact guard2 l hl n (i + 1) (by omega) (by omega)
    · rw [if_neg (by omega)]
      exact ⟨_, rfl, (fun b q => by cases q)⟩
theorem pure4 : Pure4 := by
  intro l m hl hm
  refine ⟨6000, ?_⟩
  unfold f4
  by_cases h1 : (l.length : Int) > 100
  · rw [if_pos h1]; rfl
  rw [if_neg h1]
  by_cases h2 : (m.length : Int) > 100
  · rw [if_pos h2]; rfl
  rw [if_neg h2]
  obtain ⟨c, e1, k1, k2⟩ := guard1 l (by omega) 6000 0 (by omega) (by omega)
  rw [show (0 : Int) = ((0 : Nat) : Int) from rfl, e1, Option.bind_some]
  cases c with
  | inl b => have := k1 b rfl; subst this; rfl
  | inr u =>
    have hs : Small l := fun v hv => by
      obtain ⟨j, hj, rfl⟩ := List.mem_iff_getElem.1 hv
      exact k2 rfl j hj (by omega)
    obtain ⟨c, e2, k3⟩ := guard2 m (by omega) 6000 0 (by omega) (by omega)
    simp only
    rw [e2, Option.bind_some]
    cases c with
    | inl b => have := k3 b rfl; subst this; rfl
    | inr u =>
      simp only
      obtain ⟨c, d1, d2⟩ := differ_loop 6000 (Nat.le_refl _) l m (by omega) (by omega) hs 6000 0 (by omega) (by omega)
      have q : f20 6000 l m = f21 6000 l m ∧ ∃ z, f21 6000 l m = some z := by
        unfold f20 f21
        rw [show (0 : Int) = ((0 : Nat) : Int) from rfl, d1, d2]
        cases c with
        | none => exact ⟨rfl, _, rfl⟩
        | some j => exact ⟨rfl, _, rfl⟩
      obtain ⟨q1, z, q2⟩ := q
      rw [q1, q2]
      simp only [Option.bind_some, if_true]
      rfl
end Go.Proofs.YtiodokcfjgmpaaaGreatDoor
