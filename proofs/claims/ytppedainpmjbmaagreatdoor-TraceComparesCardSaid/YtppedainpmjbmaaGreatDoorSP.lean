import Derived.Test.YtppedainpmjbmaaGreatDoorFC
import Derived.Test.YtppedainpmjbmaaGreatDoorD51
set_option linter.unusedVariables false
namespace Go.Proofs.YtppedainpmjbmaaGreatDoor
open Go Go.Det Go.RowKit
theorem ul3 : Tryz.prog.underlying 3 = some (.int .i64) := by kernel_rfl
def ok3 (x : Int) : Prop := okI .i64 x
theorem rd3 {H : Hp} {cs : List Value} (h : Rd Tryz.prog H 3 cs) : ∃ x : Int, Cod.rep intC 0 H cs x ∧ ok3 x := by
  obtain ⟨x, rfl, hx⟩ := h.int_inv ul3
  exact ⟨x, rfl, hx⟩
theorem ul87 : ∃ fs, Tryz.prog.underlying 87 = some (.struct fs) ∧ fs.toList.map (·.type) = [3, 3] := ⟨_, Tryz.underlying87, rfl⟩
def ok87 (x : Reply) : Prop := ok3 x.Port ∧ ok3 x.Code
theorem rd87 {H : Hp} {cs : List Value} (h : Rd Tryz.prog H 87 cs) : ∃ x : Reply, Cod.rep ReplyC 0 H cs x ∧ ok87 x := by
  obtain ⟨fs, hu, hm⟩ := ul87
  have h := h.struct_inv hu
  obtain ⟨fs⟩ := fs
  simp only at hm h
  obtain ⟨f0, fs, rfl⟩ : ∃ f r, fs = f :: r := by cases fs with | nil => cases hm | cons f r => exact ⟨f, r, rfl⟩
  obtain ⟨c0, d0, e0, h0, h⟩ := h.cons_inv
  simp only [List.map_cons, List.cons.injEq] at hm
  obtain ⟨m0, hm⟩ := hm
  rw [m0] at h0
  obtain ⟨f1, fs, rfl⟩ : ∃ f r, fs = f :: r := by cases fs with | nil => cases hm | cons f r => exact ⟨f, r, rfl⟩
  obtain ⟨c1, d1, e1, h1, h⟩ := h.cons_inv
  simp only [List.map_cons, List.cons.injEq] at hm
  obtain ⟨m1, hm⟩ := hm
  rw [m1] at h1
  obtain rfl : fs = [] := by cases fs with | nil => rfl | cons f r => cases hm
  have h := h.nil_inv
  obtain ⟨y0, rfl, k0⟩ := rd3 h0
  obtain ⟨y1, rfl, k1⟩ := rd3 h1
  subst h
  subst e1
  subst e0
  exact ⟨Reply.mk y0 y1, rfl, ⟨k0, k1⟩⟩
theorem ul44 : Tryz.prog.underlying 44 = some (.slice 87) := by kernel_rfl
theorem bo44 : Tryz.prog.bytesOf 87 = 16 := by kernel_rfl
def ok44 (x : List Reply) : Prop := (∀ y ∈ x, ok87 y) ∧ x.length * 16 ≤ reachBytes ∧ x.length ≤ maxLen
theorem rd44 {H : Hp} {cs : List Value} (h : Rd Tryz.prog H 44 cs) : ∃ x : List Reply, Cod.rep (slC ReplyC) 0 H cs x ∧ ok44 x := by
  obtain ⟨l, a, cap, rfl, h1, h2, h3, h4⟩ := h.sl_inv (c := ReplyC) ul44 fun cs h => rd87 h
  rw [bo44] at h3
  exact ⟨l, ⟨a, cap, rfl, h1⟩, h2, h3, h4⟩
theorem ul4 : Tryz.prog.underlying 4 = some .bool := by kernel_rfl
def ok4 (_ : Bool) : Prop := True
theorem rd4 {H : Hp} {cs : List Value} (h : Rd Tryz.prog H 4 cs) : ∃ x : Bool, Cod.rep boolC 0 H cs x ∧ ok4 x := by
  obtain ⟨x, rfl⟩ := h.bool_inv ul4
  exact ⟨x, rfl, trivial⟩
theorem ul84 : ∃ fs, Tryz.prog.underlying 84 = some (.struct fs) ∧ fs.toList.map (·.type) = [3, 3, 4] := ⟨_, Tryz.underlying84, rfl⟩
def ok84 (x : Sight) : Prop := ok3 x.Floor ∧ ok3 x.Panel ∧ ok4 x.Out
theorem rd84 {H : Hp} {cs : List Value} (h : Rd Tryz.prog H 84 cs) : ∃ x : Sight, Cod.rep SightC 0 H cs x ∧ ok84 x := by
  obtain ⟨fs, hu, hm⟩ := ul84
  have h := h.struct_inv hu
  obtain ⟨fs⟩ := fs
  simp only at hm h
  obtain ⟨f0, fs, rfl⟩ : ∃ f r, fs = f :: r := by cases fs with | nil => cases hm | cons f r => exact ⟨f, r, rfl⟩
  obtain ⟨c0, d0, e0, h0, h⟩ := h.cons_inv
  simp only [List.map_cons, List.cons.injEq] at hm
  obtain ⟨m0, hm⟩ := hm
  rw [m0] at h0
  obtain ⟨f1, fs, rfl⟩ : ∃ f r, fs = f :: r := by cases fs with | nil => cases hm | cons f r => exact ⟨f, r, rfl⟩
  obtain ⟨c1, d1, e1, h1, h⟩ := h.cons_inv
  simp only [List.map_cons, List.cons.injEq] at hm
  obtain ⟨m1, hm⟩ := hm
  rw [m1] at h1
  obtain ⟨f2, fs, rfl⟩ : ∃ f r, fs = f :: r := by cases fs with | nil => cases hm | cons f r => exact ⟨f, r, rfl⟩
  obtain ⟨c2, d2, e2, h2, h⟩ := h.cons_inv
  simp only [List.map_cons, List.cons.injEq] at hm
  obtain ⟨m2, hm⟩ := hm
  rw [m2] at h2
  obtain rfl : fs = [] := by cases fs with | nil => rfl | cons f r => cases hm
  have h := h.nil_inv
  obtain ⟨y0, rfl, k0⟩ := rd3 h0
  obtain ⟨y1, rfl, k1⟩ := rd3 h1
  obtain ⟨y2, rfl, k2⟩ := rd4 h2
  subst h
  subst e2
  subst e1
  subst e0
  exact ⟨Sight.mk y0 y1 y2, rfl, ⟨k0, k1, k2⟩⟩
theorem ul45 : Tryz.prog.underlying 45 = some (.slice 84) := by kernel_rfl
theorem bo45 : Tryz.prog.bytesOf 84 = 24 := by kernel_rfl
def ok45 (x : List Sight) : Prop := (∀ y ∈ x, ok84 y) ∧ x.length * 24 ≤ reachBytes ∧ x.length ≤ maxLen
theorem rd45 {H : Hp} {cs : List Value} (h : Rd Tryz.prog H 45 cs) : ∃ x : List Sight, Cod.rep (slC SightC) 0 H cs x ∧ ok45 x := by
  obtain ⟨l, a, cap, rfl, h1, h2, h3, h4⟩ := h.sl_inv (c := SightC) ul45 fun cs h => rd84 h
  rw [bo45] at h3
  exact ⟨l, ⟨a, cap, rfl, h1⟩, h2, h3, h4⟩
theorem ul46 : Tryz.prog.underlying 46 = some (.int .u64) := by kernel_rfl
def ok46 (x : Int) : Prop := okI .u64 x
theorem rd46 {H : Hp} {cs : List Value} (h : Rd Tryz.prog H 46 cs) : ∃ x : Int, Cod.rep (kindC .u64) 0 H cs x ∧ ok46 x := by
  obtain ⟨x, rfl, hx⟩ := h.int_inv ul46
  exact ⟨x, rfl, hx⟩
theorem ul48 : ∃ fs, Tryz.prog.underlying 48 = some (.struct fs) ∧ fs.toList.map (·.type) = [3, 44, 45, 46, 46, 3] := ⟨_, Tryz.underlying48, rfl⟩
def ok48 (x : ViewT) : Prop := ok3 x.Tick ∧ ok44 x.Replies ∧ ok45 x.Sights ∧ ok46 x.Up ∧ ok46 x.Down ∧ ok3 x.Word
theorem rd48 {H : Hp} {cs : List Value} (h : Rd Tryz.prog H 48 cs) : ∃ x : ViewT, Cod.rep ViewTC 0 H cs x ∧ ok48 x := by
  obtain ⟨fs, hu, hm⟩ := ul48
  have h := h.struct_inv hu
  obtain ⟨fs⟩ := fs
  simp only at hm h
  obtain ⟨f0, fs, rfl⟩ : ∃ f r, fs = f :: r := by cases fs with | nil => cases hm | cons f r => exact ⟨f, r, rfl⟩
  obtain ⟨c0, d0, e0, h0, h⟩ := h.cons_inv
  simp only [List.map_cons, List.cons.injEq] at hm
  obtain ⟨m0, hm⟩ := hm
  rw [m0] at h0
  obtain ⟨f1, fs, rfl⟩ : ∃ f r, fs = f :: r := by cases fs with | nil => cases hm | cons f r => exact ⟨f, r, rfl⟩
  obtain ⟨c1, d1, e1, h1, h⟩ := h.cons_inv
  simp only [List.map_cons, List.cons.injEq] at hm
  obtain ⟨m1, hm⟩ := hm
  rw [m1] at h1
  obtain ⟨f2, fs, rfl⟩ : ∃ f r, fs = f :: r := by cases fs with | nil => cases hm | cons f r => exact ⟨f, r, rfl⟩
  obtain ⟨c2, d2, e2, h2, h⟩ := h.cons_inv
  simp only [List.map_cons, List.cons.injEq] at hm
  obtain ⟨m2, hm⟩ := hm
  rw [m2] at h2
  obtain ⟨f3, fs, rfl⟩ : ∃ f r, fs = f :: r := by cases fs with | nil => cases hm | cons f r => exact ⟨f, r, rfl⟩
  obtain ⟨c3, d3, e3, h3, h⟩ := h.cons_inv
  simp only [List.map_cons, List.cons.injEq] at hm
  obtain ⟨m3, hm⟩ := hm
  rw [m3] at h3
  obtain ⟨f4, fs, rfl⟩ : ∃ f r, fs = f :: r := by cases fs with | nil => cases hm | cons f r => exact ⟨f, r, rfl⟩
  obtain ⟨c4, d4, e4, h4, h⟩ := h.cons_inv
  simp only [List.map_cons, List.cons.injEq] at hm
  obtain ⟨m4, hm⟩ := hm
  rw [m4] at h4
  obtain ⟨f5, fs, rfl⟩ : ∃ f r, fs = f :: r := by cases fs with | nil => cases hm | cons f r => exact ⟨f, r, rfl⟩
  obtain ⟨c5, d5, e5, h5, h⟩ := h.cons_inv
  simp only [List.map_cons, List.cons.injEq] at hm
  obtain ⟨m5, hm⟩ := hm
  rw [m5] at h5
  obtain rfl : fs = [] := by cases fs with | nil => rfl | cons f r => cases hm
  have h := h.nil_inv
  obtain ⟨y0, rfl, k0⟩ := rd3 h0
  obtain ⟨y1, ⟨a_y1, c_y1, rfl, g_y1⟩, k1⟩ := rd44 h1
  obtain ⟨y2, ⟨a_y2, c_y2, rfl, g_y2⟩, k2⟩ := rd45 h2
  obtain ⟨y3, rfl, k3⟩ := rd46 h3
  obtain ⟨y4, rfl, k4⟩ := rd46 h4
  obtain ⟨y5, rfl, k5⟩ := rd3 h5
  subst h
  subst e5
  subst e4
  subst e3
  subst e2
  subst e1
  subst e0
  exact ⟨ViewT.mk y0 y1 y2 y3 y4 y5, ⟨_, _, _, _, rfl, g_y1, g_y2⟩, ⟨k0, k1, k2, k3, k4, k5⟩⟩
theorem ul23 : Tryz.prog.underlying 23 = some (.slice 48) := by kernel_rfl
theorem bo23 : Tryz.prog.bytesOf 48 = 80 := by kernel_rfl
def ok23 (x : List ViewT) : Prop := (∀ y ∈ x, ok48 y) ∧ x.length * 80 ≤ reachBytes ∧ x.length ≤ maxLen
theorem rd23 {H : Hp} {cs : List Value} (h : Rd Tryz.prog H 23 cs) : ∃ x : List ViewT, Cod.rep (slC ViewTC) 0 H cs x ∧ ok23 x := by
  obtain ⟨l, a, cap, rfl, h1, h2, h3, h4⟩ := h.sl_inv (c := ViewTC) ul23 fun cs h => rd48 h
  rw [bo23] at h3
  exact ⟨l, ⟨a, cap, rfl, h1⟩, h2, h3, h4⟩
theorem ul52 : ∃ fs, Tryz.prog.underlying 52 = some (.struct fs) ∧ fs.toList.map (·.type) = [3, 3] := ⟨_, Tryz.underlying52, rfl⟩
def ok52 (x : Part) : Prop := ok3 x.From ∧ ok3 x.To
theorem rd52 {H : Hp} {cs : List Value} (h : Rd Tryz.prog H 52 cs) : ∃ x : Part, Cod.rep PartC 0 H cs x ∧ ok52 x := by
  obtain ⟨fs, hu, hm⟩ := ul52
  have h := h.struct_inv hu
  obtain ⟨fs⟩ := fs
  simp only at hm h
  obtain ⟨f0, fs, rfl⟩ : ∃ f r, fs = f :: r := by cases fs with | nil => cases hm | cons f r => exact ⟨f, r, rfl⟩
  obtain ⟨c0, d0, e0, h0, h⟩ := h.cons_inv
  simp only [List.map_cons, List.cons.injEq] at hm
  obtain ⟨m0, hm⟩ := hm
  rw [m0] at h0
  obtain ⟨f1, fs, rfl⟩ : ∃ f r, fs = f :: r := by cases fs with | nil => cases hm | cons f r => exact ⟨f, r, rfl⟩
  obtain ⟨c1, d1, e1, h1, h⟩ := h.cons_inv
  simp only [List.map_cons, List.cons.injEq] at hm
  obtain ⟨m1, hm⟩ := hm
  rw [m1] at h1
  obtain rfl : fs = [] := by cases fs with | nil => rfl | cons f r => cases hm
  have h := h.nil_inv
  obtain ⟨y0, rfl, k0⟩ := rd3 h0
  obtain ⟨y1, rfl, k1⟩ := rd3 h1
  subst h
  subst e1
  subst e0
  exact ⟨Part.mk y0 y1, rfl, ⟨k0, k1⟩⟩
def Pure8 : Prop := ∀ (x0 : List ViewT) (x1 : List ViewT) (x2 : Part), ok23 x0 → ok23 x1 → ok52 x2 → ∃ k : Nat, f8 k x0 x1 x2 = some true
theorem law8 (hp : Pure8) (H : Hp) (args : List Value) (_ : Tryz.prog.globals.size ≤ H.next) (h : RdArgs Tryz.prog H Tryz.f8.params.toList args) : SCall Tryz.prog 8 args H (fun e _ => e = .ret (.bool true)) := by
  replace h : RdArgs Tryz.prog H [23, 23, 52] args := h
  obtain ⟨v0, args0, ea0, h0, h⟩ := h.scal (by kernel_rfl)
  obtain ⟨x0, ⟨a0_0, c0_0, e0, g0_0⟩, k0⟩ := rd23 h0
  obtain rfl := (List.cons.inj e0).1
  obtain ⟨v1, args1, ea1, h1, h⟩ := h.scal (by kernel_rfl)
  obtain ⟨x1, ⟨a1_0, c1_0, e1, g1_0⟩, k1⟩ := rd23 h1
  obtain rfl := (List.cons.inj e1).1
  obtain ⟨v2, args2, ea2, h2, h⟩ := h.aggr (by kernel_rfl)
  obtain ⟨x2, e2, k2⟩ := rd52 h2
  subst e2
  obtain rfl := h.nil_inv
  subst ea2
  subst ea1
  subst ea0
  obtain ⟨k, hk⟩ := hp x0 x1 x2 k0 k1 k2
  exact (f8_ok g0_0 g1_0 hk).mono fun e H' ⟨v, h1, _, h2⟩ => by rw [h1, h2]
end Go.Proofs.YtppedainpmjbmaaGreatDoor

set_option linter.unusedVariables false
set_option linter.unusedSimpArgs false
namespace Go.Proofs.YtppedainpmjbmaaGreatDoor
open Go Go.Det Go.RowKit
/-! Loops over lists, copies, comparisons, Check of both sides -/
theorem w64 {x : Int} (h1 : -9223372036854775808 ≤ x) (h2 : x ≤ 9223372036854775807) : IntKind.i64.wrap x = x := by rw [IntKind.wrap_i64]; omega
theorem wN {i : Nat} (h : i ≤ 100000) : IntKind.i64.wrap ((i : Int) + 1) = ((i + 1 : Nat) : Int) := by rw [w64 (by omega) (by omega)]; omega
theorem rdN {α : Type} {l : List α} {i : Nat} (h : i < l.length) : rd l (i : Int) = some l[i] := by rw [rd_nat]; simp [h]

/-! light: lengths -/
def Small (l : List ViewT) : Prop := ∀ v ∈ l, v.Replies.length ≤ 60 ∧ v.Sights.length ≤ 12
theorem light_loop (l : List ViewT) (hl : l.length ≤ 100000) : ∀ (n i : Nat), l.length < n + i → i ≤ l.length →
    (∃ b, f18_l1 l n (i : Int) = some b ∧ (b = .inr () → ∀ j (h : j < l.length), i ≤ j → l[j].Replies.length ≤ 60 ∧ l[j].Sights.length ≤ 12) ∧ (∀ c, b = .inl c → c = false))
  | 0, i, h, hi => by omega
  | n + 1, i, h, hi => by
    unfold f18_l1
    by_cases hlt : i < l.length
    · rw [if_pos (by omega), rdN hlt]
      simp only [Option.bind_some]
      by_cases h1 : (l[i].Replies.length : Int) > 60
      · rw [if_pos h1]; exact ⟨_, rfl, (fun q => by cases q), (fun c q => by cases q; rfl)⟩
      · rw [if_neg h1]
        by_cases h2 : (l[i].Sights.length : Int) > 12
        · rw [if_pos h2]; exact ⟨_, rfl, (fun q => by cases q), (fun c q => by cases q; rfl)⟩
        · rw [if_neg h2, wN (by omega)]
          obtain ⟨b, e, k1, k2⟩ := light_loop l hl n (i + 1) (by omega) (by omega)
          refine ⟨b, e, fun q j hj hij => ?_, k2⟩
          rcases Nat.eq_or_lt_of_le hij with rfl | hij
          · omega
          · exact k1 q j hj (by omega)
    · rw [if_neg (by omega)]
      exact ⟨_, rfl, (fun _ j hj hij => by omega), (fun c q => by cases q)⟩
theorem light_eq (k : Nat) (hk : 6000 ≤ k) (l : List ViewT) (hl : l.length ≤ maxLen) : ∃ b, f18 k l = some b ∧ (b = true → l.length ≤ 5010 ∧ Small l) := by
  unfold f18
  by_cases h5 : l.length > 5010
  · refine ⟨false, ?_, fun q => by cases q⟩
    rw [if_pos (by omega), if_neg (by omega), if_pos (by omega)]; rfl
  · have inner : ∃ b, ((f18_l1 l k 0).bind fun s => match s with | .inl st => some st | .inr _ => some true) = some b ∧ (b = true → l.length ≤ 5010 ∧ Small l) := by
      obtain ⟨b, e, k1, k2⟩ := light_loop l (by omega) k 0 (by omega) (by omega)
      rw [show (0 : Int) = ((0 : Nat) : Int) from rfl, e]
      cases b with
      | inl c => refine ⟨c, rfl, fun q => ?_⟩; have := k2 c rfl; subst this; cases q
      | inr u =>
        refine ⟨true, rfl, fun _ => ⟨by omega, fun v hv => ?_⟩⟩
        obtain ⟨j, hj, rfl⟩ := List.mem_iff_getElem.1 hv
        exact k1 rfl j hj (by omega)
    by_cases h6 : (l.length : Int) > 60
    · rw [if_pos h6]
      by_cases h7 : (l.length : Int) ≤ 5000
      · rw [if_pos h7]; exact ⟨false, rfl, fun q => by cases q⟩
      · rw [if_neg h7, if_neg (by omega)]; exact inner
    · rw [if_neg h6, if_neg (by omega)]; exact inner

/-! copies -/
theorem apd_ok {α : Type} {b : Nat} {l m : List α} (h : (l.length + m.length) * b ≤ 140737488355328) : apd b l m = some (l ++ m) := by rw [apd, if_pos h]
theorem own_loop (l : List ViewT) (hl : l.length ≤ 5010) (hs : Small l) : ∀ (n i : Nat), l.length < n + i → i ≤ l.length → f17_l1 l n (l.take i) (i : Int) = some l
  | 0, i, h, hi => by omega
  | n + 1, i, h, hi => by
    unfold f17_l1
    by_cases hlt : i < l.length
    · have hv := hs l[i] (List.getElem_mem hlt)
      rw [if_pos (by omega), rdN hlt]
      simp only [Option.bind_some]
      rw [apd_ok (by simp; omega), Option.bind_some, apd_ok (by simp; omega), Option.bind_some, apd_ok (by simp; omega), Option.bind_some, wN (by omega)]
      have : l.take i ++ [ViewT.mk l[i].Tick ([] ++ l[i].Replies) ([] ++ l[i].Sights) l[i].Up l[i].Down l[i].Word] = l.take (i + 1) := by
        rw [List.take_succ_eq_append_getElem hlt]; rfl
      rw [this]
      exact own_loop l hl hs n (i + 1) (by omega) (by omega)
    · rw [if_neg (by omega), List.take_of_length_le (by omega)]
theorem own_eq (k : Nat) (hk : 6000 ≤ k) (l : List ViewT) (hl : l.length ≤ 5010) (hs : Small l) : f17 k l = some l := by
  unfold f17
  have := own_loop l hl hs k 0 (by omega) (by omega)
  rw [List.take_zero] at this
  rw [show (0 : Int) = ((0 : Nat) : Int) from rfl, this]; rfl
theorem own1 (v : ViewT) (h : v.Replies.length ≤ 60 ∧ v.Sights.length ≤ 12) : f66 v = some v := by
  unfold f66
  rw [apd_ok (by simp; omega), Option.bind_some, apd_ok (by simp; omega), Option.bind_some]; rfl
theorem own2 (v : ViewT) (h : v.Replies.length ≤ 60 ∧ v.Sights.length ≤ 12) : f65 v = some v := by
  unfold f65 f106 f106s f107 f107s
  rw [apd_ok (by simp; omega), Option.bind_some, Option.bind_some, apd_ok (by simp; omega), Option.bind_some, Option.bind_some]; rfl

/-! equality -/
theorem drop_eq_iff {α : Type} {l m : List α} (hm : l.length = m.length) {i : Nat} (h : i < l.length) : l.drop i = m.drop i ↔ l[i] = m[i]'(hm ▸ h) ∧ l.drop (i + 1) = m.drop (i + 1) := by
  rw [List.drop_eq_getElem_cons h, List.drop_eq_getElem_cons (hm ▸ h : i < m.length), List.cons.injEq]
section eqs
variable {α : Type} [DecidableEq α]
/-- A loop that compares two lists of one length; 'y' and 'n' are its ends. -/
theorem eq_loop {β : Type} (F : List α → List α → Nat → Int → Option β) (y no : β)
    (hF : ∀ (l m : List α) (n : Nat) (i : Nat), i ≤ 100000 → l.length = m.length → F l m (n + 1) (i : Int) = if h : i < l.length then (if l[i] = m[i]? then F l m n ((i + 1 : Nat) : Int) else some no) else some y)
    (l m : List α) (hm : l.length = m.length) (hl : l.length ≤ 100000) : ∀ (n i : Nat), l.length < n + i → i ≤ l.length → F l m n (i : Int) = some (if l.drop i = m.drop i then y else no)
  | 0, i, h, hi => by omega
  | n + 1, i, h, hi => by
    rw [hF l m n i (by omega) hm]
    by_cases hlt : i < l.length
    · rw [dif_pos hlt]
      have hlm : i < m.length := hm ▸ hlt
      by_cases he : l[i] = m[i]
      · rw [if_pos (by rw [List.getElem?_eq_getElem hlm, he]), eq_loop F y no hF l m hm hl n (i + 1) (by omega) (by omega)]
        by_cases hd : l.drop (i + 1) = m.drop (i + 1)
        · rw [if_pos hd, if_pos ((drop_eq_iff hm hlt).2 ⟨he, hd⟩)]
        · rw [if_neg hd, if_neg (fun q => hd ((drop_eq_iff hm hlt).1 q).2)]
      · rw [if_neg (by rw [List.getElem?_eq_getElem hlm]; simpa using he), if_neg (fun q => he ((drop_eq_iff hm hlt).1 q).1)]
    · rw [dif_neg hlt, if_pos (by rw [List.drop_of_length_le (by omega), List.drop_of_length_le (by omega)])]
end eqs
theorem rdM {α : Type} {l m : List α} (hm : l.length = m.length) {i : Nat} (h : i < l.length) : rd m (i : Int) = some (m[i]'(hm ▸ h)) := rdN (hm ▸ h)
theorem f103_eq (k : Nat) (hk : 6000 ≤ k) (l m : List Reply) (hl : l.length ≤ 5010) : f103 k l m = some (decide (l = m)) := by
  unfold f103
  by_cases hm : l.length = m.length
  · rw [if_pos (by omega)]
    have := eq_loop f103_l1 (.inl ()) (.inr false) (fun l m n i hi hm => by
      conv => lhs; unfold f103_l1
      by_cases hlt : i < l.length
      · rw [dif_pos hlt, decide_eq_true (by omega : (i : Int) < (l.length : Int)), Option.bind_some, if_pos rfl, rdN hlt, Option.bind_some, rdM hm hlt, Option.bind_some, wN hi]
        by_cases he : l[i] = m[i]'(hm ▸ hlt)
        · rw [if_pos he, if_pos (by rw [List.getElem?_eq_getElem (hm ▸ hlt), he])]
        · rw [if_neg he, if_neg (by rw [List.getElem?_eq_getElem (hm ▸ hlt)]; simpa using he)]
      · rw [dif_neg hlt, decide_eq_false (by omega : ¬ (i : Int) < (l.length : Int)), Option.bind_some, if_neg (by simp)]) l m hm (by omega) k 0 (by omega) (by omega)
    rw [show (0 : Int) = ((0 : Nat) : Int) from rfl, this, List.drop_zero, List.drop_zero]
    by_cases he : l = m <;> simp [he]
  · rw [if_neg (by omega)]
    have : l ≠ m := fun q => hm (by rw [q])
    simp [this]
theorem f85_eq (k : Nat) (hk : 6000 ≤ k) (l m : List Sight) (hl : l.length ≤ 5010) : f85 k l m = some (decide (l = m)) := by
  unfold f85
  by_cases hm : l.length = m.length
  · rw [if_pos (by omega)]
    have := eq_loop f85_l1 (.inl ()) (.inr false) (fun l m n i hi hm => by
      conv => lhs; unfold f85_l1
      by_cases hlt : i < l.length
      · rw [dif_pos hlt, decide_eq_true (by omega : (i : Int) < (l.length : Int)), Option.bind_some, if_pos rfl, rdN hlt, Option.bind_some, rdM hm hlt, Option.bind_some, wN hi]
        by_cases he : l[i] = m[i]'(hm ▸ hlt)
        · rw [if_pos he, if_pos (by rw [List.getElem?_eq_getElem (hm ▸ hlt), he])]
        · rw [if_neg he, if_neg (by rw [List.getElem?_eq_getElem (hm ▸ hlt)]; simpa using he)]
      · rw [dif_neg hlt, decide_eq_false (by omega : ¬ (i : Int) < (l.length : Int)), Option.bind_some, if_neg (by simp)]) l m hm (by omega) k 0 (by omega) (by omega)
    rw [show (0 : Int) = ((0 : Nat) : Int) from rfl, this, List.drop_zero, List.drop_zero]
    by_cases he : l = m <;> simp [he]
  · rw [if_neg (by omega)]
    have : l ≠ m := fun q => hm (by rw [q])
    simp [this]
theorem step2 {α β : Type} [DecidableEq α] {l m : List α} {i : Nat} (hi : i ≤ 100000) (hm : l.length = m.length) {F : Option β} {no y : β} {G : Int → Option β} (hG : G ((i + 1 : Nat) : Int) = F) :
    (if (i : Int) < (l.length : Int) then (rd l (i : Int)).bind fun a => (rd m (i : Int)).bind fun b => if a = b then G (IntKind.i64.wrap ((i : Int) + 1)) else some no else some y) =
      if h : i < l.length then (if l[i] = m[i]? then F else some no) else some y := by
  by_cases hlt : i < l.length
  · rw [dif_pos hlt, if_pos (by omega), rdN hlt, Option.bind_some, rdM hm hlt, Option.bind_some, wN hi, hG]
    by_cases he : l[i] = m[i]'(hm ▸ hlt)
    · rw [if_pos he, if_pos (by rw [List.getElem?_eq_getElem (hm ▸ hlt), he])]
    · rw [if_neg he, if_neg (by rw [List.getElem?_eq_getElem (hm ▸ hlt)]; simpa using he)]
  · rw [dif_neg hlt, if_neg (by omega)]
theorem f105l1_eq (n : Nat) (l m : List Reply) (hm : l.length = m.length) (hl : l.length < n) (h : l.length ≤ 5010) : f105_l1 l m n 0 = some (if l = m then .inr () else .inl false) := by
  have := eq_loop f105_l1 (.inr ()) (.inl false) (fun l m n i hi hm => by (conv => lhs; unfold f105_l1); exact step2 hi hm (G := f105_l1 l m n) rfl) l m hm (by omega) n 0 (by omega) (by omega)
  rw [List.drop_zero, List.drop_zero] at this; exact this
theorem f105l2_eq (n : Nat) (l m : List Sight) (hm : l.length = m.length) (hl : l.length < n) (h : l.length ≤ 5010) : f105_l2 l m n 0 = some (if l = m then .inr () else .inl false) := by
  have := eq_loop f105_l2 (.inr ()) (.inl false) (fun l m n i hi hm => by (conv => lhs; unfold f105_l2); exact step2 hi hm (G := f105_l2 l m n) rfl) l m hm (by omega) n 0 (by omega) (by omega)
  rw [List.drop_zero, List.drop_zero] at this; exact this
theorem f84_eq (k : Nat) (hk : 6000 ≤ k) (l m : List Sight) (hl : l.length ≤ 5010) : f84 k l m = some (decide (l = m)) := by
  unfold f84
  by_cases hm : l.length = m.length
  · rw [if_pos (by omega)]
    have := eq_loop f84_l1 (.inr ()) (.inl false) (fun l m n i hi hm => by (conv => lhs; unfold f84_l1); exact step2 hi hm (G := f84_l1 l m n) rfl) l m hm (by omega) k 0 (by omega) (by omega)
    rw [show (0 : Int) = ((0 : Nat) : Int) from rfl, this, List.drop_zero, List.drop_zero]
    by_cases he : l = m <;> simp [he]
  · rw [if_neg (by omega)]
    have : l ≠ m := fun q => hm (by rw [q])
    simp [this]
theorem f43l1_eq (n : Nat) (l m : List Reply) (hm : l.length = m.length) (hl : l.length < n) (h : l.length ≤ 5010) : f43_l1 l m n 0 = some (if l = m then .inr () else .inl false) := by
  have := eq_loop f43_l1 (.inr ()) (.inl false) (fun l m n i hi hm => by (conv => lhs; unfold f43_l1); exact step2 hi hm (G := f43_l1 l m n) rfl) l m hm (by omega) n 0 (by omega) (by omega)
  rw [List.drop_zero, List.drop_zero] at this; exact this
theorem view_ext {v w : ViewT} (h1 : v.Tick = w.Tick) (h2 : v.Replies = w.Replies) (h3 : v.Sights = w.Sights) (h4 : v.Up = w.Up) (h5 : v.Down = w.Down) (h6 : v.Word = w.Word) : v = w := by
  cases v; cases w; simp_all
theorem f63_eq (k : Nat) (hk : 6000 ≤ k) (v w : ViewT) (h : v.Replies.length ≤ 60 ∧ v.Sights.length ≤ 12) : f63 k v w = some (decide (v = w)) := by
  unfold f63
  by_cases h1 : v.Tick = w.Tick
  case neg => rw [if_neg h1, decide_eq_false (fun q => h1 (by rw [q]))]
  by_cases h2 : v.Up = w.Up
  case neg => rw [if_pos h1, if_neg h2, decide_eq_false (fun q => h2 (by rw [q]))]
  by_cases h3 : v.Down = w.Down
  case neg => rw [if_pos h1, if_pos h2, if_neg h3, decide_eq_false (fun q => h3 (by rw [q]))]
  by_cases h4 : v.Word = w.Word
  case neg => rw [if_pos h1, if_pos h2, if_pos h3, if_neg h4, decide_eq_false (fun q => h4 (by rw [q]))]
  rw [if_pos h1, if_pos h2, if_pos h3, if_pos h4, f103_eq k hk _ _ (by omega), Option.bind_some]
  by_cases h5 : v.Replies = w.Replies
  case neg => rw [decide_eq_false h5, if_neg (by simp), decide_eq_false (fun q => h5 (by rw [q]))]
  rw [decide_eq_true h5, if_pos rfl, f85_eq k hk _ _ (by omega), Option.bind_some]
  by_cases h6 : v.Sights = w.Sights
  case neg => rw [decide_eq_false h6, decide_eq_false (fun q => h6 (by rw [q]))]
  rw [decide_eq_true h6, decide_eq_true (view_ext h1 h5 h6 h2 h3 h4)]
theorem f105_eq (k : Nat) (hk : 6000 ≤ k) (v w : ViewT) (h : v.Replies.length ≤ 60 ∧ v.Sights.length ≤ 12) : f105 k v w = some (decide (v = w)) := by
  unfold f105
  by_cases h1 : v.Tick = w.Tick
  case neg => rw [if_neg h1, decide_eq_false (fun q => h1 (by rw [q]))]
  by_cases h2 : v.Up = w.Up
  case neg => rw [if_pos h1, if_neg h2, decide_eq_false (fun q => h2 (by rw [q]))]
  by_cases h3 : v.Down = w.Down
  case neg => rw [if_pos h1, if_pos h2, if_neg h3, decide_eq_false (fun q => h3 (by rw [q]))]
  by_cases h4 : v.Word = w.Word
  case neg => rw [if_pos h1, if_pos h2, if_pos h3, if_neg h4, decide_eq_false (fun q => h4 (by rw [q]))]
  by_cases h7 : v.Replies.length = w.Replies.length
  case neg => rw [if_pos h1, if_pos h2, if_pos h3, if_pos h4, if_neg (by omega), decide_eq_false (fun q => h7 (by rw [q]))]
  by_cases h8 : v.Sights.length = w.Sights.length
  case neg => rw [if_pos h1, if_pos h2, if_pos h3, if_pos h4, if_pos (by omega), if_neg (by omega), decide_eq_false (fun q => h8 (by rw [q]))]
  rw [if_pos h1, if_pos h2, if_pos h3, if_pos h4, if_pos (by omega), if_pos (by omega), f105l1_eq k _ _ h7 (by omega) (by omega), Option.bind_some]
  by_cases h5 : v.Replies = w.Replies
  case neg => rw [if_neg h5, decide_eq_false (fun q => h5 (by rw [q]))]
  rw [if_pos h5]
  simp only
  rw [f105l2_eq k _ _ h8 (by omega) (by omega), Option.bind_some]
  by_cases h6 : v.Sights = w.Sights
  case neg => rw [if_neg h6, decide_eq_false (fun q => h6 (by rw [q]))]
  rw [if_pos h6, decide_eq_true (view_ext h1 h5 h6 h2 h3 h4)]
theorem f43_refl (k : Nat) (hk : 6000 ≤ k) (v : ViewT) (h : v.Replies.length ≤ 60 ∧ v.Sights.length ≤ 12) : f43 k v v = some true := by
  unfold f43
  rw [if_pos rfl, if_pos rfl, if_pos rfl, if_pos rfl, if_pos rfl, f43l1_eq k _ _ rfl (by omega) (by omega), Option.bind_some, if_pos rfl]
  simp only
  rw [f84_eq k hk _ _ (by omega), Option.bind_some, decide_eq_true rfl]
theorem same_loop (k : Nat) (hk : 6000 ≤ k) (l : List ViewT) (hl : l.length ≤ 5010) (hs : Small l) : ∀ (n i : Nat), l.length < n + i → i ≤ l.length → f14_l1 k l l n (i : Int) = some (.inr ())
  | 0, i, h, hi => by omega
  | n + 1, i, h, hi => by
    unfold f14_l1
    by_cases hlt : i < l.length
    · rw [if_pos (by omega), rdN hlt, Option.bind_some, Option.bind_some, f43_refl k hk _ (hs _ (List.getElem_mem hlt)), Option.bind_some, if_pos rfl, wN (by omega)]
      exact same_loop k hk l hl hs n (i + 1) (by omega) (by omega)
    · rw [if_neg (by omega)]
theorem f14_refl (k : Nat) (hk : 6000 ≤ k) (l : List ViewT) (hl : l.length ≤ 5010) (hs : Small l) : f14 k l l = some true := by
  unfold f14
  rw [if_pos rfl, show (0 : Int) = ((0 : Nat) : Int) from rfl, same_loop k hk l hl hs k 0 (by omega) (by omega)]; rfl
end Go.Proofs.YtppedainpmjbmaaGreatDoor

set_option linter.unusedVariables false
set_option linter.unusedSimpArgs false
namespace Go.Proofs.YtppedainpmjbmaaGreatDoor
open Go Go.Det Go.RowKit
/-! Check of both sides -/
def rOk (r : Reply) : Bool := decide (0 ≤ r.Port ∧ r.Port ≤ 23 ∧ 1 ≤ r.Code ∧ r.Code ≤ 6)
def sOk (s : Sight) : Bool := decide (-1 ≤ s.Floor ∧ s.Floor ≤ 63 ∧ 0 ≤ s.Panel ∧ s.Panel ≤ 20)
theorem f50_eq (a lo hi : Int) : f50 a lo hi = some (decide (lo ≤ a ∧ a ≤ hi)) := by
  unfold f50
  by_cases h : a ≥ lo
  · rw [if_pos h, Option.bind_some]; simp [show lo ≤ a from h]
  · rw [if_neg h]; simp [show ¬ lo ≤ a from h]
theorem f52_eq (r : Reply) : f52 r = some (rOk r) := by
  unfold f52 rOk
  rw [f50_eq, Option.bind_some, f50_eq]
  by_cases h : 0 ≤ r.Port ∧ r.Port ≤ 23
  · rw [decide_eq_true h, if_pos rfl, Option.bind_some]
    congr 1
    rw [decide_eq_decide]
    omega
  · rw [decide_eq_false h, if_neg (by simp)]
    congr 1
    symm
    rw [decide_eq_false_iff_not]
    omega
theorem f54_eq (s : Sight) : f54 s = some (sOk s) := by
  unfold f54 sOk
  rw [f50_eq, Option.bind_some, f50_eq]
  by_cases h : -1 ≤ s.Floor ∧ s.Floor ≤ 63
  · rw [decide_eq_true h, if_pos rfl, Option.bind_some]
    congr 1
    rw [decide_eq_decide]
    omega
  · rw [decide_eq_false h, if_neg (by simp)]
    congr 1
    symm
    rw [decide_eq_false_iff_not]
    omega
theorem l4_eq : f19_l4 = f19_l2 := by
  funext L n
  induction n with
  | zero => rfl
  | succ n ih => funext i; unfold f19_l4 f19_l2; rw [ih]
theorem l6_eq : f19_l6 = f19_l2 := by
  funext L n
  induction n with
  | zero => rfl
  | succ n ih => funext i; unfold f19_l6 f19_l2; rw [ih]
theorem l8_eq : f19_l8 = f19_l2 := by
  funext L n
  induction n with
  | zero => rfl
  | succ n ih => funext i; unfold f19_l8 f19_l2; rw [ih]
theorem l5_eq : f19_l5 = f19_l3 := by
  funext L n
  induction n with
  | zero => rfl
  | succ n ih => funext i; unfold f19_l5 f19_l3; rw [ih]
theorem l7_eq : f19_l7 = f19_l3 := by
  funext L n
  induction n with
  | zero => rfl
  | succ n ih => funext i; unfold f19_l7 f19_l3; rw [ih]
theorem l9_eq : f19_l9 = f19_l3 := by
  funext L n
  induction n with
  | zero => rfl
  | succ n ih => funext i; unfold f19_l9 f19_l3; rw [ih]
theorem all_loop {α : Type} (F : List α → Nat → Int → Option (Unit ⊕ Int)) (p : α → Bool)
    (hF : ∀ (l : List α) (n i : Nat), i ≤ 100000 → F l (n + 1) (i : Int) = if h : i < l.length then (if p l[i] = true then F l n ((i + 1 : Nat) : Int) else some (.inr (i : Int))) else some (.inl ()))
    (l : List α) (hl : l.length ≤ 100000) : ∀ (n i : Nat), l.length < n + i → i ≤ l.length → ∃ r, F l n (i : Int) = some r ∧ (((l.drop i).all p = true ∧ r = .inl ()) ∨ ((l.drop i).all p = false ∧ ∃ j : Nat, r = .inr (j : Int)))
  | 0, i, h, hi => by omega
  | n + 1, i, h, hi => by
    rw [hF l n i (by omega)]
    by_cases hlt : i < l.length
    · rw [dif_pos hlt, List.drop_eq_getElem_cons hlt, List.all_cons]
      by_cases hp : p l[i] = true
      · rw [if_pos hp, hp, Bool.true_and]
        exact all_loop F p hF l hl n (i + 1) (by omega) (by omega)
      · rw [if_neg hp]
        exact ⟨_, rfl, .inr ⟨by simp [hp], i, rfl⟩⟩
    · rw [dif_neg hlt, List.drop_of_length_le (by omega)]
      exact ⟨_, rfl, .inl ⟨rfl, rfl⟩⟩
theorem l2_all (k : Nat) (hk : 6000 ≤ k) (l : List Reply) (hl : l.length ≤ 5010) : ∃ r, f19_l2 l k 0 = some r ∧ ((l.all rOk = true ∧ r = .inl ()) ∨ (l.all rOk = false ∧ ∃ j : Nat, r = .inr (j : Int))) := by
  have := all_loop f19_l2 rOk (fun l n i hi => by
    (conv => lhs; unfold f19_l2)
    by_cases hlt : i < l.length
    · rw [dif_pos hlt, decide_eq_true (by omega : (i : Int) < (l.length : Int)), Option.bind_some, if_pos rfl, rdN hlt, Option.bind_some, f52_eq, Option.bind_some, wN hi]
    · rw [dif_neg hlt, decide_eq_false (by omega : ¬ (i : Int) < (l.length : Int)), Option.bind_some, if_neg (by simp)]) l (by omega) k 0 (by omega) (by omega)
  rw [List.drop_zero] at this; exact this
theorem l3_all (k : Nat) (hk : 6000 ≤ k) (l : List Sight) (hl : l.length ≤ 5010) : ∃ r, f19_l3 l k 0 = some r ∧ ((l.all sOk = true ∧ r = .inl ()) ∨ (l.all sOk = false ∧ ∃ j : Nat, r = .inr (j : Int))) := by
  have := all_loop f19_l3 sOk (fun l n i hi => by
    (conv => lhs; unfold f19_l3)
    by_cases hlt : i < l.length
    · rw [dif_pos hlt, decide_eq_true (by omega : (i : Int) < (l.length : Int)), Option.bind_some, if_pos rfl, rdN hlt, Option.bind_some, f54_eq, Option.bind_some, wN hi]
    · rw [dif_neg hlt, decide_eq_false (by omega : ¬ (i : Int) < (l.length : Int)), Option.bind_some, if_neg (by simp)]) l (by omega) k 0 (by omega) (by omega)
  rw [List.drop_zero] at this; exact this
def tail19 (k : Nat) (x0 : List ViewT) (t14 : ViewT) (x11_h9 : Int) : Option ((Int × Int) ⊕ (Unit)) :=
  (f50 (t14.Sights.length : Int) 1 8).bind fun t46u1 =>
  if t46u1 then
    (rd x0 0).bind fun t53u1 =>
    if (t14.Sights.length : Int) = (t53u1.Sights.length : Int) then
      if (t14.Replies.length : Int) > 50 then
        some (Sum.inl ((4, x11_h9) : Int × Int))
      else
        ((f19_l2 t14.Replies k 0).bind fun s => match s with
          | .inl _ => 
            some (((-1) : Int))
          | .inr st => some (st)).bind fun x7_15 =>
          (some (decide (x7_15 ≥ 0))).bind fun t8u15 =>
          if t8u15 then
            some (Sum.inl ((2, x11_h9) : Int × Int))
          else
            ((f19_l3 t14.Sights k 0).bind fun s => match s with
              | .inl _ => 
                some (((-1) : Int))
              | .inr st => some (st)).bind fun x7_17 =>
              (some (decide (x7_17 ≥ 0))).bind fun t8u20 =>
              if t8u20 then
                some (Sum.inl ((2, x11_h9) : Int × Int))
              else
                (f50 t14.Word (-1) 255).bind fun t80u1 =>
                if t80u1 then
                  some (Sum.inr ())
                else
                  some (Sum.inl ((2, x11_h9) : Int × Int))
    else
      some (Sum.inl ((3, x11_h9) : Int × Int))
  else
    some (Sum.inl ((3, x11_h9) : Int × Int))
def tail20 (k : Nat) (x0 : List ViewT) (t17 : ViewT) (x4 : Int) : Option ((Int × Int) ⊕ (Unit)) :=
  if (t17.Sights.length : Int) < 1 then
    some (Sum.inl ((3, x4) : Int × Int))
  else
    if (t17.Sights.length : Int) > 8 then
      some (Sum.inl ((3, x4) : Int × Int))
    else
      (rd x0 0).bind fun t65 =>
      if (t17.Sights.length : Int) = (t65.Sights.length : Int) then
        if (t17.Replies.length : Int) > 50 then
          some (Sum.inl ((4, x4) : Int × Int))
        else
          (f55 k t17.Replies).bind fun t81 =>
          if t81 = 0 then
            (f56 k t17.Sights).bind fun t86 =>
            if t86 = 0 then
              if t17.Word < (-1) then
                some (Sum.inl ((2, x4) : Int × Int))
              else
                if t17.Word > 255 then
                  some (Sum.inl ((2, x4) : Int × Int))
                else
                  some (Sum.inr ())
            else
              some (Sum.inl ((2, x4) : Int × Int))
          else
            some (Sum.inl ((2, x4) : Int × Int))
      else
        some (Sum.inl ((3, x4) : Int × Int))
theorem f55_all (k : Nat) (hk : 6000 ≤ k) (l : List Reply) (hl : l.length ≤ 5010) : f55 k l = some (if l.all rOk = true then 0 else 2) := by
  have key : ∀ (n i : Nat), l.length < n + i → i ≤ l.length → f55_l1 l n (i : Int) = some (if (l.drop i).all rOk = true then .inr () else .inl 2) := by
    intro n
    induction n with
    | zero => intro i h hi; omega
    | succ n ih =>
      intro i h hi
      unfold f55_l1
      by_cases hlt : i < l.length
      · rw [if_pos (by omega), rdN hlt]
        simp only [Option.bind_some]
        rw [List.drop_eq_getElem_cons hlt, List.all_cons]
        by_cases hp : rOk l[i] = true
        · have hp' := hp
          unfold rOk at hp'
          rw [decide_eq_true_eq] at hp'
          rw [if_neg (by omega), if_neg (by omega), if_neg (by omega), if_neg (by omega), wN (by omega), ih (i + 1) (by omega) (by omega), hp, Bool.true_and]
        · have hp' := hp
          unfold rOk at hp'
          rw [decide_eq_true_eq] at hp'
          rw [Bool.not_eq_true] at hp
          rw [hp, Bool.false_and, if_neg (by simp : ¬ (false = true))]
          by_cases q1 : l[i].Port < 0
          · rw [if_pos q1]
          · rw [if_neg q1]
            by_cases q2 : l[i].Port ≥ 24
            · rw [if_pos q2]
            · rw [if_neg q2]
              by_cases q3 : l[i].Code < 1
              · rw [if_pos q3]
              · rw [if_neg q3, if_pos (by omega)]
      · rw [if_neg (by omega), List.drop_of_length_le (by omega)]; rfl
  unfold f55
  rw [show (0 : Int) = ((0 : Nat) : Int) from rfl, key k 0 (by omega) (by omega), List.drop_zero]
  cases l.all rOk <;> rfl
theorem f56_all (k : Nat) (hk : 6000 ≤ k) (l : List Sight) (hl : l.length ≤ 5010) : f56 k l = some (if l.all sOk = true then 0 else 2) := by
  have key : ∀ (n i : Nat), l.length < n + i → i ≤ l.length → f56_l1 l n (i : Int) = some (if (l.drop i).all sOk = true then .inr () else .inl 2) := by
    intro n
    induction n with
    | zero => intro i h hi; omega
    | succ n ih =>
      intro i h hi
      unfold f56_l1
      by_cases hlt : i < l.length
      · rw [if_pos (by omega), rdN hlt]
        simp only [Option.bind_some]
        rw [List.drop_eq_getElem_cons hlt, List.all_cons]
        by_cases hp : sOk l[i] = true
        · have hp' := hp
          unfold sOk at hp'
          rw [decide_eq_true_eq] at hp'
          rw [if_neg (by omega), if_neg (by omega), if_neg (by omega), if_neg (by omega), wN (by omega), ih (i + 1) (by omega) (by omega), hp, Bool.true_and]
        · have hp' := hp
          unfold sOk at hp'
          rw [decide_eq_true_eq] at hp'
          rw [Bool.not_eq_true] at hp
          rw [hp, Bool.false_and, if_neg (by simp : ¬ (false = true))]
          by_cases q1 : l[i].Floor < (-1)
          · rw [if_pos q1]
          · rw [if_neg q1]
            by_cases q2 : l[i].Floor ≥ 64
            · rw [if_pos q2]
            · rw [if_neg q2]
              by_cases q3 : l[i].Panel < 0
              · rw [if_pos q3]
              · rw [if_neg q3, if_pos (by omega)]
      · rw [if_neg (by omega), List.drop_of_length_le (by omega)]; rfl
  unfold f56
  rw [show (0 : Int) = ((0 : Nat) : Int) from rfl, key k 0 (by omega) (by omega), List.drop_zero]
  cases l.all sOk <;> rfl
/-- What stands behind the ticks is looked at alike. -/
theorem tails (k : Nat) (hk : 6000 ≤ k) (l : List ViewT) (h0 : 0 < l.length) (v : ViewT) (hv : v.Replies.length ≤ 60 ∧ v.Sights.length ≤ 12) (i : Int) :
    ∃ r, tail19 k l v i = some r ∧ tail20 k l v i = some r ∧ (r = .inr () ∨ ∃ e : Int, e ≠ 0 ∧ r = .inl (e, i)) := by
  have hr0 : rd l 0 = some l[0] := rdN (i := 0) h0
  unfold tail19 tail20
  rw [f50_eq, Option.bind_some, hr0]
  simp only [Option.bind_some]
  by_cases c3 : 1 ≤ (v.Sights.length : Int) ∧ (v.Sights.length : Int) ≤ 8
  case neg =>
    rw [decide_eq_false c3, if_neg (by simp)]
    refine ⟨_, rfl, ?_, .inr ⟨3, by decide, rfl⟩⟩
    by_cases q : (v.Sights.length : Int) < 1
    · rw [if_pos q]
    · rw [if_neg q, if_pos (by omega)]
  rw [decide_eq_true c3, if_pos rfl, if_neg (by omega : ¬ (v.Sights.length : Int) < 1), if_neg (by omega : ¬ (v.Sights.length : Int) > 8)]
  by_cases c4 : (v.Sights.length : Int) = (l[0].Sights.length : Int)
  case neg => rw [if_neg c4, if_neg c4]; exact ⟨_, rfl, rfl, .inr ⟨3, by decide, rfl⟩⟩
  rw [if_pos c4, if_pos c4]
  by_cases c5 : (v.Replies.length : Int) > 50
  case pos => rw [if_pos c5, if_pos c5]; exact ⟨_, rfl, rfl, .inr ⟨4, by decide, rfl⟩⟩
  rw [if_neg c5, if_neg c5]
  obtain ⟨r2, e2, k2⟩ := l2_all k hk v.Replies (by omega)
  obtain ⟨r3, e3, k3⟩ := l3_all k hk v.Sights (by omega)
  rw [e2, f55_all k hk _ (by omega)]
  rcases k2 with ⟨a2, rfl⟩ | ⟨a2, j, rfl⟩
  case inr =>
    simp only [Option.bind_some, a2]
    rw [decide_eq_true (by omega : (j : Int) ≥ 0)]
    exact ⟨_, rfl, rfl, .inr ⟨2, by decide, rfl⟩⟩
  simp only [Option.bind_some, a2]
  rw [decide_eq_false (by decide : ¬ ((-1 : Int) ≥ 0)), e3, f56_all k hk _ (by omega)]
  rcases k3 with ⟨a3, rfl⟩ | ⟨a3, j, rfl⟩
  case inr =>
    simp only [Option.bind_some, a3]
    rw [decide_eq_true (by omega : (j : Int) ≥ 0)]
    exact ⟨_, rfl, rfl, .inr ⟨2, by decide, rfl⟩⟩
  simp only [Option.bind_some, a3]
  rw [f50_eq]
  by_cases c7 : -1 ≤ v.Word ∧ v.Word ≤ 255
  · refine ⟨.inr (), ?_, ?_, .inl rfl⟩
    · rw [decide_eq_true c7]; rfl
    · simp only [if_true, if_neg (by omega : ¬ v.Word < -1), if_neg (by omega : ¬ v.Word > 255)]
  · refine ⟨.inl (2, i), ?_, ?_, .inr ⟨2, by decide, rfl⟩⟩
    · rw [decide_eq_false c7]; rfl
    · by_cases q : v.Word < -1
      · simp only [if_true, if_pos q]
      · simp only [if_true, if_neg q, if_pos (by omega : v.Word > 255)]
/-- The tick of a view. -/
def TickOk (l : List ViewT) (j : Nat) : Prop := ∃ h : j < l.length, (j = 0 → 0 ≤ l[j].Tick ∧ l[j].Tick ≤ 1099511622776) ∧ (0 < j → l[j].Tick = IntKind.i64.wrap (l[j - 1].Tick + 1))
theorem check_step (k : Nat) (hk : 6000 ≤ k) (l : List ViewT) (hl : l.length ≤ 5010) (hs : Small l) (n i : Nat) (hlt : i < l.length) :
    ∃ c : Option Int, f19_l1 k l (n + 1) (i : Int) = (match c with | none => f19_l1 k l n ((i + 1 : Nat) : Int) | some e => some (.inr (e, (i : Int)))) ∧
      f20_l1 k l (n + 1) (i : Int) = (match c with | none => f20_l1 k l n ((i + 1 : Nat) : Int) | some e => some (.inl (e, (i : Int)))) ∧ (∀ e, c = some e → e ≠ 0) ∧ (c = none → TickOk l i) := by
  obtain ⟨r, t1, t2, hr⟩ := tails k hk l (by omega) l[i] (hs _ (List.getElem_mem hlt)) (i : Int)
  have fin : ∀ (hT : TickOk l i), ((tail19 k l l[i] (i : Int)).bind fun s => match s with | .inl st => some (Sum.inr st) | .inr _ => f19_l1 k l n (IntKind.i64.wrap ((i : Int) + 1))) = f19_l1 k l (n + 1) (i : Int) →
      ((tail20 k l l[i] (i : Int)).bind fun s => match s with | .inl st => some (Sum.inl st) | .inr _ => f20_l1 k l n (IntKind.i64.wrap ((i : Int) + 1))) = f20_l1 k l (n + 1) (i : Int) →
      ∃ c : Option Int, f19_l1 k l (n + 1) (i : Int) = (match c with | none => f19_l1 k l n ((i + 1 : Nat) : Int) | some e => some (.inr (e, (i : Int)))) ∧
      f20_l1 k l (n + 1) (i : Int) = (match c with | none => f20_l1 k l n ((i + 1 : Nat) : Int) | some e => some (.inl (e, (i : Int)))) ∧ (∀ e, c = some e → e ≠ 0) ∧ (c = none → TickOk l i) := by
    intro hT h19 h20
    rw [t1, wN (by omega)] at h19
    rw [t2, wN (by omega)] at h20
    rcases hr with rfl | ⟨e, he, rfl⟩
    · exact ⟨none, h19.symm, h20.symm, (fun e q => by cases q), fun _ => hT⟩
    · exact ⟨some e, h19.symm, h20.symm, (fun e' q => by cases q; exact he), (fun q => by cases q)⟩
  have s19 : ∀ X, f19_l1 k l (n + 1) (i : Int) = X → f19_l1 k l (n + 1) (i : Int) = X := fun _ h => h
  by_cases hi : i = 0
  · subst hi
    by_cases c1 : (0 : Int) ≤ l[0].Tick ∧ l[0].Tick ≤ 1099511622776
    · refine fin ⟨hlt, fun _ => c1, fun q => by omega⟩ ?_ ?_
      · (conv => rhs; unfold f19_l1)
        rw [decide_eq_true (by omega : ((0 : Nat) : Int) < (l.length : Int)), Option.bind_some, if_pos rfl, rdN hlt, Option.bind_some, if_pos (show ((0 : Nat) : Int) = 0 from rfl), f50_eq, Option.bind_some, show decide ((0 : Int) ≤ l[0].Tick ∧ l[0].Tick ≤ 1099511622776) = true from decide_eq_true c1, if_pos rfl, if_neg (by decide : ¬ ((0 : Nat) : Int) > 0)]
        simp only [l4_eq, l5_eq]
        rfl
      · (conv => rhs; unfold f20_l1)
        rw [if_pos (by omega), rdN hlt, Option.bind_some, if_pos (show ((0 : Nat) : Int) = 0 from rfl), if_neg (by omega), if_neg (by omega), if_neg (by decide : ¬ ((0 : Nat) : Int) > 0)]
        rfl
    · refine ⟨some 2, ?_, ?_, (fun e q => by cases q; decide), (fun q => by cases q)⟩
      · unfold f19_l1
        rw [decide_eq_true (by omega : ((0 : Nat) : Int) < (l.length : Int)), Option.bind_some, if_pos rfl, rdN hlt, Option.bind_some, if_pos (show ((0 : Nat) : Int) = 0 from rfl), f50_eq, Option.bind_some, show decide ((0 : Int) ≤ l[0].Tick ∧ l[0].Tick ≤ 1099511622776) = false from decide_eq_false c1, if_neg (by simp)]
      · unfold f20_l1
        rw [if_pos (by omega), rdN hlt, Option.bind_some, if_pos (show ((0 : Nat) : Int) = 0 from rfl)]
        by_cases q : l[0].Tick < 0
        · rw [if_pos q]; rfl
        · rw [if_neg q, if_pos (by omega)]; rfl
  · have hm : IntKind.i64.wrap ((i : Int) - 1) = ((i - 1 : Nat) : Int) := by rw [w64 (by omega) (by omega)]; omega
    have hlt' : i - 1 < l.length := by omega
    by_cases c2 : l[i].Tick = IntKind.i64.wrap (l[i - 1].Tick + 1)
    · refine fin ⟨hlt, fun q => absurd q hi, fun _ => c2⟩ ?_ ?_
      · (conv => rhs; unfold f19_l1)
        rw [decide_eq_true (by omega : (i : Int) < (l.length : Int)), Option.bind_some, if_pos rfl, rdN hlt, Option.bind_some, if_neg (by omega), if_pos (by omega), hm, rdN hlt', Option.bind_some, if_pos c2]
        simp only [l6_eq, l7_eq]
        rfl
      · (conv => rhs; unfold f20_l1)
        rw [if_pos (by omega), rdN hlt, Option.bind_some, if_neg (by omega), if_pos (by omega), hm, rdN hlt', Option.bind_some, if_pos c2]
        rfl
    · refine ⟨some 8, ?_, ?_, (fun e q => by cases q; decide), (fun q => by cases q)⟩
      · unfold f19_l1
        rw [decide_eq_true (by omega : (i : Int) < (l.length : Int)), Option.bind_some, if_pos rfl, rdN hlt, Option.bind_some, if_neg (by omega), if_pos (by omega), hm, rdN hlt', Option.bind_some, if_neg c2]
        rfl
      · unfold f20_l1
        rw [if_pos (by omega), rdN hlt, Option.bind_some, if_neg (by omega), if_pos (by omega), hm, rdN hlt', Option.bind_some, if_neg c2]
        rfl
theorem check_loop (k : Nat) (hk : 6000 ≤ k) (l : List ViewT) (hl : l.length ≤ 5010) (hs : Small l) : ∀ (n i : Nat), l.length < n + i → i ≤ l.length →
    ∃ c : Option (Int × Int), f19_l1 k l n (i : Int) = some (match c with | none => .inl () | some p => .inr p) ∧ f20_l1 k l n (i : Int) = some (match c with | none => .inr () | some p => .inl p) ∧
      (∀ p, c = some p → p.1 ≠ 0) ∧ (c = none → ∀ j, i ≤ j → j < l.length → TickOk l j)
  | 0, i, h, hi => by omega
  | n + 1, i, h, hi => by
    by_cases hlt : i < l.length
    · obtain ⟨c, e1, e2, k1, k2⟩ := check_step k hk l hl hs n i hlt
      rw [e1, e2]
      cases c with
      | some e => exact ⟨some (e, (i : Int)), rfl, rfl, (fun p q => by cases q; exact k1 e rfl), (fun q => by cases q)⟩
      | none =>
        obtain ⟨c, e3, e4, k3, k4⟩ := check_loop k hk l hl hs n (i + 1) (by omega) (by omega)
        refine ⟨c, e3, e4, k3, fun q j hj hjl => ?_⟩
        rcases Nat.eq_or_lt_of_le hj with rfl | hj
        · exact k2 rfl
        · exact k4 q j hj hjl
    · refine ⟨none, ?_, ?_, (fun p q => by cases q), (fun _ j hj hjl => by omega)⟩
      · unfold f19_l1; rw [decide_eq_false (by omega : ¬ (i : Int) < (l.length : Int)), Option.bind_some, if_neg (by simp)]
      · unfold f20_l1; rw [if_neg (by omega)]
/-- Both sides check alike; what is valid has ticks one after the other. -/
theorem check_eq (k : Nat) (hk : 6000 ≤ k) (l : List ViewT) (hl : l.length ≤ 5010) (hs : Small l) :
    ∃ e n : Int, f19 k l = some (e, n) ∧ f20 k l = some (e, n) ∧ (e = 0 → ∀ j, j < l.length → TickOk l j) := by
  unfold f19 f20
  by_cases h : (l.length : Int) > 5000
  · rw [if_pos h, if_pos h]; exact ⟨4, 0, rfl, rfl, fun q => by cases q⟩
  · rw [if_neg h, if_neg h]
    obtain ⟨c, e1, e2, k1, k2⟩ := check_loop k hk l hl hs k 0 (by omega) (by omega)
    rw [show (0 : Int) = ((0 : Nat) : Int) from rfl, e1, e2]
    cases c with
    | none => exact ⟨0, 0, rfl, rfl, fun _ j hj => k2 rfl j (by omega) hj⟩
    | some p => exact ⟨p.1, p.2, rfl, rfl, fun q => absurd q (k1 p rfl)⟩
end Go.Proofs.YtppedainpmjbmaaGreatDoor

set_option linter.unusedVariables false
set_option linter.unusedSimpArgs false
namespace Go.Proofs.YtppedainpmjbmaaGreatDoor
open Go Go.Det Go.RowKit
/-! First and Part of both sides; the law -/
/-- Ticks one after the other. -/
def SeqT (l : List ViewT) (a : Int) : Prop := ∀ (j : Nat) (h : j < l.length), l[j].Tick = a + j
theorem seq_of (l : List ViewT) (hl : l.length ≤ 5010) (h : ∀ j, j < l.length → TickOk l j) : ∃ a : Int, 0 ≤ a ∧ a ≤ 1099511622776 ∧ SeqT l a := by
  cases l with
  | nil => exact ⟨0, by omega, by omega, fun j hj => by simp at hj⟩
  | cons v r =>
    obtain ⟨_, h0, _⟩ := h 0 (by simp)
    have h0 := h0 rfl
    refine ⟨v.Tick, h0.1, h0.2, fun j => ?_⟩
    induction j with
    | zero => intro _; show v.Tick = v.Tick + ((0 : Nat) : Int); omega
    | succ j ih =>
      intro hj
      obtain ⟨_, _, h1⟩ := h (j + 1) hj
      have h1 := h1 (by omega)
      simp only [Nat.add_sub_cancel] at h1
      have ihj := ih (by omega)
      have hb : (v :: r)[0].Tick ≤ 1099511622776 := h0.2
      have hb' : 0 ≤ (v :: r)[0].Tick := h0.1
      simp only [List.getElem_cons_zero] at hb hb'
      rw [h1, ihj, w64 (by omega) (by omega)]
      omega
theorem SeqT.tail {v : ViewT} {l : List ViewT} {a : Int} (h : SeqT (v :: l) a) : SeqT l (a + 1) := fun j hj => by
  have := h (j + 1) (by simpa using hj)
  simp only [List.getElem_cons_succ] at this
  rw [this]; omega
theorem SeqT.head {v : ViewT} {l : List ViewT} {a : Int} (h : SeqT (v :: l) a) : v.Tick = a := by
  have := h 0 (by simp)
  simpa using this
theorem SeqT.ge {l : List ViewT} {a : Int} (h : SeqT l a) {u : ViewT} (hu : u ∈ l) : a ≤ u.Tick := by
  obtain ⟨j, hj, rfl⟩ := List.mem_iff_getElem.1 hu
  rw [h j hj]; omega
/-- What the reference keeps in mind. -/
def miss (m : List ViewT) (n : Int) (v : ViewT) : Int := if v ∈ m then n else if n < 0 ∨ v.Tick < n then v.Tick else n
theorem miss_in {m : List ViewT} {n : Int} {v : ViewT} (h : v ∈ m) : miss m n v = n := by rw [miss, if_pos h]
theorem fold_stay {m : List ViewT} {n : Int} (hn : 0 ≤ n) : ∀ {l : List ViewT}, (∀ u ∈ l, n ≤ u.Tick) → l.foldl (miss m) n = n
  | [], _ => rfl
  | u :: l, h => by
    have : miss m n u = n := by
      unfold miss
      by_cases q : u ∈ m
      · rw [if_pos q]
      · rw [if_neg q, if_neg (by have := h u (by simp); omega)]
    rw [List.foldl_cons, this, fold_stay hn fun w hw => h w (by simp [hw])]
theorem fold_out {m l : List ViewT} {v : ViewT} {a : Int} (ha : 0 ≤ a) (h : SeqT (v :: l) a) (hv : v ∉ m) : (v :: l).foldl (miss m) (-1) = a := by
  have hh := h.head
  have : miss m (-1) v = a := by rw [miss, if_neg hv, if_pos (.inl (by decide)), hh]
  rw [List.foldl_cons, this, fold_stay ha fun u hu => by have := h.tail.ge hu; omega]
theorem fold_ge {m : List ViewT} {a : Int} (ha : 0 ≤ a) : ∀ {l : List ViewT} {n : Int}, (n = -1 ∨ a ≤ n) → (∀ u ∈ l, a ≤ u.Tick) → (l.foldl (miss m) n = -1 ∨ a ≤ l.foldl (miss m) n)
  | [], n, hn, _ => hn
  | u :: l, n, hn, h => by
    rw [List.foldl_cons]
    refine fold_ge ha ?_ fun w hw => h w (by simp [hw])
    unfold miss
    have hu := h u (by simp)
    by_cases q : u ∈ m
    · rw [if_pos q]; exact hn
    · rw [if_neg q]
      by_cases q2 : n < 0 ∨ u.Tick < n
      · rw [if_pos q2]; exact .inr hu
      · rw [if_neg q2]; exact hn
theorem fold_cut {v : ViewT} {l m : List ViewT} {a : Int} (hl : SeqT (v :: l) a) : (v :: l).foldl (miss (v :: m)) (-1) = l.foldl (miss m) (-1) := by
  rw [List.foldl_cons, miss_in (by simp)]
  have key : ∀ (r : List ViewT) (n : Int), (∀ u ∈ r, u ≠ v) → r.foldl (miss (v :: m)) n = r.foldl (miss m) n := by
    intro r
    induction r with
    | nil => intro n _; rfl
    | cons u r ih =>
      intro n h
      have hu := h u (by simp)
      have : miss (v :: m) n u = miss m n u := by
        unfold miss
        by_cases q : u ∈ m
        · rw [if_pos q, if_pos (by simp [q])]
        · rw [if_neg q, if_neg (by simp [q, hu])]
      rw [List.foldl_cons, List.foldl_cons, this, ih _ fun w hw => h w (by simp [hw])]
  refine key l _ fun u hu q => ?_
  have h1 := hl.tail.ge hu
  have h2 := hl.head
  subst q
  omega
def both (t t' : Int) : Int := if t < 0 then t' else if t' ≥ 0 then (if t' < t then t' else t) else t
def strip : List ViewT → List ViewT → List ViewT × List ViewT
  | v :: l, w :: m => if v = w then strip l m else (v :: l, w :: m)
  | l, m => (l, m)
def firstT (p : List ViewT × List ViewT) : Int :=
  match p with
  | ([], []) => -1
  | ([], w :: _) => w.Tick
  | (v :: _, []) => v.Tick
  | (v :: _, w :: _) => gmin v.Tick w.Tick
theorem gmin_eq (a b : Int) : gmin a b = if b < a then b else a := by
  unfold gmin
  first | rfl | (by_cases h : b < a <;> simp [h] <;> omega)
theorem notMem_of_lt {w : ViewT} {m : List ViewT} {b : Int} (h : SeqT (w :: m) b) {v : ViewT} (hv : v.Tick < b) : v ∉ w :: m := fun q => by have := h.ge q; omega
theorem first_eq : ∀ (l m : List ViewT) (a b : Int), 0 ≤ a → 0 ≤ b → SeqT l a → SeqT m b → both (l.foldl (miss m) (-1)) (m.foldl (miss l) (-1)) = firstT (strip l m)
  | [], [], a, b, ha, hb, hl, hm => rfl
  | [], w :: m, a, b, ha, hb, hl, hm => by
    rw [fold_out hb hm (by simp)]
    show both (-1) b = w.Tick
    rw [hm.head]; rfl
  | v :: l, [], a, b, ha, hb, hl, hm => by
    rw [fold_out ha hl (by simp)]
    show both a (-1) = v.Tick
    rw [hl.head]
    unfold both
    rw [if_neg (by omega), if_neg (by omega)]
  | v :: l, w :: m, a, b, ha, hb, hl, hm => by
    by_cases hvw : v = w
    · subst hvw
      rw [fold_cut hl, fold_cut hm]
      have : strip (v :: l) (v :: m) = strip l m := by rw [strip, if_pos rfl]
      rw [this]
      exact first_eq l m (a + 1) (b + 1) (by omega) (by omega) hl.tail hm.tail
    · have hs : strip (v :: l) (w :: m) = (v :: l, w :: m) := by rw [strip, if_neg hvw]
      rw [hs]
      show _ = gmin v.Tick w.Tick
      rw [gmin_eq, hl.head, hm.head]
      rcases Int.lt_trichotomy a b with h | h | h
      · have hr : (if b < a then b else a) = a := if_neg (by omega)
        have := fold_ge (m := v :: l) hb (.inl rfl) fun u hu => hm.ge hu
        rw [hr, fold_out ha hl (notMem_of_lt hm (by rw [hl.head]; exact h))]
        generalize (w :: m).foldl (miss (v :: l)) (-1) = t' at this ⊢
        unfold both
        rw [if_neg (by omega : ¬ a < 0)]
        rcases this with e | e
        · rw [e, if_neg (by decide)]
        · rw [if_pos (by omega : t' ≥ 0), if_neg (by omega : ¬ t' < a)]
      · subst h
        have h1 : v ∉ w :: m := fun q => by
          rcases List.mem_cons.1 q with q | q
          · exact hvw q
          · have := hm.tail.ge q; have := hl.head; omega
        have h2 : w ∉ v :: l := fun q => by
          rcases List.mem_cons.1 q with q | q
          · exact hvw q.symm
          · have := hl.tail.ge q; have := hm.head; omega
        have hr : (if a < a then a else a) = a := if_neg (by omega)
        rw [fold_out ha hl h1, fold_out hb hm h2, hr]
        unfold both
        rw [if_neg (by omega : ¬ a < 0), if_pos (by omega : a ≥ 0), if_neg (by omega : ¬ a < a)]
      · have hr : (if b < a then b else a) = b := if_pos h
        have := fold_ge (m := w :: m) ha (.inl rfl) fun u hu => hl.ge hu
        rw [hr, fold_out hb hm (notMem_of_lt hl (by rw [hm.head]; exact h))]
        generalize (v :: l).foldl (miss (w :: m)) (-1) = t at this ⊢
        unfold both
        rcases this with e | e
        · rw [e, if_pos (by decide)]
        · rw [if_neg (by omega : ¬ t < 0), if_pos (by omega : b ≥ 0), if_pos (by omega : b < t)]

/-! the loops -/
theorem Small.tail {v : ViewT} {l : List ViewT} (h : Small (v :: l)) : Small l := fun u hu => h u (by simp [hu])
theorem subL_tail (v : ViewT) (l : List ViewT) : subL (v :: l) 1 (((v :: l).length : Nat) : Int) = some l := by
  unfold subL
  rw [if_pos (by simp; omega)]
  simp
theorem strip_loop (k : Nat) (hk : 6000 ≤ k) : ∀ (n : Nat) (l m : List ViewT), l.length < n → Small l → f29_l1 k n l m = some (strip l m)
  | 0, l, m, h, _ => by omega
  | n + 1, l, m, h, hs => by
    unfold f29_l1
    cases l with
    | nil => rw [if_neg (by simp)]; rw [strip.eq_def]
    | cons v l =>
      rw [if_pos (by simp)]
      cases m with
      | nil => rw [if_neg (by simp)]; rw [strip.eq_def]
      | cons w m =>
        rw [if_pos (by simp), show rd (v :: l) 0 = some v from rfl, show rd (w :: m) 0 = some w from rfl]
        simp only [Option.bind_some]
        rw [f63_eq k hk v w (hs v (by simp)), Option.bind_some]
        by_cases e : v = w
        · rw [decide_eq_true e, if_pos rfl, subL_tail, Option.bind_some, subL_tail, Option.bind_some, strip_loop k hk n l m (by simp at h; omega) hs.tail, strip, if_pos e]
        · rw [decide_eq_false e, if_neg (by simp), strip, if_neg e]
theorem miss_step (k : Nat) (hk : 6000 ≤ k) (l m : List ViewT) (hl : l.length ≤ 5010) (hm : m.length ≤ 5010) (hs : Small l) {b : Int} (hb : 0 ≤ b ∧ b ≤ 1099511622776) (hq : SeqT m b) (n i : Nat) (hlt : i < l.length) (x : Int) :
    f64_l1 k l m (n + 1) x (i : Int) = f64_l1 k l m n (miss m x l[i]) ((i + 1 : Nat) : Int) := by
  (conv => lhs; unfold f64_l1)
  rw [if_pos (by omega), rdN hlt, wN (by omega)]
  simp only [Option.bind_some]
  -- what stands there
  have key : ∃ t : Int × (List Reply) × (List Sight) × Int × Int × Int × Bool, (if (m.length : Int) = 0 then some (((0, [], [], 0, 0, 0, false) : Int × (List Reply) × (List Sight) × Int × Int × Int × Bool))
      else (rd m 0).bind fun t12u1 => if l[i].Tick < t12u1.Tick then some (((0, [], [], 0, 0, 0, false) : Int × (List Reply) × (List Sight) × Int × Int × Int × Bool))
        else (rd m (IntKind.i64.wrap ((m.length : Int) - 1))).bind fun t23 => if l[i].Tick > t23.Tick then some (((0, [], [], 0, 0, 0, false) : Int × (List Reply) × (List Sight) × Int × Int × Int × Bool))
          else (rd m 0).bind fun t32 => (rd m (IntKind.i64.wrap (l[i].Tick - t32.Tick))).bind fun t36 => some ((t36.Tick, t36.Replies, t36.Sights, t36.Up, t36.Down, t36.Word, true))) = some t ∧
      ((t.2.2.2.2.2.2 = false ∧ l[i] ∉ m) ∨ (t.2.2.2.2.2.2 = true ∧ (l[i] ∈ m ↔ l[i] = ViewT.mk t.1 t.2.1 t.2.2.1 t.2.2.2.1 t.2.2.2.2.1 t.2.2.2.2.2.1))) := by
    by_cases h0 : m.length = 0
    · rw [if_pos (by omega)]
      refine ⟨_, rfl, .inl ⟨rfl, ?_⟩⟩
      rw [List.length_eq_zero_iff.1 h0]; simp
    · rw [if_neg (by omega), show rd m 0 = some (m[0]'(by omega)) from rdN (i := 0) (by omega)]
      simp only [Option.bind_some]
      have e0 := hq 0 (by omega)
      have e1 := hq (m.length - 1) (by omega)
      have hmem : ∀ u ∈ m, b ≤ u.Tick ∧ u.Tick ≤ b + (m.length - 1 : Nat) := by
        intro u hu
        obtain ⟨j, hj, rfl⟩ := List.mem_iff_getElem.1 hu
        rw [hq j hj]
        omega
      by_cases h1 : l[i].Tick < m[0].Tick
      · rw [if_pos h1]
        refine ⟨_, rfl, .inl ⟨rfl, fun q => ?_⟩⟩
        have := hmem _ q; omega
      · rw [if_neg h1, show IntKind.i64.wrap ((m.length : Int) - 1) = ((m.length - 1 : Nat) : Int) from by rw [w64 (by omega) (by omega)]; omega, rdN (by omega : m.length - 1 < m.length)]
        simp only [Option.bind_some]
        by_cases h2 : l[i].Tick > m[m.length - 1].Tick
        · rw [if_pos h2]
          refine ⟨_, rfl, .inl ⟨rfl, fun q => ?_⟩⟩
          have := hmem _ q; omega
        · rw [if_neg h2]
          obtain ⟨j, hj⟩ : ∃ j : Nat, l[i].Tick = b + j := ⟨(l[i].Tick - b).toNat, by omega⟩
          have hjl : j < m.length := by omega
          rw [show IntKind.i64.wrap (l[i].Tick - m[0].Tick) = (j : Int) from by rw [w64 (by omega) (by omega)]; omega, rdN hjl]
          refine ⟨_, rfl, .inr ⟨rfl, ?_⟩⟩
          show l[i] ∈ m ↔ l[i] = m[j]
          constructor
          · intro q
            obtain ⟨j2, hj2, e⟩ := List.mem_iff_getElem.1 q
            have := hq j2 hj2
            rw [e] at this
            have : j2 = j := by omega
            subst this
            exact e.symm
          · intro q
            rw [q]; exact List.getElem_mem hjl
  obtain ⟨t, ht, hc⟩ := key
  rw [ht]
  simp only [Option.bind_some]
  have other : (if x < 0 then some l[i].Tick else if l[i].Tick < x then some l[i].Tick else some x) = some (if x < 0 ∨ l[i].Tick < x then l[i].Tick else x) := by
    by_cases q : x < 0
    · rw [if_pos q, if_pos (.inl q)]
    · rw [if_neg q]
      by_cases q2 : l[i].Tick < x
      · rw [if_pos q2, if_pos (.inr q2)]
      · rw [if_neg q2, if_neg (by omega)]
  rcases hc with ⟨c1, c2⟩ | ⟨c1, c2⟩
  · rw [c1, if_neg (by simp), other, Option.bind_some, miss, if_neg c2]
  · rw [c1, if_pos rfl, f105_eq k hk _ _ (hs _ (List.getElem_mem hlt)), Option.bind_some]
    by_cases e : l[i] = ViewT.mk t.1 t.2.1 t.2.2.1 t.2.2.2.1 t.2.2.2.2.1 t.2.2.2.2.2.1
    · rw [decide_eq_true e, if_pos rfl, Option.bind_some, miss, if_pos (c2.2 e)]
    · rw [decide_eq_false e, if_neg (by simp), other, Option.bind_some, miss, if_neg (fun q => e (c2.1 q))]
theorem miss_loop (k : Nat) (hk : 6000 ≤ k) (l m : List ViewT) (hl : l.length ≤ 5010) (hm : m.length ≤ 5010) (hs : Small l) {b : Int} (hb : 0 ≤ b ∧ b ≤ 1099511622776) (hq : SeqT m b) :
    ∀ (n i : Nat) (x : Int), l.length < n + i → i ≤ l.length → f64_l1 k l m n x (i : Int) = some ((l.drop i).foldl (miss m) x)
  | 0, i, x, h, hi => by omega
  | n + 1, i, x, h, hi => by
    by_cases hlt : i < l.length
    · rw [miss_step k hk l m hl hm hs hb hq n i hlt, miss_loop k hk l m hl hm hs hb hq n (i + 1) _ (by omega) (by omega), List.drop_eq_getElem_cons hlt, List.foldl_cons]
    · unfold f64_l1
      rw [if_neg (by omega), List.drop_of_length_le (by omega)]; rfl
theorem f64_eq (k : Nat) (hk : 6000 ≤ k) (l m : List ViewT) (hl : l.length ≤ 5010) (hm : m.length ≤ 5010) (hs : Small l) {b : Int} (hb : 0 ≤ b ∧ b ≤ 1099511622776) (hq : SeqT m b) : f64 k l m = some (l.foldl (miss m) (-1)) := by
  unfold f64
  rw [show (0 : Int) = ((0 : Nat) : Int) from rfl, miss_loop k hk l m hl hm hs hb hq k 0 _ (by omega) (by omega), List.drop_zero]; rfl
theorem firsts (k : Nat) (hk : 6000 ≤ k) (l m : List ViewT) (hl : l.length ≤ 5010) (hm : m.length ≤ 5010) (hs : Small l) (ht : Small m) : ∃ r : Int × Int, f29 k l m = some r ∧ f30 k l m = some r := by
  obtain ⟨e, n, c1, c2, c3⟩ := check_eq k hk l hl hs
  obtain ⟨e', n', d1, d2, d3⟩ := check_eq k hk m hm ht
  unfold f29 f30
  rw [c1, c2, d1, d2]
  simp only [Option.bind_some]
  by_cases he : e = 0
  case neg => rw [if_neg he, if_neg he, Option.bind_some, if_neg he]; exact ⟨_, rfl, rfl⟩
  rw [if_pos he, if_pos he, Option.bind_some]
  by_cases he' : e' = 0
  case neg => rw [if_neg he', if_neg he']; exact ⟨_, rfl, rfl⟩
  rw [if_pos he', if_pos he']
  obtain ⟨a, a1, a2, ha⟩ := seq_of l hl (c3 he)
  obtain ⟨b, b1, b2, hb⟩ := seq_of m hm (d3 he')
  rw [f64_eq k hk l m hl hm hs ⟨b1, b2⟩ hb, f64_eq k hk m l hm hl ht ⟨a1, a2⟩ ha, strip_loop k hk k l m (by omega) hs]
  simp only [Option.bind_some]
  refine ⟨(firstT (strip l m), 0), ?_, ?_⟩
  · generalize strip l m = p
    obtain ⟨p1, p2⟩ := p
    cases p1 with
    | nil => cases p2 <;> rfl
    | cons v p1 => cases p2 <;> rfl
  · rw [← first_eq l m a b a1 b1 ha hb]
    generalize l.foldl (miss m) (-1) = t
    generalize m.foldl (miss l) (-1) = t'
    unfold both
    by_cases q1 : t < 0
    · rw [if_pos q1, if_pos q1]; rfl
    · rw [if_neg q1, if_neg q1]
      by_cases q2 : t' ≥ 0
      · rw [if_pos q2, if_pos q2]
        by_cases q3 : t' < t
        · rw [if_pos q3, if_pos q3]; rfl
        · rw [if_neg q3, if_neg q3]; rfl
      · rw [if_neg q2, if_neg q2]; rfl
theorem part_loop (l : List ViewT) (x y : Int) (hl : l.length ≤ 5010) (hs : Small l) : ∀ (n i : Nat) (o : List ViewT), l.length < n + i → i ≤ l.length → o.length ≤ i →
    ∃ r, f33_l1 l x y n o (i : Int) = some r ∧ f34_l1 l x y n o (i : Int) = some r ∧ r.length ≤ l.length ∧ (Small o → Small r)
  | 0, i, o, h, hi, ho => by omega
  | n + 1, i, o, h, hi, ho => by
    unfold f33_l1 f34_l1
    by_cases hlt : i < l.length
    · have hv := hs _ (List.getElem_mem hlt)
      rw [decide_eq_true (by omega : (i : Int) < (l.length : Int)), Option.bind_some, if_pos rfl, if_pos (by omega), rdN hlt, wN (by omega)]
      simp only [Option.bind_some]
      have hv2 : f65 (ViewT.mk l[i].Tick l[i].Replies l[i].Sights l[i].Up l[i].Down l[i].Word) = some l[i] := own2 l[i] hv
      rw [hv2, own1 _ hv]
      simp only [Option.bind_some]
      rw [apd_ok (by simp; omega)]
      simp only [Option.bind_some]
      by_cases c1 : l[i].Tick ≥ x
      · rw [if_pos c1]
        by_cases c2 : l[i].Tick < y
        · rw [if_pos c2]
          simp only [Option.bind_some]
          obtain ⟨r, e1, e2, e3, e4⟩ := part_loop l x y hl hs n (i + 1) (o ++ [ViewT.mk l[i].Tick l[i].Replies l[i].Sights l[i].Up l[i].Down l[i].Word]) (by omega) (by omega) (by simp; omega)
          refine ⟨r, e1, e2, e3, fun q => e4 fun u hu => ?_⟩
          rcases List.mem_append.1 hu with hu | hu
          · exact q u hu
          · rw [List.mem_singleton.1 hu]; exact hv
        · rw [if_neg c2]
          simp only [Option.bind_some]
          exact part_loop l x y hl hs n (i + 1) o (by omega) (by omega) (by omega)
      · rw [if_neg c1]
        simp only [Option.bind_some]
        exact part_loop l x y hl hs n (i + 1) o (by omega) (by omega) (by omega)
    · rw [decide_eq_false (by omega : ¬ (i : Int) < (l.length : Int)), Option.bind_some, if_neg (by simp), if_neg (by omega)]
      exact ⟨o, rfl, rfl, by omega, fun q => q⟩
theorem parts (k : Nat) (hk : 6000 ≤ k) (l : List ViewT) (hl : l.length ≤ 5010) (hs : Small l) (x y : Int) : ∃ r : List ViewT × Int, f33 k l x y = some r ∧ f34 k l x y = some r ∧ r.1.length ≤ 5010 ∧ Small r.1 := by
  obtain ⟨e, n, c1, c2, c3⟩ := check_eq k hk l hl hs
  have sn : Small [] := fun u hu => by cases hu
  unfold f33 f34
  rw [c1, c2]
  simp only [Option.bind_some]
  by_cases he : e = 0
  case neg => rw [if_neg he, if_neg he, Option.bind_some, if_neg he]; exact ⟨_, rfl, rfl, by simp, sn⟩
  rw [if_pos he, if_pos he]
  by_cases hx : x > y
  · rw [if_pos hx, if_pos hx, Option.bind_some, if_neg (by decide)]; exact ⟨_, rfl, rfl, by simp, sn⟩
  · rw [if_neg hx, if_neg hx, Option.bind_some, if_pos he]
    obtain ⟨r, e1, e2, e3, e4⟩ := part_loop l x y hl hs k 0 [] (by omega) (by omega) (by simp)
    rw [show (0 : Int) = ((0 : Nat) : Int) from rfl, e1, e2]
    exact ⟨(r, 0), rfl, rfl, by simp; omega, e4 sn⟩
theorem pure8 : Pure8 := by
  intro l m p hl hm _
  refine ⟨6000, ?_⟩
  have hk : 6000 ≤ 6000 := Nat.le_refl _
  obtain ⟨b1, e1, g1⟩ := light_eq 6000 hk l hl.2.2
  obtain ⟨b2, e2, g2⟩ := light_eq 6000 hk m hm.2.2
  unfold f8
  rw [e1, e2]
  simp only [Option.bind_some]
  cases b1 with
  | false => rfl
  | true =>
    rw [if_pos rfl]
    cases b2 with
    | false => rfl
    | true =>
      rw [if_pos rfl]
      obtain ⟨l1, s1⟩ := g1 rfl
      obtain ⟨l2, s2⟩ := g2 rfl
      obtain ⟨r, f1, f2⟩ := firsts 6000 hk l m l1 l2 s1 s2
      have q1 : f31 6000 l m = f32 6000 l m := by unfold f31 f32; rw [f1, f2]
      obtain ⟨z, hz⟩ : ∃ z, f32 6000 l m = some z := by
        unfold f32
        rw [f2]
        simp only [Option.bind_some]
        by_cases h : r.2 = 0
        · rw [if_pos h]; exact ⟨_, rfl⟩
        · rw [if_neg h]; exact ⟨_, rfl⟩
      obtain ⟨w, p1, p2, p3, p4⟩ := parts 6000 hk l l1 s1 p.From p.To
      rw [own_eq 6000 hk l l1 s1, own_eq 6000 hk m l2 s2]
      simp only [Option.bind_some]
      rw [f1, f2, q1, hz]
      simp only [Option.bind_some, if_true]
      have hb : (!(z.1 == z.1)) = false := by simp
      rw [hb]
      simp only [Bool.false_eq_true, if_false]
      rw [p1, p2]
      simp only [Option.bind_some, if_true]
      rw [f14_refl 6000 hk w.1 p3 p4, f14_refl 6000 hk l l1 s1, f14_refl 6000 hk m l2 s2]
      rfl
end Go.Proofs.YtppedainpmjbmaaGreatDoor
