import Derived.Test.YtgmejigjajcbfaaDoorD62
set_option linter.unusedSimpArgs false
set_option linter.unusedVariables false
namespace Go.Det
open Go Go.RowKit

/-! ## 56. Closed runs over the known package variables -/
def layT : List (Nat × List Value) → T Blk → T Blk
  | [], t => t
  | (g, cs) :: r, t => lforce cs fun cs => layT r (t.set g (some (.cells .old cs)))
theorem layT_get : ∀ (l : List (Nat × List Value)) (t : T Blk) (b : Nat) (x : Blk), (layT l t).get b = some x → t.get b = some x ∨ ∃ p ∈ l, p.1 = b ∧ x = .cells .old p.2
  | [], t, b, x, h => .inl h
  | (g, cs) :: r, t, b, x, h => by
    rw [layT, lforce_eq] at h
    rcases layT_get r _ b x h with k | ⟨p, hp, k⟩
    · rw [T.get_set] at k
      by_cases q : b = g
      · rw [if_pos q] at k; cases k
        exact .inr ⟨(g, cs), by simp, q.symm, rfl⟩
      · rw [if_neg q] at k; exact .inl k
    · exact .inr ⟨p, by simp [hp], k⟩
def HGL (l : List (Nat × List Value)) (G : Nat) : Hp := { t := layT l .nil, next := G, lo := G }
theorem HGL_get {l : List (Nat × List Value)} {G b : Nat} {x : Blk} (e : (HGL l G).get b = some x) : ∃ p ∈ l, p.1 = b ∧ x = .cells .old p.2 := by
  rcases layT_get l .nil b x e with k | k
  · cases k
  · exact k
def HG (G : Nat) : Hp := HGL seatCells G
def seatFlat : Bool := seatCells.all fun p => flats p.2
theorem Rel.startG (P : Program) (w : World) (hL : Laid w w.heap.size) (hf : seatFlat = true) (hs : (seatCells.all fun p => Nat.blt p.1 P.globals.size) = true) : Rel ⟨w.heap.size, w, P.globals.size, fun _ => none⟩ (R0 P.globals.size) (HG P.globals.size) w := by
  have h0 := Rel.start P w
  have key : ∀ b x, (HG P.globals.size).get b = some x → ∃ p ∈ seatCells, p.1 = b ∧ x = .cells .old p.2 := by
    intro b x e
    exact HGL_get e
  refine ⟨?_, ?_, h0.free, h0.lt, h0.below, h0.size, h0.glob, Nat.le_refl _, h0.kept⟩
  · intro b x e
    obtain ⟨p, hp, rfl, rfl⟩ := key b x e
    have hlt := (Nat.blt_eq ▸ (List.all_eq_true.1 hs p hp) : p.1 < P.globals.size)
    refine ⟨⟨p.1, 0, 0, 0, false⟩, by simp only [R0]; rw [if_pos hlt], ?_⟩
    obtain ⟨h1, t, fr, h2⟩ := hL.1 p hp
    refine .old _ rfl h1 fun j v hj => ⟨v, ?_, ?_⟩
    · have hlen := (List.getElem?_eq_some_iff.1 hj).1
      simp only [World.cell?, h2]
      simpa using hj
    · have hfl := List.all_eq_true.1 hf p hp
      have : ∀ (l : List Value), flats l = true → ∀ (j : Nat) (v : Value), l[j]? = some v → flat v = true := by
        intro l
        induction l with
        | nil => intro _ j v h; simp at h
        | cons a l ih =>
          intro hl j v h
          simp only [flats, Bool.and_eq_true] at hl
          cases j with
          | zero => simp at h; rw [← h]; exact hl.1
          | succ j => exact ih hl.2 j v (by simpa using h)
      exact flat_refl (this _ hfl j v hj)
  · intro b c i j x y hb hc hi hj oi oj e
    obtain ⟨p, hp, rfl, rfl⟩ := key b x hb
    have hlt := (Nat.blt_eq ▸ (List.all_eq_true.1 hs p hp) : p.1 < P.globals.size)
    simp only [R0] at hi
    rw [if_pos hlt] at hi; cases hi; cases oi

theorem SCall.closedG {P : Program} {f : FuncId} {args : List Value} {v : Value} (hf : seatFlat = true) (hs : (seatCells.all fun p => Nat.blt p.1 P.globals.size) = true) (h : SCall P f args (HG P.globals.size) fun e _ => e = .ret v) (ha : flats args = true) (hv : flat v = true) (H : Hp) :
    SCall P f args H (Ret fun v' H' => H' = H ∧ v' = v) := by
  obtain ⟨en, H', q, k⟩ := h
  subst q
  refine ⟨.ret v, H, ⟨v, rfl, rfl, rfl⟩, fun X R w args' hG hR hargs cs => ?_⟩
  have he := flats_eq hargs ha
  subst he
  have hL : Laid w w.heap.size := (hG.laid.mono hR.below).le hR.size
  obtain ⟨R', w', en', f', l, r, e, hf, hs, hl⟩ := k ⟨w.heap.size, w, P.globals.size, fun _ => none⟩ (R0 P.globals.size) w args' ⟨rfl, hL⟩ (Rel.startG P w hL hf hs) (flats_refl ha) cs
  cases e with
  | @ret _ v' hv' =>
    have := flat_eq hv' hv
    subst this
    exact ⟨R, w', .ret v', f', Ren.le_refl R, hR.later r.below, .ret (flat_refl hv), hf, hs, hl⟩
/-- A closed call, by a run of the kernel. -/
theorem SCall.closed2 {P : Program} {f : FuncId} {args : List Value} {v : Value} (n : Nat) (hf : seatFlat = true) (hs : (seatCells.all fun p => Nat.blt p.1 P.globals.size) = true)
    (h : (callE P (evC2 P n) f args (HG P.globals.size)).map (fun p => p.1) = some (.ret v)) (ha : flats args = true) (hv : flat v = true) (H : Hp) :
    SCall P f args H (Ret fun v' H' => H' = H ∧ v' = v) := by
  cases q : callE P (evC2 P n) f args (HG P.globals.size) with
  | none => rw [q] at h; cases h
  | some p =>
    obtain ⟨en, H'⟩ := p
    rw [q] at h
    simp only [Option.map_some, Option.some.injEq] at h
    subst h
    exact SCall.closedG hf hs ((SCall.run2 q).mono fun e _ k => k.1) ha hv H
end Go.Det
