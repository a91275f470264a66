import Derived.Test.YtgmejigjajcbfaaDoorD48
import Derived.Test.YtgmejigjajcbfaaDoorD25
set_option linter.unusedSimpArgs false
set_option linter.unusedVariables false
namespace Go.Det
open Go Go.RowKit

/-! ## 39. A run out of nothing serves everywhere -/
theorem Rel.later {X : Cx} {w w' : World} {R : Ren} {H : Hp} (h : Rel X R H w) (k : Below w.heap.size w w') : Rel X R H w' := by
  have hlt : ∀ b i x, H.get b = some x → R b = some i → i.blk < w.heap.size := by
    intro b i x e r
    obtain ⟨j, r', br⟩ := h.blk b x e
    rw [r] at r'; cases r'
    rcases RI_own_of_BR br with ⟨q, _⟩ | ⟨_, q, _⟩
    · exact h.lt b i r q
    · exact Nat.lt_of_lt_of_le q h.size
  refine ⟨fun b x e => ?_, h.inj, h.free, fun b i r ho => Nat.lt_of_lt_of_le (h.lt b i r ho) k.size, h.below.trans (k.mono h.size), Nat.le_trans h.size k.size, h.glob, h.gle, ?_⟩
  · obtain ⟨i, r, br⟩ := h.blk b x e
    exact ⟨i, r, br.keep (Ren.le_refl R) (k.block _ (hlt b i x e r))⟩
  · intro q o hq
    obtain ⟨h1, h2, h3⟩ := h.kept q o hq
    exact ⟨h1, by rw [k.block q (Array.getElem?_eq_some_iff.1 h2).1]; exact h2, h3⟩

theorem SCall.closed {P : Program} {f : FuncId} {args : List Value} {v : Value} (h : SCall P f args (H0 P.globals.size) fun e _ => e = .ret v) (ha : flats args = true) (hv : flat v = true) (H : Hp) :
    SCall P f args H (Ret fun v' H' => H' = H ∧ v' = v) := by
  obtain ⟨en, H', q, k⟩ := h
  subst q
  refine ⟨.ret v, H, ⟨v, rfl, rfl, rfl⟩, fun X R w args' hG hR hargs cs => ?_⟩
  have he := flats_eq hargs ha
  subst he
  obtain ⟨R', w', en', f', l, r, e, hf, hs, hl⟩ := k ⟨w.heap.size, w, P.globals.size, fun _ => none⟩ (R0 P.globals.size) w args' ⟨rfl, (hG.laid.mono hR.below).le hR.size⟩ (Rel.start P w) (flats_refl ha) cs
  cases e with
  | @ret _ v' hv' =>
    have := flat_eq hv' hv
    subst this
    exact ⟨R, w', .ret v', f', Ren.le_refl R, hR.later r.below, .ret (flat_refl hv), hf, hs, hl⟩
/-- The kit's own contracts. -/
theorem SCall.ofCalls {P : Program} {f : FuncId} {args : List Value} {v : Value} (h : ∀ w, Calls P f ⟨args⟩ w fun e w' => e = .returned v ∧ Below w.heap.size w w') (ha : flats args = true) (hv : flat v = true) (H : Hp) :
    SCall P f args H (Ret fun v' H' => H' = H ∧ v' = v) := by
  refine ⟨.ret v, H, ⟨v, rfl, rfl, rfl⟩, fun X R w args' hG hR hargs cs => ?_⟩
  have he := flats_eq hargs ha
  subst he
  obtain ⟨e, w', fr, ⟨rfl, hb⟩, hc, hf, hl⟩ := h w cs
  exact ⟨R, w', .ret v, fr, Ren.le_refl R, hR.later hb, .ret (flat_refl hv), hf, hc, hl⟩
end Go.Det
