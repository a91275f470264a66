import Derived.Test.YtmkcobpgmcfbkaaGreatDoorD48
import Derived.Test.YtmkcobpgmcfbkaaGreatDoorD25
set_option linter.unusedSimpArgs false
set_option linter.unusedVariables false
namespace Go.Det
open Go Go.RowKit
theorem Rel.later {X : Cx} {w w' : World} {R : Ren} {H : Hp} (h : Rel X R H w) (k : Below w.heap.size w w') : Rel X R H w' := by
  have hlt : ∀ b i x, H.get b = some x → R b = some i → i.blk < w.heap.size := by
    intro b i x e r
    obtain ⟨j, r', br⟩ := h.blk b x e
    rw [r] at r'; cases r'
    rcases RI_own_of_BR br with ⟨q, _⟩ | ⟨_, q, _⟩
    · exact h.lt b i r q
    · exact Nat.lt_of_lt_of_le q h.size
  refine ⟨fun b x e => ?_, h.inj, h.free, fun b i r ho => Nat.lt_of_lt_of_le (h.lt b i r ho) k.size, h.below.trans (k.mono h.size), Nat.le_trans h.size k.size, h.glob, h.gle, ?_⟩
  · obtain ⟨i, r, br⟩ := h.blk b x e
    exact ⟨i, r, br.keep (Ren.le_refl R) (k.block _ (hlt b i x e r))⟩
  · intro q o hq
    obtain ⟨h1, h2, h3⟩ := h.kept q o hq
    exact ⟨h1, by rw [k.block q (Array.getElem?_eq_some_iff.1 h2).1]; exact h2, h3⟩
end Go.Det
