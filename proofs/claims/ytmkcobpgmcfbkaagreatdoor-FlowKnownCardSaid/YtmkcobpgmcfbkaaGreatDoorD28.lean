import Derived.Test.YtmkcobpgmcfbkaaGreatDoorD27
import Derived.WalkKit
set_option linter.unusedSimpArgs false
set_option linter.unusedVariables false
namespace Go.Det
open Go Go.RowKit
def Sl (H : Hp) (sz : Nat) (a : Option Addr) (len cap : Nat) (cs : List Value) : Prop :=
  cs.length = len * sz ∧ ((a = none ∧ len = 0 ∧ cap = 0) ∨ ∃ b o, a = some ⟨b, o, none⟩ ∧ (len = 0 ∨ ∃ m all, H.get b = some (.cells m all) ∧ b < H.next ∧ o + len * sz ≤ all.length ∧ (all.drop o).take (len * sz) = cs))
theorem Sl.mono {H H' : Hp} (x : Ext H H') {sz : Nat} {a : Option Addr} {len cap : Nat} {cs : List Value} (h : Sl H sz a len cap cs) : Sl H' sz a len cap cs := by
  obtain ⟨h1, h2⟩ := h
  refine ⟨h1, ?_⟩
  rcases h2 with h2 | ⟨b, o, e, h2 | ⟨m, all, g1, g2, g3, g4⟩⟩
  · exact .inl h2
  · exact .inr ⟨b, o, e, .inl h2⟩
  · exact .inr ⟨b, o, e, .inr ⟨m, all, by rw [x.same b g2]; exact g1, Nat.lt_of_lt_of_le g2 x.next, g3, g4⟩⟩
theorem Sl.addr {P : Program} {H : Hp} {sz : Nat} {a : Option Addr} {len cap : Nat} {cs : List Value} (h : Sl H sz a len cap cs) {t e : TypeId} (ht : P.underlying t = some (.slice e)) (hs : sizeD P e = some sz) {i : Nat} (hi : i < len) {k : IntKind} :
    ∃ b o m all, indexAddrD P t (.slice a len cap) (.int k (i : Nat)) = some (.pointer (some ⟨b, o + i * sz, none⟩)) ∧ H.get b = some (.cells m all) ∧ b < H.next ∧ o + len * sz ≤ all.length ∧ (all.drop o).take (len * sz) = cs := by
  obtain ⟨h1, h2⟩ := h
  rcases h2 with ⟨_, h2, _⟩ | ⟨b, o, e, h2 | ⟨m, all, g1, g2, g3, g4⟩⟩
  · omega
  · omega
  · subst e
    refine ⟨b, o, m, all, ?_, g1, g2, g3, g4⟩
    simp only [indexAddrD, ht, hs]
    rw [if_pos ⟨by omega, by omega⟩]
    simp
end Go.Det
