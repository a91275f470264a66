import Derived.Test.YtmkcobpgmcfbkaaGreatDoorD57
import Derived.Lib.CutLaws
set_option linter.unusedSimpArgs false
set_option linter.unusedVariables false
namespace Go.Det
open Go Go.RowKit
section rules
variable {P : Program} {Q : Ex → SS → Prop} {n : NN} {B0 B D : Hp} {kD : Nat} {own : List OwnE} {k k' : KK} {x x' x'' : VS}
theorem WF.freeze {α : Type} {c : Cod α} {loc : List (List Value)} {ids : Nat → Nat} {H : Hp} {j cap : Nat} {ad : Option Addr} {cs : List Value} {L : List α} (fr : WF B0 B own loc ids H) (hj : own[j]? = some ⟨ad, cap, c.sz, cs⟩) (hp : 0 < c.sz) (hr : RepL c B0.next B cs L) :
    ∃ B', WF B0 B' (own.set j ⟨none, 0, c.sz, []⟩) loc ids H ∧ Abv 0 B B' ∧ Itv B B' ∧ SlF B0.next B' c ad cap L := by
  have hok := fr.mine j _ hj
  have hlt := lt_of_get hj
  have get : ∀ i f, (own.set j ⟨none, 0, c.sz, []⟩)[i]? = some f → (i = j ∧ f = (⟨none, 0, c.sz, []⟩ : OwnE)) ∨ (i ≠ j ∧ own[i]? = some f) := by
    intro i f h
    by_cases q : i = j
    · subst q; rw [List.getElem?_set_self hlt] at h; cases h; exact .inl ⟨rfl, rfl⟩
    · rw [List.getElem?_set_ne (fun r => q r.symm)] at h; exact .inr ⟨q, h⟩
  rcases hok with ⟨h1, h2, h3⟩ | ⟨b, h1, h2, h3, h4⟩
  · simp only at h1 h2 h3
    subst h1 h2 h3
    have hL : L = [] := by
      have := hr.len
      simp only [List.length_nil] at this
      rcases Nat.mul_eq_zero.1 this.symm with w | w
      · exact List.length_eq_zero_iff.1 w
      · omega
    have hset : own.set j ⟨none, 0, c.sz, []⟩ = own := by
      obtain ⟨g1, g2⟩ := List.getElem?_eq_some_iff.1 hj
      rw [← g2]; exact List.set_getElem_self g1
    refine ⟨B, by rw [hset]; exact fr, Abv.refl _ _, fun _ _ h => h, .inl ⟨rfl, rfl, hL⟩⟩
  · simp only at h1 h4
    subst h1
    obtain ⟨m, hget⟩ : ∃ m, H.get b = some (.cells m cs) := by rcases h4 with ⟨_, _, _, g⟩ | ⟨_, _, g⟩ | ⟨g, _⟩ <;> first | exact ⟨_, g⟩ | (simp only at g; omega)
    have hBb := (fr.mineB j _ b hj rfl).1
    have hne : ∀ d z, B.get d = some z → d ≠ b := fun d z e q => by rw [q, hBb] at e; cases e
    have hab : Abv 0 B (B.with_ b H.next (.cells m cs)) := ⟨fr.nextB, fun d m0 cs0 _ _ e => by rw [Hp.get_with, if_neg (hne d _ e)]; exact e⟩
    refine ⟨B.with_ b H.next (.cells m cs), ⟨fr.ext0, Nat.le_refl _, ?_, ?_, fr.here, ?_, fr.inj, ?_, ?_, ?_⟩, hab, fun d z e => by rw [Hp.get_with, if_neg (hne d z e)]; exact e, .inr ⟨b, 0, cs, rfl, hr.mono (Nat.le_refl _) (hab.le (Nat.zero_le _)), .inr ⟨h2, h3, m, cs, by rw [Hp.get_with, if_pos rfl], by simp, by simp⟩, ?_⟩⟩
    rotate_right
    · rcases h4 with ⟨g1, _, mt, g3⟩ | ⟨g1, g2, _⟩ | ⟨g1, _⟩
      rotate_right
      · simp only at g1; omega
      · rw [hget] at g3; cases g3
        exact .inr (.inl ⟨g1, h2, h3, _, _, by rw [Hp.get_with, if_pos rfl], .inr ⟨mt, rfl⟩⟩)
      · refine .inl ⟨?_, g1⟩
        have hl := hr.len
        rw [hl] at g2
        exact Nat.le_of_eq (Nat.eq_of_mul_eq_mul_right hp g2.symm)
    · intro d z h
      show d < H.next
      rw [Hp.get_with] at h
      split at h
      · rename_i q; omega
      · have := fr.trim d z h; have := fr.nextB; omega
    · intro d z h
      rw [Hp.get_with] at h
      split at h
      · rename_i q; subst q; cases h; exact hget
      · exact fr.sub d z h
    · intro i hi
      rw [Hp.get_with, if_neg ((fr.mineB j _ b hj rfl).2 i hi)]
      exact fr.apart i hi
    · intro i f h
      rcases get i f h with ⟨_, rfl⟩ | ⟨_, h⟩
      · exact .inl ⟨rfl, rfl, rfl⟩
      · exact fr.mine i f h
    · intro i f d h hd
      rcases get i f h with ⟨_, rfl⟩ | ⟨q, h⟩
      · simp [OwnE.blk] at hd
      · refine ⟨?_, (fr.mineB i f d h hd).2⟩
        rw [Hp.get_with, if_neg (fun r => q (fr.mineI i j f _ d h hj hd (by rw [r]; rfl)))]
        exact (fr.mineB i f d h hd).1
    · intro i i' f f' d h h' hd hd'
      rcases get i f h with ⟨_, rfl⟩ | ⟨q, h⟩
      · simp [OwnE.blk] at hd
      · rcases get i' f' h' with ⟨_, rfl⟩ | ⟨q', h'⟩
        · simp [OwnE.blk] at hd'
        · exact fr.mineI i i' f f' d h h' hd hd'
theorem JL.less {ops : Array Oper} {i m : Nat} {s : SS} (l : Env) (hl : lessB l s.l) (h : JL P ops m i Q { s with l := l }) : JL P ops m i Q s := SI.le (less_st hl) h
end rules
end Go.Det

set_option linter.unusedSimpArgs false
set_option linter.unusedVariables false
namespace Go.Det
open Go Go.RowKit
def sub (s : List UInt8) (lo hi : Int) : Option (List UInt8) := if 0 ≤ lo ∧ lo ≤ hi ∧ hi ≤ (s.length : Int) then some ((s.drop lo.toNat).take (hi.toNat - lo.toNat)) else none
section
variable {P : Program} {H : Hp} {ev : Ev} {o : Oper}
end
section
variable {P : Program} {a : Array Oper} {fl : Bool} {n : NN} {B0 B D : Hp} {kD : Nat} {own : List OwnE}
end
end Go.Det

set_option linter.unusedSimpArgs false
set_option linter.unusedVariables false
namespace Go.Det
open Go Go.RowKit
end Go.Det
