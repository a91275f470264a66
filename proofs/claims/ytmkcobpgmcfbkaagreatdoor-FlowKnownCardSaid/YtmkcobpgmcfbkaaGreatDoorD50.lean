import Derived.Test.YtmkcobpgmcfbkaaGreatDoorD49
set_option linter.unusedSimpArgs false
set_option linter.unusedVariables false
namespace Go.Det
open Go Go.RowKit
theorem WF.ext {B0 B : Hp} {own : List OwnE} {loc : List (List Value)} {ids : Nat → Nat} {H H' : Hp} (fr : WF B0 B own loc ids H) (e : Ext H H') : WF B0 B own loc ids H' :=
  ⟨fr.ext0.trans e, Nat.le_trans fr.nextB e.next, fr.trim, fun b x h => by rw [e.same b (Nat.lt_of_lt_of_le (fr.trim b x h) fr.nextB)]; exact fr.sub b x h,
    fun k cs h => by obtain ⟨h1, h2, h3⟩ := fr.here k cs h; exact ⟨by rw [e.same _ h2]; exact h1, Nat.lt_of_lt_of_le h2 e.next, h3⟩, fr.apart, fr.inj,
    fun j f h => (fr.mine j f h).keep (Nat.le_refl _) e.next fun b x hb hx => by rw [e.same b ((fr.mine j f h).blk_lt hb).2]; exact hx, fr.mineB, fr.mineI⟩
def Turns (H H' : Hp) (e e' : OwnE) : Prop := ∀ (B0 B : Hp) (own : List OwnE) (loc : List (List Value)) (ids : Nat → Nat) (j : Nat), WF B0 B own loc ids H → own[j]? = some e → WF B0 B (own.set j e') loc ids H'
theorem Turns.refl {H H' : Hp} (x : Ext H H') (e : OwnE) : Turns H H' e e := fun B0 B own loc ids j fr hj => by
  have : own.set j e = own := by
    obtain ⟨h1, h2⟩ := List.getElem?_eq_some_iff.1 hj
    subst h2
    exact List.set_getElem_self h1
  rw [this]; exact fr.ext x
theorem appendD_next {P : Program} {H H' : Hp} {ts : Array TypeId} {s x v : Value} (h1 : appendD P H ts s x = some (v, H')) : H.next ≤ H'.next := (appendD_lox h1).next
theorem Turns.append {P : Program} {H : Hp} {c : Call} {t et by_ len m : Nat} {e : OwnE} {sv : Value} {new : List Value} (he : e.ok 0 H) (E : Elem P c t et e.sz by_) (hcs : e.cs.length = len * e.sz) (hl : lenD sv = some m) (hs : srcD H e.sz sv m = some new) (hnew : new.length = m * e.sz)
    (hone : (new.all fun v => v.oneCell') = true) (hb : (len + m) * by_ ≤ 140737488355328) (hm : len + m ≤ 140737488355328) :
    ∃ a' cap' H', appendD P H c.argTypes (.slice e.a len e.cap) sv = some (.slice a' (len + m) cap', H') ∧ Turns H H' e ⟨a', cap', e.sz, e.cs ++ new⟩ ∧ H.next ≤ H'.next := by
  have fr0 : WF noHp noHp [e] [] (fun _ => 0) H := by
    refine ⟨noHp_ext H, Nat.zero_le _, fun b x h => (by cases h), fun b x h => (by cases h), fun k cs h => by simp at h, fun k h => by simp at h, fun j k h => by simp at h, ?_, ?_, ?_⟩
    · intro j f h
      cases j with
      | zero => simp at h; subst h; exact he
      | succ j => simp at h
    · intro j f b h hb
      exact ⟨rfl, fun k hk => by simp at hk⟩
    · intro i j f g b hi hj _ _
      have := lt_of_get hi; have := lt_of_get hj
      simp at *; omega
  obtain ⟨a', cap', H', h1, h2⟩ := fr0.append (j := 0) rfl E hcs hl hs hnew hone hb hm
  have hn := appendD_next h1
  refine ⟨a', cap', H', h1, fun B0 B own loc ids j fr hj => ?_, hn⟩
  obtain ⟨a2, c2, H2, g1, g2⟩ := fr.append hj E hcs hl hs hnew hone hb hm
  rw [h1] at g1
  cases g1
  exact g2
section rules
variable {P : Program} {Q : Ex → SS → Prop} {n : NN} {B0 B : Hp} {own : List OwnE} {k k' : KK} {x : VS}
end rules
end Go.Det
