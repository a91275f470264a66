import Derived.Test.YtmkcobpgmcfbkaaGreatDoorD50
set_option linter.unusedSimpArgs false
set_option linter.unusedVariables false
namespace Go.Det
open Go Go.RowKit
section
variable {P : Program} {H : Hp} {t e : TypeId} {α : Type}
theorem RdF.cons_inv {f : Field} {fs : List Field} {cs : List Value} (h : RdF P H (f :: fs) cs) : ∃ c d, cs = c ++ d ∧ Rd P H f.type c ∧ RdF P H fs d := by
  cases h with
  | cons h hs => exact ⟨_, _, rfl, h, hs⟩
theorem RdF.nil_inv {cs : List Value} (h : RdF P H [] cs) : cs = [] := by cases h; rfl
theorem RdN.succ_inv {n : Nat} {cs : List Value} (h : RdN P H e (n + 1) cs) : ∃ c d, cs = c ++ d ∧ Rd P H e c ∧ RdN P H e n d := by
  cases h with
  | cons h hs => exact ⟨_, _, rfl, h, hs⟩
theorem RdN.rep {c : Cod α} {ok : α → Prop} (he : ∀ cs, Rd P H e cs → ∃ x, c.rep 0 H cs x ∧ ok x) : ∀ {n : Nat} {cs : List Value}, RdN P H e n cs → ∃ l : List α, l.length = n ∧ RepL c 0 H cs l ∧ ∀ x ∈ l, ok x
  | 0, cs, h => by cases h; exact ⟨[], rfl, rfl, fun x h => by cases h⟩
  | n + 1, cs, h => by
    obtain ⟨c1, d, rfl, h1, h2⟩ := h.succ_inv
    obtain ⟨x, k1, k2⟩ := he c1 h1
    obtain ⟨l, l1, l2, l3⟩ := RdN.rep he h2
    refine ⟨x :: l, by simp [l1], ⟨c1, d, rfl, k1, l2⟩, fun y hy => ?_⟩
    rcases List.mem_cons.1 hy with rfl | hy
    · exact k2
    · exact l3 y hy
theorem RdArgs.cons_inv {ts : List TypeId} {args : List Value} (h : RdArgs P H (t :: ts) args) : ∃ v vs, args = v :: vs ∧ Rd P H t v.cells.toList ∧ (match isAggD P t with | some true => ∃ cs, v = .agg cs | _ => v.cells.toList = [v]) ∧ RdArgs P H ts vs := by
  cases h with
  | cons h hv hs => exact ⟨_, _, rfl, h, hv, hs⟩
theorem RdArgs.nil_inv {args : List Value} (h : RdArgs P H [] args) : args = [] := by cases h; rfl
theorem RdArgs.scal {ts : List TypeId} {args : List Value} (h : RdArgs P H (t :: ts) args) (ht : isAggD P t = some false) : ∃ v vs, args = v :: vs ∧ Rd P H t [v] ∧ RdArgs P H ts vs := by
  obtain ⟨v, vs, h1, h2, h3, h4⟩ := h.cons_inv
  rw [ht] at h3
  simp only at h3
  rw [h3] at h2
  exact ⟨v, vs, h1, h2, h4⟩
end
end Go.Det
