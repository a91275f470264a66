import Derived.Test.YtgmejigjajcbfaaDoorD35
set_option linter.unusedSimpArgs false
set_option linter.unusedVariables false
namespace Go.Det
open Go Go.RowKit

/-! ## 27. Functions that write to what they were handed -/
def noHp : Hp := ⟨.nil, 0, 0⟩
theorem noHp_ext (H : Hp) : Ext noHp H := ⟨Nat.zero_le _, fun b h => absurd h (Nat.not_lt_zero _)⟩

section rules
variable {P : Program} {Q : Ex → SS → Prop} {n : NN} {B0 B : Hp} {k k' : KK} {x x' x'' : VS}

theorem SCall.w {f : FuncId} {fn : Func} {c : Code} {args : List Value} {H : Hp} {Q : En → Hp → Prop} (hf : P.funcs[f]? = some fn) (hb : fn.body = some c) {m : Nat} (hn : fn.ntmps = m) {g : Nat} (hg : args.length = g) (hl : Nat.ble g m = true)
    {res : List ResultVar} (hr : fn.results.toList = res) {l : VEnv} (he : ∀ ids, denE ids l = envOf args) (h : VJ P ⟨m, true⟩ noHp H [.code c] (bodyS P res Q) ⟨l, [], true, 0⟩) : SCall P f args H Q :=
  SCall.body hf hb hn (by rw [hg]; exact Nat.le_of_ble_eq_true hl) hr (by
    have := h (fun _ => 0) H ⟨noHp_ext H, Nat.le_refl _, fun _ => Ext.refl H, fun k cs h => by simp at h, fun k h => by simp at h, fun j k h => by simp at h⟩
    simp only [VS.ss, he] at this
    exact this)

/-- A call that turns variables of the function's own. -/
theorem VJ.cg (N : Nat) {f : FuncId} {args : List SV} {d : Option Tmp} {R : Value → Hp → Prop} {l : VEnv} {loc loc' : List (List Value)} {cl : Bool} {kB : Nat} (hs : vSym P n N k x = .call f args d k' ⟨l, loc, cl, kB⟩)
    (hc : ∀ ids H, Fr B0 B cl kB loc ids H → SCall P f (args.map (den ids)) H (Ret fun v H' => Fr B0 H' true loc'.length loc' ids H' ∧ R v H'))
    (hk : ∀ v H', Ext B0 H' → R v H' → ∃ x'', putV ⟨l, loc', true, loc'.length⟩ n d (.v v) = some x'' ∧ VJ P n B0 H' k' Q x'') : VJ P n B0 B k Q x := by
  refine VJ.sym N hs fun ids H fr => ?_
  refine (hc ids H fr).mono fun e H' ⟨v, h1, h2, h3⟩ => ?_
  subst h1
  obtain ⟨y, hp, h⟩ := hk v H' h2.ext0 h3
  obtain ⟨p1, p2, p3, p4⟩ := putV_eq ids H H' hp
  refine ⟨y.ss ids n H', ?_, h ids H' (by rw [p2, p3, p4]; exact h2)⟩
  rw [← p1]; cases d <;> rfl
end rules
end Go.Det
