import Derived.Test.YtppedainpmjbmaaGreatDoorD35
set_option linter.unusedSimpArgs false
set_option linter.unusedVariables false
namespace Go.Det
open Go Go.RowKit
def noHp : Hp := ⟨.nil, 0, 0⟩
theorem noHp_ext (H : Hp) : Ext noHp H := ⟨Nat.zero_le _, fun b h => absurd h (Nat.not_lt_zero _)⟩
section rules
variable {P : Program} {Q : Ex → SS → Prop} {n : NN} {B0 B : Hp} {k k' : KK} {x x' x'' : VS}
theorem SCall.w {f : FuncId} {fn : Func} {c : Code} {args : List Value} {H : Hp} {Q : En → Hp → Prop} (hf : P.funcs[f]? = some fn) (hb : fn.body = some c) {m : Nat} (hn : fn.ntmps = m) {g : Nat} (hg : args.length = g) (hl : Nat.ble g m = true)
    {res : List ResultVar} (hr : fn.results.toList = res) {l : VEnv} (he : ∀ ids, denE ids l = envOf args) (h : VJ P ⟨m, true⟩ noHp H [.code c] (bodyS P res Q) ⟨l, [], true, 0⟩) : SCall P f args H Q :=
  SCall.body hf hb hn (by rw [hg]; exact Nat.le_of_ble_eq_true hl) hr (by
    have := h (fun _ => 0) H ⟨noHp_ext H, Nat.le_refl _, fun _ => Ext.refl H, fun k cs h => by simp at h, fun k h => by simp at h, fun j k h => by simp at h⟩
    simp only [VS.ss, he] at this
    exact this)
end rules
end Go.Det
