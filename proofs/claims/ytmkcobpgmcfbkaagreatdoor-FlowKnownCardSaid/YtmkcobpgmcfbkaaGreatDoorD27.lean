import Derived.Test.YtmkcobpgmcfbkaaGreatDoorD26
set_option linter.unusedSimpArgs false
set_option linter.unusedVariables false
namespace Go.Det
open Go Go.RowKit
def Ret (R : Value → Hp → Prop) : En → Hp → Prop := fun e H' => ∃ v, e = .ret v ∧ R v H'
section rules
variable {P : Program} {Q : Ex → SS → Prop} {k k' : KK} {s s' s'' : SS} (n : Nat)
theorem SCall.start {f : FuncId} {fn : Func} {c : Code} {args : List Value} {H : Hp} {Q : En → Hp → Prop} (hf : P.funcs[f]? = some fn) (hb : fn.body = some c) {m : Nat} (hn : fn.ntmps = m) {g : Nat} (hg : args.length = g) (hl : Nat.ble g m = true)
    {res : List ResultVar} (hr : fn.results.toList = res) {l : Env} (he : envOf args = l) (h : JK P [.code c] (bodyS P res Q) { l := l, n := m, H := H, defs := [], dok := true }) : SCall P f args H Q :=
  SCall.body hf hb hn (by rw [hg]; exact Nat.le_of_ble_eq_true hl) hr (by rw [he]; exact h)
theorem JK.fn {e : Ex} (hs : Det.sym P n k s = .fin e s') (h : Q e s') : JK P k Q s := JK.sym n hs h
abbrev at_ (l : Env) (m : Nat) (H : Hp) : SS := { l := l, n := m, H := H, defs := [], dok := true }
theorem SS.eta {s : SS} {m : Nat} {H : Hp} (h1 : s.n = m) (h2 : s.H = H) (h3 : s.defs = []) (h4 : s.dok = true) (l : Env) : ({ s with l := l } : SS) = at_ l m H := by
  cases s; simp only at h1 h2 h3 h4; subst h1 h2 h3 h4; rfl
theorem JK.lp {α : Type} {c : Code} {m : Nat} (I : α → Env) (M : α → Hp) (μ : α → Nat) (ok : α → Prop) (x0 : α) (hs : Det.sym P n k s = .loop c k' s') (hm : s'.n = m) (hd : s'.defs = []) (hk : s'.dok = true) (hx : ok x0) (hl : lessB (I x0) s'.l) (hH : s'.H = M x0)
    (h : ∀ x, ok x → (∀ y, ok y → μ y < μ x → JK P (.inLoop c :: k') Q (at_ (I y) m (M y))) → JK P (.code c :: .inLoop c :: k') Q (at_ (I x) m (M x))) : JK P k Q s := by
  refine JK.sym n hs ?_
  refine JK.less (I x0) hl (.inl ⟨_, rfl⟩) ?_
  rw [SS.eta hm hH hd hk]
  exact JK.ind' (fun x => at_ (I x) m (M x)) μ ok h x0 hx
theorem JK.cl {f : FuncId} {args : List Value} {d : Option Tmp} {R : Value → Hp → Prop} (hs : Det.sym P n k s = .call f args d k' s') (hc : SCall P f args s'.H (Ret R)) (hk : ∀ v H', R v H' → ∃ s'', putS s' d v H' = some s'' ∧ JK P k' Q s'') : JK P k Q s :=
  JK.sym n hs (hc.mono fun e H' ⟨v, h1, h2⟩ => by subst h1; exact hk v H' h2)
theorem JK.hd {a : Array Oper} {m i : Nat} {o : Oper} {v : Value} {H' : Hp} (hs : Det.sym P n k s = .hard a m i k' s') (ho : a[i]? = some o) (hg : gdS a s' o = some true) (hd : notDefer o.op = true) (he : opD P s'.H (evS P s') o = some (.val v H')) (hp : putS s' o.dst v H' = some s'') (h : JK P (.ops a m (i + 1) :: k') Q s'') : JK P k Q s :=
  JK.sym n hs (JK.ops (by unfold doOp; simp only [ho, hg, hd, he, hp]) h)
theorem JK.no {a : Array Oper} {m i : Nat} {o : Oper} (hs : Det.sym P n k s = .hard a m i k' s') (ho : a[i]? = some o) (hg : gdS a s' o = some false) (hp : putS s' o.dst undef s'.H = some s'') (h : JK P (.ops a m (i + 1) :: k') Q s'') : JK P k Q s :=
  JK.sym n hs (JK.ops (by unfold doOp; simp only [ho, hg, hp]) h)
end rules
section ops
variable {P : Program} {H : Hp} {ev : Ev} {o : Oper}
theorem opD_load {t : TypeId} {x : Operand} {a v : Value} (ho : o.op = .load t x) (hx : ev x = some a) (h : loadD P H t a = some v) : opD P H ev o = some (.val v H) := by
  unfold opD; simp only [ho, hx, h]
theorem opD_store {t : TypeId} {x y : Operand} {a v : Value} {H' : Hp} (ho : o.op = .store t x y) (hx : ev x = some a) (hy : ev y = some v) (h : storeD P H t a v = some H') : opD P H ev o = some (.val undef H') := by
  unfold opD; simp only [ho, hx, hy, h]
theorem opD_append {c : Call} {s x v : Value} {H' : Hp} (ho : o.op = .call c) (hc : c.callee = .builtin .append) (ha : argsD ev c.args.toList = some [s, x]) (h : appendD P H c.argTypes s x = some (v, H')) : opD P H ev o = some (.val v H') := by
  unfold opD; simp only [ho]; unfold callD; simp only [ha, hc, h, Option.map_some]
end ops
end Go.Det
