import Derived.Test.YtmkcobpgmcfbkaaGreatDoorD25
set_option linter.unusedSimpArgs false
set_option linter.unusedVariables false
namespace Go.Det
open Go Go.RowKit
inductive KI where
  | code (c : Code)
  | inBlock (id : Nat)
  | inLoop (c : Code)
  | ops (a : Array Oper) (m i : Nat)
abbrev KK := List KI
def item (P : Program) : KI → (Ex → SS → Prop) → SS → Prop
  | .code c, Q, s => J P c Q s
  | .inBlock _, Q, s => Q .normal s
  | .inLoop c, Q, s => JI P c Q s
  | .ops a m i, Q, s => JL P a m i Q s
def QK (P : Program) : KK → (Ex → SS → Prop) → Ex → SS → Prop
  | [], Q, e, s => Q e s
  | it :: k, Q, .normal, s => item P it (QK P k Q) s
  | it :: k, Q, .exit id, s => match it with
    | .inBlock id' => if id = id' then QK P k Q .normal s else QK P k Q (.exit id) s
    | _ => QK P k Q (.exit id) s
  | _ :: _, Q, e, s => Q e s
def JK (P : Program) (k : KK) (Q : Ex → SS → Prop) (s : SS) : Prop := QK P k Q .normal s
section rules
variable {P : Program} {Q : Ex → SS → Prop} {s : SS} {k : KK}
theorem QK_ret : ∀ (k : KK) (s : SS), QK P k Q .ret s = Q .ret s
  | [], _ => rfl
  | _ :: _, _ => rfl
theorem QK_panic {v : Value} : ∀ (k : KK) (s : SS), QK P k Q (.panic v) s = Q (.panic v) s
  | [], _ => rfl
  | _ :: _, _ => rfl
theorem andS_QK {it : KI} {e : Ex} {t : SS} (hb : ∀ id, it ≠ .inBlock id) (h : QK P (it :: k) Q e t) : andS (QK P k Q) (item P it (QK P k Q)) e t := by
  cases e with
  | normal => exact h
  | exit id => cases it <;> first | exact h | exact absurd rfl (hb _)
  | ret => show QK P k Q .ret t; rw [QK_ret]; exact h
  | panic v => show QK P k Q (.panic v) t; rw [QK_panic]; exact h
theorem JK.seq {x y : Code} (h : JK P (.code x :: .code y :: k) Q s) : JK P (.code (.seq x y) :: k) Q s :=
  J.seq (J.mono h fun e t q => andS_QK (it := .code y) (by intro _ h; cases h) q)
theorem JK.block {id : Nat} {c : Code} (h : JK P (.code c :: .inBlock id :: k) Q s) : JK P (.code (.block id c) :: k) Q s :=
  J.block (J.mono h fun e t q => by
    cases e with
    | normal => exact q
    | exit id' =>
      show (if id' = id then QK P k Q .normal t else QK P k Q (.exit id') t)
      exact q
    | ret => show QK P k Q .ret t; rw [QK_ret]; exact q
    | panic v => show QK P k Q (.panic v) t; rw [QK_panic]; exact q)
theorem JK.loop {c : Code} (h : JK P (.code c :: .inLoop c :: k) Q s) : JK P (.code (.loop c) :: k) Q s :=
  J.loop (J.mono h fun e t q => andS_QK (it := .inLoop c) (by intro _ h; cases h) q)
theorem JK.round {c : Code} (h : JK P (.code c :: .inLoop c :: k) Q s) : JK P (.inLoop c :: k) Q s :=
  JI.round (J.mono h fun e t q => andS_QK (it := .inLoop c) (by intro _ h; cases h) q)
theorem JK.less (l : Env) (hl : lessB l s.l) {it : KI} (hit : (∃ c, it = .code c) ∨ ∃ c, it = .inLoop c) (h : JK P (it :: k) Q { s with l := l }) : JK P (it :: k) Q s := by
  rcases hit with ⟨c, rfl⟩ | ⟨c, rfl⟩
  · exact J.less l hl h
  · exact JI.less l hl h
theorem JK.ind {α : Type} {c : Code} (I : α → SS) (μ : α → Nat) (ok : α → Prop) (h : ∀ x, ok x → (∀ y, ok y → μ y < μ x → JK P (.inLoop c :: k) Q (I y)) → JK P (.code c :: .inLoop c :: k) Q (I x)) : ∀ x, ok x → JK P (.inLoop c :: k) Q (I x) := by
  have key : ∀ n x, ok x → μ x = n → JK P (.inLoop c :: k) Q (I x) := by
    intro n
    induction n using Nat.strongRecOn with
    | _ n ih => intro x hok hx; exact JK.round (h x hok fun y hy hlt => ih _ (by omega) y hy rfl)
  exact fun x hx => key _ x hx rfl
theorem JK.ind' {α : Type} {c : Code} (I : α → SS) (μ : α → Nat) (ok : α → Prop) (h : ∀ x, ok x → (∀ y, ok y → μ y < μ x → JK P (.inLoop c :: k) Q (I y)) → JK P (.code c :: .inLoop c :: k) Q (I x)) (x : α) (hx : ok x) : JK P (.code (.loop c) :: k) Q (I x) :=
  JK.loop (h x hx fun y hy _ => JK.ind I μ ok h y hy)
theorem JK.cond {c : Operand} {x y : Code} {t : Bool} (hc : evS P s c = some (.bool t)) (h1 : t = true → JK P (.code x :: k) Q s) (h2 : t = false → JK P (.code y :: k) Q s) : JK P (.code (.cond c x y) :: k) Q s := J.cond2 hc h1 h2
theorem JK.ops {a : Array Oper} {i m : Nat} {s' : SS} (h : doOp P a i s = some (.val s')) (hk : JK P (.ops a m (i + 1) :: k) Q s') : JK P (.ops a (m + 1) i :: k) Q s := JL.val h hk
theorem JK.call {a : Array Oper} {i m : Nat} {f : FuncId} {args : List Value} {d : Option Tmp} (h : doOp P a i s = some (.call f args d))
    (hk : SCall P f args s.H fun
      | .ret v, H' => ∃ s', putS s d v H' = some s' ∧ JK P (.ops a m (i + 1) :: k) Q s'
      | .panic v, H' => Q (.panic v) { s with H := H' }) : JK P (.ops a (m + 1) i :: k) Q s :=
  JL.call h (hk.mono fun e H' q => by
    cases e with
    | ret v => exact q
    | panic v => show QK P k Q (.panic v) _; rw [QK_panic]; exact q)
end rules
inductive Ease where
  | easy | cmp | hard
def ease (P : Program) (o : Oper) : Ease := match o.op with
  | .move _ | .assign _ | .pick .. | .alloc _ | .box .. | .build .. | .buildSlice .. | .nilCheck _ | .makeInterface .. | .makeFunc .. | .fieldAddr .. | .field .. | .typeAssert .. | .extract .. | .range .. => .easy
  | .binOp op t _ _ _ => match op with
    | .eql | .neq | .lss | .leq | .gtr | .geq => .cmp
    | .quo | .rem | .shl | .shr => .hard
    | _ => match P.underlying t with
      | some (.int _) => .easy
      | _ => .hard
  | .unOp .. => .easy
  | .call c => match c.callee with
    | .value _ => .easy
    | .builtin .len => .easy
    | _ => .hard
  | _ => .hard
inductive Out where
  /-- All is done. -/
  | fin (e : Ex) (s : SS)
  | loop (c : Code) (k : KK) (s : SS)
  | again (c : Code) (k : KK) (s : SS)
  | call (f : FuncId) (args : List Value) (d : Option Tmp) (k : KK) (s : SS)
  | hard (a : Array Oper) (m i : Nat) (k : KK) (s : SS)
  | cmp (a : Array Oper) (m i : Nat) (k : KK) (s : SS)
  | draw (id : Nat) (a : Array Oper) (k : KK) (s : SS)
  | stuck
  | go (k : KK) (s : SS)
def unwS : Nat → KK → Option KK
  | _, [] => none
  | id, .inBlock id' :: k => match Nat.beq id id' with | true => some k | false => unwS id k
  | id, .code _ :: k => unwS id k
  | id, .inLoop _ :: k => unwS id k
  | id, .ops .. :: k => unwS id k
def symStep (P : Program) (k : KK) (s : SS) : Out :=
  match k with
  | [] => .fin .normal s
  | .inBlock _ :: k => .go k s
  | .inLoop c :: k => .again c k s
  | .ops a 0 i :: k => .go k s
  | .ops a (m + 1) i :: k =>
    match a[i]? with
    | none => .stuck
    | some o =>
      match gdS a s o with
      | none => .stuck
      | some false => match putS s o.dst undef s.H with
        | some s' => .go (.ops a m (i + 1) :: k) s'
        | none => .stuck
      | some true =>
        match ease P o with
        | .hard => .hard a m i k s
        | .cmp => .cmp a m i k s
        | .easy =>
          match opD P s.H (evS P s) o with
          | some (.val v H') => match notDefer o.op with
            | true => match putS s o.dst v H' with
              | some s' => .go (.ops a m (i + 1) :: k) s'
              | none => .stuck
            | false => .stuck
          | some (.enter f args) => match notDefer o.op with
            | true => match putS s o.dst undef s.H with
              | some _ => .call f args o.dst (.ops a m (i + 1) :: k) s
              | none => .stuck
            | false => .stuck
          | _ => .stuck
  | .code c :: k =>
    match c with
    | .skip => .go k s
    | .label _ => .go k s
    | .exit id => match unwS id k with
      | some k' => .go k' s
      | none => .fin (.exit id) s
    | .ret => .fin .ret s
    | .seq x y => .go (.code x :: .code y :: k) s
    | .block id c => .go (.code c :: .inBlock id :: k) s
    | .cond c x y => match evS P s c with
      | some (.bool true) => .go (.code x :: k) s
      | some (.bool false) => .go (.code y :: k) s
      | _ => .stuck
    | .loop c => .loop c k s
    | .region _ a false => .go (.ops a a.size 0 :: k) s
    | .region id a true => .draw id a k s
    | _ => .stuck
def sym (P : Program) : Nat → KK → SS → Out
  | 0, k, s => .go k s
  | n + 1, k, s => match symStep P k s with
    | .go k' s' => sym P n k' s'
    | o => o
def Out.ok (P : Program) (Q : Ex → SS → Prop) : Out → Prop
  | .fin e s => Q e s
  | .loop c k s => JK P (.code (.loop c) :: k) Q s
  | .again c k s => JK P (.inLoop c :: k) Q s
  | .call f args d k s => SCall P f args s.H fun
      | .ret v, H' => ∃ s', putS s d v H' = some s' ∧ JK P k Q s'
      | .panic v, H' => Q (.panic v) { s with H := H' }
  | .hard a m i k s => JK P (.ops a (m + 1) i :: k) Q s
  | .cmp a m i k s => JK P (.ops a (m + 1) i :: k) Q s
  | .draw id a k s => JK P (.code (.region id a true) :: k) Q s
  | .go k s => JK P k Q s
  | .stuck => False
section rules
variable {P : Program} {Q : Ex → SS → Prop}
theorem QK_exit {id : Nat} {s : SS} : ∀ {k : KK}, (match unwS id k with | some k' => JK P k' Q s | none => Q (.exit id) s) → QK P k Q (.exit id) s
  | [], h => h
  | .inBlock id' :: k, h => by
    show (if id = id' then QK P k Q .normal s else QK P k Q (.exit id) s)
    unfold unwS at h
    cases hb : Nat.beq id id' with
    | true => rw [hb] at h; rw [if_pos (Nat.eq_of_beq_eq_true hb)]; exact h
    | false => rw [hb] at h; rw [if_neg (Nat.ne_of_beq_eq_false hb)]; exact QK_exit h
  | .code _ :: k, h => QK_exit (k := k) h
  | .inLoop _ :: k, h => QK_exit (k := k) h
  | .ops .. :: k, h => QK_exit (k := k) h
theorem symStep_ok {k : KK} {s : SS} (h : (symStep P k s).ok P Q) : JK P k Q s := by
  unfold symStep at h
  split at h
  · exact h
  · exact h
  · exact h
  · exact JL.nil h
  · split at h
    · exact h.elim
    · rename_i o ho
      split at h
      · exact h.elim
      · rename_i hg
        split at h
        · rename_i hp
          exact JK.ops (by unfold doOp; simp only [ho, hg, hp]) h
        · exact h.elim
      · rename_i hg
        split at h
        · exact h
        · exact h
        · split at h
          · rename_i he
            split at h
            · rename_i hd
              split at h
              · rename_i hp
                exact JK.ops (by unfold doOp; simp only [ho, hg, hd, he, hp]) h
              · exact h.elim
            · exact h.elim
          · rename_i he
            split at h
            · rename_i hd
              split at h
              · rename_i hp
                exact JK.call (by unfold doOp; simp only [ho, hg, hd, he, hp]) h
              · exact h.elim
            · exact h.elim
          · exact h.elim
  · split at h
    · exact J.skip h
    · exact J.label h
    · rename_i id
      refine J.exit (QK_exit ?_)
      split at h <;> exact h
    · refine J.ret ?_
      show QK P _ Q .ret s
      rw [QK_ret]; exact h
    · exact JK.seq h
    · exact JK.block h
    · split at h
      · rename_i hc; exact JK.cond hc (fun _ => h) (fun q => by cases q)
      · rename_i hc; exact JK.cond hc (fun q => by cases q) (fun _ => h)
      · exact h.elim
    · exact h
    · exact J.region rfl h
    · exact h
    · exact h.elim
theorem sym_ok : ∀ (n : Nat) {k : KK} {s : SS}, (sym P n k s).ok P Q → JK P k Q s
  | 0, _, _, h => h
  | n + 1, k, s, h => by
    unfold sym at h
    split at h
    · rename_i k' s' hs
      exact symStep_ok (by rw [hs]; exact sym_ok n h)
    · exact symStep_ok h
theorem SCall.sym (n : Nat) {f : FuncId} {fn : Func} {c : Code} {args : List Value} {H : Hp} {Q : En → Hp → Prop} (hf : P.funcs[f]? = some fn) (hb : fn.body = some c) {m : Nat} (hn : fn.ntmps = m) (hl : Nat.ble args.length m = true)
    {res : List ResultVar} (hr : fn.results.toList = res) {o : Out} (ho : Det.sym P n [.code c] { l := envOf args, n := m, H := H, defs := [], dok := true } = o) (h : o.ok P (bodyS P res Q)) : SCall P f args H Q :=
  SCall.body hf hb hn (Nat.le_of_ble_eq_true hl) hr (sym_ok n (k := [.code c]) (by rw [ho]; exact h))
theorem JK.sym (n : Nat) {k : KK} {s : SS} {o : Out} (ho : Det.sym P n k s = o) (h : o.ok P Q) : JK P k Q s := sym_ok n (by rw [ho]; exact h)
end rules
end Go.Det
