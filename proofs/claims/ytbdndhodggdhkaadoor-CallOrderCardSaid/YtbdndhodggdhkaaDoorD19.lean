import Derived.Test.YtbdndhodggdhkaaDoorDb
import Derived.ProofKit
import Derived.SizedLaws
import Derived.ChangeArms
import Derived.ChangeOld
import Derived.Carry
import Derived.JoinedOf
import Derived.OpenShut
import Derived.WalkKit
set_option linter.unusedSimpArgs false
set_option linter.unusedVariables false
namespace Go.Det
open Go Go.RowKit

/-! ## 14. States with a row of slots: for proofs by hand -/
abbrev Env := List (Nat × Value)
def look : Env → Nat → Option Value
  | [], _ => none
  | (t, v) :: r, u => if u = t then some v else look r u

structure SS where
  l : Env
  n : Nat
  H : Hp
  defs : List (Value × List Value)
  dok : Bool
def SS.st (s : SS) : St := { env := look s.l, n := s.n, H := s.H, defs := s.defs, dok := s.dok }

def evS (P : Program) (s : SS) : Ev
  | .tmp t => look s.l t
  | .const v => if flat v then some v else none
  | .global g => if g < P.globals.size then some (.pointer (some ⟨g, 0, none⟩)) else none
  | .func f => some (.func (.func f) ⟨[]⟩ ⟨[]⟩)
theorem evS_eq (P : Program) (s : SS) : evOf P s.st = evS P s := by funext x; cases x <;> rfl

def putS (s : SS) (d : Option Tmp) (v : Value) (H : Hp) : Option SS :=
  match s, d with
  | ⟨l, n, _, defs, dok⟩, none => some ⟨l, n, H, defs, dok⟩
  | ⟨l, n, _, defs, dok⟩, some t => match Nat.blt t n with
    | true => some ⟨(t, v) :: l, n, H, defs, dok⟩
    | false => none

theorem putS_ok {s s' : SS} {d : Option Tmp} {v : Value} {H : Hp} (h : putS s d v H = some s') : s'.st = (s.st.at_ H).put d v ∧ s.st.fits d := by
  obtain ⟨l, n, H0, defs, dok⟩ := s
  cases d with
  | none =>
    simp only [putS, Option.some.injEq] at h
    subst h; exact ⟨rfl, fun t k => by cases k⟩
  | some t =>
    simp only [putS] at h
    split at h
    · rename_i hb
      cases h
      refine ⟨rfl, fun u k => ?_⟩
      cases k
      rw [Nat.blt_eq] at hb
      exact hb
    · cases h

def gdS (ops : Array Oper) (s : SS) (o : Oper) : Option Bool :=
  match o.guard with
  | none => some true
  | some (j, want) =>
    match ops[j]? with
    | some oj =>
      match oj.dst with
      | some t =>
        match look s.l t with
        | some (.bool b) => some (b == want)
        | some (.tuple ⟨[]⟩) => some false
        | _ => none
      | none => none
    | none => none
theorem gdS_eq (ops : Array Oper) (s : SS) (o : Oper) : gd ops s.st o = gdS ops s o := by
  unfold gd gdS
  cases o.guard with
  | none => rfl
  | some q =>
    obtain ⟨j, want⟩ := q
    simp only
    cases ops[j]? with
    | none => rfl
    | some oj => cases oj.dst <;> rfl

/-- What comes of one operation. -/
inductive OR where
  | val (s : SS)
  | call (f : FuncId) (args : List Value) (d : Option Tmp)
  | panic (v : Value)

def doOp (P : Program) (ops : Array Oper) (i : Nat) (s : SS) : Option OR :=
  match ops[i]? with
  | none => none
  | some o =>
    match gdS ops s o with
    | none => none
    | some false => match putS s o.dst undef s.H with
      | some s' => some (.val s')
      | none => none
    | some true =>
      match notDefer o.op with
      | false => none
      | true =>
        match opD P s.H (evS P s) o with
        | some (.val v H') => match putS s o.dst v H' with
          | some s' => some (.val s')
          | none => none
        | some (.enter f args) => match putS s o.dst undef s.H with
          | some _ => some (.call f args o.dst)
          | none => none
        | some (.panic v) => some (.panic v)
        | _ => none

theorem doOp_val {P : Program} {ops : Array Oper} {i : Nat} {s s' : SS} (h : doOp P ops i s = some (.val s')) : OpFact P ops i s.st s'.st := by
  unfold doOp at h
  split at h
  · cases h
  · rename_i o ho
    split at h
    · cases h
    · rename_i hg
      split at h
      · rename_i q hq
        cases h
        obtain ⟨h1, h2⟩ := putS_ok hq
        rw [h1]
        exact .skip ho (by rw [gdS_eq]; exact hg) h2
      · cases h
    · rename_i hg
      split at h
      · cases h
      · rename_i hd
        split at h
        · rename_i v H' he
          split at h
          · rename_i q hq
            cases h
            obtain ⟨h1, h2⟩ := putS_ok hq
            rw [h1]
            exact .val ho (by rw [gdS_eq]; exact hg) hd (by rw [evS_eq]; exact he) h2
          · cases h
        · split at h <;> cases h
        · cases h
        · cases h

/-- An operation that calls. -/
theorem doOp_call {P : Program} {ops : Array Oper} {i : Nat} {s : SS} {f : FuncId} {args : List Value} {d : Option Tmp} (h : doOp P ops i s = some (.call f args d)) :
    ∃ o, ops[i]? = some o ∧ gd ops s.st o = some true ∧ notDefer o.op = true ∧ opD P s.st.H (evOf P s.st) o = some (.enter f args) ∧ s.st.fits o.dst ∧ o.dst = d := by
  unfold doOp at h
  split at h
  · cases h
  · rename_i o ho
    split at h
    · cases h
    · split at h <;> cases h
    · rename_i hg
      split at h
      · cases h
      · rename_i hd
        split at h
        · split at h <;> cases h
        · rename_i g args' he
          split at h
          · rename_i q hq
            cases h
            obtain ⟨h1, h2⟩ := putS_ok hq
            exact ⟨o, ho, by rw [gdS_eq]; exact hg, hd, by rw [evS_eq]; exact he, h2, rfl⟩
          · cases h
        · cases h
        · cases h

theorem doOp_panic {P : Program} {ops : Array Oper} {i : Nat} {s : SS} {v : Value} (h : doOp P ops i s = some (.panic v)) :
    ∃ o, ops[i]? = some o ∧ gd ops s.st o = some true ∧ notDefer o.op = true ∧ opD P s.st.H (evOf P s.st) o = some (.panic v) := by
  unfold doOp at h
  split at h
  · cases h
  · rename_i o ho
    split at h
    · cases h
    · split at h <;> cases h
    · rename_i hg
      split at h
      · cases h
      · rename_i hd
        split at h
        · split at h <;> cases h
        · split at h <;> cases h
        · rename_i w he; cases h
          exact ⟨o, ho, by rw [gdS_eq]; exact hg, hd, by rw [evS_eq]; exact he⟩
        · cases h

/-- Judgements: code, and the operations of a region from one on. -/
def J (P : Program) (c : Code) (Q : Ex → SS → Prop) (s : SS) : Prop := SC P c (fun e t => ∃ s', s'.st = t ∧ Q e s') s.st
def JL (P : Program) (ops : Array Oper) (k i : Nat) (Q : Ex → SS → Prop) (s : SS) : Prop := SL P ops (List.range' i k) (fun e t => ∃ s', s'.st = t ∧ Q e s') s.st
def JI (P : Program) (c : Code) (Q : Ex → SS → Prop) (s : SS) : Prop := SI P (.inLoop c) (fun e t => ∃ s', s'.st = t ∧ Q e s') s.st
def JD (P : Program) (ops : Array Oper) (fl : Bool) (s0 : SS) (k i : Nat) (Q : SS → Prop) (s : SS) : Prop := SD P ops fl s0.st k i (fun t => ∃ s', s'.st = t ∧ Q s') s.st

def andS (Q : Ex → SS → Prop) (K : SS → Prop) : Ex → SS → Prop
  | .normal, s => K s
  | e, s => Q e s
def blockS (id : Nat) (Q : Ex → SS → Prop) : Ex → SS → Prop
  | .exit id', s => if id' = id then Q .normal s else Q (.exit id') s
  | e, s => Q e s

section rules
variable {P : Program} {Q : Ex → SS → Prop} {s s' : SS} {ops : Array Oper} {i k : Nat}

theorem J.mono {c : Code} {Q' : Ex → SS → Prop} (h : J P c Q s) (hq : ∀ e s, Q e s → Q' e s) : J P c Q' s := SI.mono h fun e t ⟨s', h1, h2⟩ => ⟨s', h1, hq _ _ h2⟩
theorem J.seq {x y : Code} (h : J P x (andS Q (J P y Q)) s) : J P (.seq x y) Q s :=
  SC.seq (SI.mono h fun e t ⟨s', h1, h2⟩ => by subst h1; cases e <;> first | exact h2 | exact ⟨s', rfl, h2⟩)
theorem J.skip (h : Q .normal s) : J P .skip Q s := SC.skip ⟨s, rfl, h⟩
theorem J.label {l : Nat} (h : Q .normal s) : J P (.label l) Q s := SC.label ⟨s, rfl, h⟩
theorem J.exit {id : Nat} (h : Q (.exit id) s) : J P (.exit id) Q s := SC.exit ⟨s, rfl, h⟩
theorem J.ret (h : Q .ret s) : J P .ret Q s := SC.ret ⟨s, rfl, h⟩
theorem J.block {id : Nat} {c : Code} (h : J P c (blockS id Q) s) : J P (.block id c) Q s :=
  SC.block (SI.mono h fun e t ⟨s', h1, h2⟩ => by
    subst h1
    cases e with
    | exit id' =>
      simp only [blockS, inBlock] at h2 ⊢
      split <;> rename_i hi
      · rw [if_pos hi] at h2; exact ⟨s', rfl, h2⟩
      · rw [if_neg hi] at h2; exact ⟨s', rfl, h2⟩
    | _ => exact ⟨s', rfl, h2⟩)
theorem J.cond {c : Operand} {x y : Code} {t : Bool} (hc : evS P s c = some (.bool t)) (h : J P (if t then x else y) Q s) : J P (.cond c x y) Q s :=
  SC.cond (by rw [evS_eq]; exact hc) h
theorem J.cond2 {c : Operand} {x y : Code} {t : Bool} (hc : evS P s c = some (.bool t)) (h1 : t = true → J P x Q s) (h2 : t = false → J P y Q s) : J P (.cond c x y) Q s := by
  refine J.cond hc ?_
  cases t
  · exact h2 rfl
  · exact h1 rfl
theorem J.region {id : Nat} {m : Nat} (hm : ops.size = m) (h : JL P ops m 0 Q s) : J P (.region id ops false) Q s := by
  refine SC.region ?_
  rw [List.range_eq_range', hm]; exact h
theorem JL.nil (h : Q .normal s) : JL P ops 0 i Q s := SL.nil ⟨s, rfl, h⟩
theorem JL.val (h : doOp P ops i s = some (.val s')) (hk : JL P ops k (i + 1) Q s') : JL P ops (k + 1) i Q s := SL.step (doOp_val h).step hk
theorem JL.call {f : FuncId} {args : List Value} {d : Option Tmp} (h : doOp P ops i s = some (.call f args d))
    (hk : SCall P f args s.H fun
      | .ret v, H' => ∃ s', putS s d v H' = some s' ∧ JL P ops k (i + 1) Q s'
      | .panic v, H' => Q (.panic v) { s with H := H' }) : JL P ops (k + 1) i Q s := by
  obtain ⟨o, ho, hg, hd, he, hf, rfl⟩ := doOp_call h
  refine SL.call ho hg hd he hf (hk.mono fun e H' q => ?_)
  cases e with
  | ret v =>
    obtain ⟨s', h1, h2⟩ := q
    obtain ⟨h3, _⟩ := putS_ok h1
    show SL _ _ _ _ ((s.st.at_ H').put o.dst v)
    rw [← h3]; exact h2
  | panic v => exact ⟨_, rfl, q⟩
theorem JL.panic {v : Value} (h : doOp P ops i s = some (.panic v)) (hk : Q (.panic v) s) : JL P ops (k + 1) i Q s := by
  obtain ⟨o, ho, hg, hd, he⟩ := doOp_panic h
  exact SL.panic ho hg hd he ⟨s, rfl, hk⟩

/-- Several operations at once. -/
def runOps (P : Program) (ops : Array Oper) : Nat → Nat → SS → Option SS
  | 0, _, s => some s
  | m + 1, i, s => match doOp P ops i s with
    | some (.val s') => runOps P ops m (i + 1) s'
    | _ => none
theorem JL.run : ∀ {m i k : Nat} {s s' : SS}, runOps P ops m i s = some s' → JL P ops k (i + m) Q s' → JL P ops (k + m) i Q s
  | 0, i, k, s, s', h, hk => by simp only [runOps, Option.some.injEq] at h; subst h; exact hk
  | m + 1, i, k, s, s', h, hk => by
    simp only [runOps] at h
    split at h
    · rename_i s1 h1
      have := JL.run (k := k) h (by rw [show i + 1 + m = i + (m + 1) by omega]; exact hk)
      exact JL.val h1 this
    · cases h

theorem J.loop {c : Code} (h : J P c (andS Q (JI P c Q)) s) : J P (.loop c) Q s :=
  SC.loop (SI.mono h fun e t ⟨s', h1, h2⟩ => by subst h1; cases e <;> first | exact h2 | exact ⟨s', rfl, h2⟩)
theorem JI.round {c : Code} (h : J P c (andS Q (JI P c Q)) s) : JI P c Q s :=
  SI.loop (SI.mono h fun e t ⟨s', h1, h2⟩ => by subst h1; cases e <;> first | exact h2 | exact ⟨s', rfl, h2⟩)

/-- Slots are forgotten. -/
def Less (l l' : Env) : Prop := ∀ t v, look l t = some v → look l' t = some v
def lessB : Env → Env → Prop
  | [], _ => True
  | (t, v) :: r, l' => look l' t = some v ∧ lessB r l'
theorem lessB_ok : ∀ {l l' : Env}, lessB l l' → Less l l'
  | [], _, _, _, _, h => by cases h
  | (t, v) :: r, l', h, u, w, hw => by
    simp only [look] at hw
    split at hw
    · rename_i e; cases hw; rw [e]; exact h.1
    · exact lessB_ok h.2 u w hw
theorem less_st {l : Env} (h : lessB l s.l) : ({ s with l := l } : SS).st.le s.st := ⟨fun x v e => lessB_ok h x v e, rfl, rfl, rfl, rfl⟩
theorem J.less {c : Code} (l : Env) (hl : lessB l s.l) (h : J P c Q { s with l := l }) : J P c Q s := SI.le (less_st hl) h
theorem JI.less {c : Code} (l : Env) (hl : lessB l s.l) (h : JI P c Q { s with l := l }) : JI P c Q s := SI.le (less_st hl) h

/-- A loop: a relation with a measure. -/
theorem JI.ind {α : Type} {c : Code} (I : α → SS) (μ : α → Nat) (h : ∀ x, (∀ y, μ y < μ x → JI P c Q (I y)) → J P c (andS Q (JI P c Q)) (I x)) : ∀ x, JI P c Q (I x) := by
  have key : ∀ n x, μ x = n → JI P c Q (I x) := by
    intro n
    induction n using Nat.strongRecOn with
    | _ n ih => intro x hx; exact JI.round (h x fun y hy => ih _ (by omega) y rfl)
  exact fun x => key _ x rfl

theorem JD.nil {fl : Bool} {s0 : SS} {Q : SS → Prop} (h : Q s) : JD P ops fl s0 0 i Q s := SD.nil ⟨s, rfl, h⟩
theorem JD.val {fl : Bool} {s0 : SS} {Q : SS → Prop} (h : doOp P ops i s = some (.val s')) (hs : side P ops fl s0.st i s.st) (hk : JD P ops fl s0 k (i + 1) Q s') : JD P ops fl s0 (k + 1) i Q s :=
  SD.cons (doOp_val h) hs hk
theorem JD.call {fl : Bool} {s0 : SS} {Q : SS → Prop} {f : FuncId} {args : List Value} {d : Option Tmp} (h : doOp P ops i s = some (.call f args d)) (hs : side P ops fl s0.st i s.st)
    (hk : SCall P f args s.H fun
      | .ret v, H' => ∃ s', putS s d v H' = some s' ∧ JD P ops fl s0 k (i + 1) Q s'
      | .panic _, _ => False) : JD P ops fl s0 (k + 1) i Q s := by
  obtain ⟨o, ho, hg, hd, he, hf, rfl⟩ := doOp_call h
  refine SD.call ho hg hd he hf hs (hk.mono fun e H' q => ?_)
  cases e with
  | ret v =>
    obtain ⟨s', h1, h2⟩ := q
    obtain ⟨h3, _⟩ := putS_ok h1
    show SD _ _ _ _ _ _ _ ((s.st.at_ H').put o.dst v)
    rw [← h3]; exact h2
  | panic v => exact q
theorem side_false {s0 : SS} {j : Nat} {t : St} : side P ops false s0.st j t := fun h => by cases h
theorem JD.run {s0 : SS} {Q : SS → Prop} : ∀ {m i k : Nat} {s s' : SS}, runOps P ops m i s = some s' → JD P ops false s0 k (i + m) Q s' → JD P ops false s0 (k + m) i Q s
  | 0, i, k, s, s', h, hk => by simp only [runOps, Option.some.injEq] at h; subst h; exact hk
  | m + 1, i, k, s, s', h, hk => by
    simp only [runOps] at h
    split at h
    · rename_i s1 h1
      have := JD.run (k := k) (s0 := s0) h (by rw [show i + 1 + m = i + (m + 1) by omega]; exact hk)
      exact JD.val h1 side_false this
    · cases h
theorem J.draw {id : Nat} {fl : Bool} {m : Nat} (hmix : P.follows .mixedOrders = true) (hm : ops.size = m) (hok : okDraw P ops = true) (hfl : ((List.range ops.size).any fun i => floating P ops (masks ops.toList []) i) = fl)
    (h : JD P ops fl s m 0 (fun s' => (fl = true → Ext s.H s'.H) ∧ Q .normal s') s) : J P (.region id ops true) Q s := by
  refine SC.regionDraw hmix hok hfl ?_
  rw [hm]
  obtain ⟨f, h1, h2, s', h3, h4, h5⟩ := h
  exact ⟨f, h1, h2, by rw [← h3]; exact h4, s', h3, h5⟩
end rules

/-! Calls -/
def envOf (args : List Value) : Env := (args.zipIdx).map fun x => (x.2, x.1)
def resS (P : Program) (s : SS) : ResultVar → Option Value
  | .tmp t => look s.l t
  | .cell a t => match look s.l a with
    | some v => loadD P s.H t v
    | none => none
def ressS (P : Program) (s : SS) : List ResultVar → Option (List Value)
  | [] => some []
  | r :: l => match resS P s r, ressS P s l with
    | some v, some vs => some (v :: vs)
    | _, _ => none
theorem ressS_eq (P : Program) (s : SS) : ∀ l, ressD P s.st l = ressS P s l
  | [] => rfl
  | r :: l => by
    have : resD P s.st r = resS P s r := by cases r <;> rfl
    simp only [ressD, ressS, this, ressS_eq P s l]
    cases resS P s r <;> cases ressS P s l <;> rfl

def bodyS (P : Program) (res : List ResultVar) (Q : En → Hp → Prop) : Ex → SS → Prop
  | .normal, s | .ret, s => s.defs = [] ∧ ∃ vs, ressS P s res = some vs ∧ Q (.ret (oneD vs)) s.H
  | .panic v, s => s.defs = [] ∧ Q (.panic v) s.H
  | _, _ => False

theorem look_envOf : ∀ (args : List Value) (k t : Nat), look ((args.zipIdx k).map fun x => (x.2, x.1)) t = if k ≤ t then args[t - k]? else none
  | [], k, t => by simp [look]
  | v :: args, k, t => by
    simp only [List.zipIdx_cons, List.map_cons, look]
    by_cases h : t = k
    · subst h; simp
    · rw [if_neg h, look_envOf args (k + 1) t]
      by_cases h1 : k ≤ t
      · rw [if_pos h1, if_pos (by omega), show t - k = (t - (k + 1)) + 1 by omega]; simp
      · rw [if_neg h1, if_neg (by omega)]

theorem SCall.body {P : Program} {f : FuncId} {fn : Func} {c : Code} {args : List Value} {H : Hp} {Q : En → Hp → Prop} (hf : P.funcs[f]? = some fn) (hb : fn.body = some c) {n : Nat} (hn : fn.ntmps = n) (hl : args.length ≤ n)
    {res : List ResultVar} (hr : fn.results.toList = res) (h : J P c (bodyS P res Q) { l := envOf args, n := n, H := H, defs := [], dok := true }) : SCall P f args H Q := by
  subst hn hr
  refine SCall.of hf hb hl ?_
  have e : ({ l := envOf args, n := fn.ntmps, H := H, defs := [], dok := true } : SS).st = init fn.ntmps args H := by
    simp only [SS.st, init]
    congr 1
    funext t
    simp only [envOf, initEnv]
    rw [look_envOf]; simp
  rw [← e]
  refine SI.mono h fun ex t ⟨s', h1, h2⟩ => ?_
  subst h1
  cases ex with
  | exit id => exact h2.elim
  | normal => obtain ⟨a, vs, b, d⟩ := h2; exact ⟨a, vs, by rw [ressS_eq]; exact b, d⟩
  | ret => obtain ⟨a, vs, b, d⟩ := h2; exact ⟨a, vs, by rw [ressS_eq]; exact b, d⟩
  | panic v => exact h2

end Go.Det

set_option linter.unusedSimpArgs false
set_option linter.unusedVariables false
namespace Go.Det
open Go Go.RowKit

/-! ## 15. What is not touched -/
structure LoX (H H' : Hp) : Prop where
  lo : H'.lo ≤ H.lo
  next : H.next ≤ H'.next
  get : ∀ b, b < H.next → b < H'.lo → H'.get b = H.get b
theorem LoX.refl (H : Hp) : LoX H H := ⟨Nat.le_refl _, Nat.le_refl _, fun _ _ _ => rfl⟩
theorem LoX.trans {A B C : Hp} (h : LoX A B) (k : LoX B C) : LoX A C :=
  ⟨Nat.le_trans k.lo h.lo, Nat.le_trans h.next k.next, fun b h1 h2 => (k.get b (Nat.lt_of_lt_of_le h1 h.next) h2).trans (h.get b h1 (Nat.lt_of_lt_of_le h2 k.lo))⟩
theorem LoX.alloc (H : Hp) (x : Blk) : LoX H (H.alloc x) :=
  ⟨Nat.le_refl _, Nat.le_succ _, fun b h1 _ => by rw [Hp.get_alloc, if_neg (by omega)]⟩
theorem LoX.put (H : Hp) (b : Nat) (x : Blk) : LoX H (H.put b x) :=
  ⟨Nat.min_le_left _ _, Nat.le_refl _, fun c h1 h2 => by
    have h3 : c < min H.lo b := h2
    rw [Hp.get_put, if_neg (by omega)]⟩
theorem LoX.kill (H : Hp) (b : Nat) : LoX H (H.kill b) :=
  ⟨Nat.min_le_left _ _, Nat.le_refl _, fun c h1 h2 => by
    have h3 : c < min H.lo b := h2
    rw [Hp.get_kill, if_neg (by omega)]⟩
theorem LoX.ext {H H' : Hp} (h : LoX H H') (hl : H.next ≤ H'.lo) : Ext H H' := ⟨h.next, fun b hb => h.get b hb (Nat.lt_of_lt_of_le hb hl)⟩

theorem convD_lox {P : Program} {H H' : Hp} {s d : TypeId} {x v : Value} (e : convD P H s d x = some (v, H')) : LoX H H' := by
  unfold convD at e
  repeat' split at e
  all_goals first | (cases e; done) | (cases e; first | exact LoX.refl _ | exact LoX.alloc _ _)
theorem storeD_lox {P : Program} {H H' : Hp} {t : TypeId} {a v : Value} (e : storeD P H t a v = some H') : LoX H H' := by
  unfold storeD at e
  repeat' split at e
  all_goals first | (cases e; done) | (cases e; exact LoX.put _ _ _)
theorem buildSliceD_lox {P : Program} {H H' : Hp} {t : TypeId} {n : Nat} {l : List (Nat × Value)} {v : Value} (e : buildSliceD P H t n l = some (v, H')) : LoX H H' := by
  unfold buildSliceD at e
  repeat' split at e
  all_goals first | (cases e; done) | (cases e; exact LoX.alloc _ _)
theorem makeSliceD_lox {P : Program} {H H' : Hp} {t : TypeId} {l c v : Value} (e : makeSliceD P H t l c = some (v, H')) : LoX H H' := by
  unfold makeSliceD at e
  repeat' split at e
  all_goals first | (cases e; done) | (cases e; exact LoX.alloc _ _)
theorem appendZD_lox {P : Program} {H H' : Hp} {el : TypeId} {s x v : Value} (e : appendZD P H el s x = some (v, H')) : LoX H H' := by
  unfold appendZD at e
  repeat' split at e
  all_goals first | (cases e; done) | (cases e; exact LoX.alloc _ _)
theorem appendD_lox {P : Program} {H H' : Hp} {a : Array TypeId} {s x v : Value} (e : appendD P H a s x = some (v, H')) : LoX H H' := by
  unfold appendD at e
  repeat' split at e
  all_goals first
    | exact appendZD_lox e
    | (cases e; done)
    | (cases e; first | exact LoX.refl _ | exact LoX.alloc _ _ | exact LoX.put _ _ _ | exact (LoX.kill _ _).trans (LoX.alloc _ _))
theorem copyD_lox {P : Program} {H H' : Hp} {a : Array TypeId} {s x v : Value} (e : copyD P H a s x = some (v, H')) : LoX H H' := by
  unfold copyD at e
  repeat' split at e
  all_goals first
    | (cases e; done)
    | (cases e; first | exact LoX.refl _ | exact LoX.alloc _ _ | exact LoX.put _ _ _)
theorem nextD_lox {H H' : Hp} {x v : Value} (e : nextD H x = some (v, H')) : LoX H H' := by
  unfold nextD at e
  repeat' split at e
  all_goals first
    | (cases e; done)
    | (cases e; first | exact LoX.refl _ | exact LoX.alloc _ _ | exact LoX.put _ _ _)

theorem mapUpdateD_lox {P : Program} {H H' : Hp} {t : TypeId} {m k v : Value} (e : mapUpdateD P H t m k v = some H') : LoX H H' := by
  unfold mapUpdateD at e
  repeat' split at e
  all_goals first | (cases e; done) | (cases e; exact LoX.put _ _ _)
theorem clearD_lox {P : Program} {H H' : Hp} {a : Array TypeId} {x : Value} (e : clearD P H a x = some H') : LoX H H' := by
  unfold clearD at e
  repeat' split at e
  all_goals first | (cases e; done) | (cases e; first | exact LoX.refl _ | exact LoX.put _ _ _)
theorem callD_lox {P : Program} {H H' : Hp} {ev : Ev} {o : Oper} {c : Call} {v : Value} (e : callD P H ev o c = some (.val v H')) : LoX H H' := by
  unfold callD at e
  have en : ∀ {f : FuncId} {args : List Value}, enterD P f args = some (.val v H') → False := by
    intro f args h
    unfold enterD at h
    split at h
    · split at h <;> cases h
    · cases h
  have mp : ∀ {q : Option (Value × Hp)}, (q.map fun (v, H') => Res.val v H') = some (.val v H') → q = some (v, H') := by
    intro q h
    cases q with
    | none => cases h
    | some r => obtain ⟨a, b⟩ := r; cases h; rfl
  have mq : ∀ {q : Option Value}, (q.map fun v => Res.val v H) = some (.val v H') → H' = H := by
    intro q h
    cases q with
    | none => cases h
    | some r => cases h; rfl
  have mr : ∀ {q : Option Hp}, (q.map fun H' => Res.val undef H') = some (.val v H') → q = some H' := by
    intro q h
    cases q with
    | none => cases h
    | some r => cases h; rfl
  repeat' split at e
  all_goals first
    | (cases e; done)
    | (exact (en e).elim)
    | exact clearD_lox (mr e)
    | exact appendD_lox (mp e)
    | exact copyD_lox (mp e)
    | (rw [mq e]; exact LoX.refl _)

theorem opD_lox {P : Program} {H H' : Hp} {ev : Ev} {o : Oper} {v : Value} (e : opD P H ev o = some (.val v H')) : LoX H H' := by
  have pv : ∀ {q : Option Value}, (match q with | some v => some (Res.val v H) | none => none) = some (.val v H') → H' = H := by
    intro q h
    cases q with
    | none => cases h
    | some r => cases h; rfl
  have mv : ∀ {q : Option (Value × Hp)}, (match q with | some (v, H') => some (Res.val v H') | none => none) = some (.val v H') → q = some (v, H') := by
    intro q h
    cases q with
    | none => cases h
    | some r => obtain ⟨a, b⟩ := r; cases h; rfl
  have hv : ∀ {q : Option Hp}, (match q with | some H' => some (Res.val undef H') | none => none) = some (.val v H') → q = some H' := by
    intro q h
    cases q with
    | none => cases h
    | some r => cases h; rfl
  unfold opD at e
  cases ho : o.op
  all_goals rw [ho] at e
  all_goals simp only at e
  case call c => exact callD_lox e
  case store t a x =>
    split at e
    · exact storeD_lox (hv e)
    · cases e
  case makeMap t r =>
    cases r
    · simp only [Option.some.injEq, Res.val.injEq] at e
      obtain ⟨_, rfl⟩ := e
      exact LoX.alloc _ _
    · cases e
  case mapUpdate t m k v =>
    split at e
    · exact mapUpdateD_lox (hv e)
    · cases e
  case buildSlice t n l =>
    split at e
    · exact buildSliceD_lox (mv e)
    · cases e
  case makeSlice t a c =>
    split at e
    · exact makeSliceD_lox (mv e)
    · cases e
  case convert s d x =>
    split at e
    · split at e
      · rename_i r hr
        cases e
        exact convD_lox hr
      · rw [pv e]; exact LoX.refl _
    · cases e
  case next x b =>
    cases b
    · cases e
    · simp only at e
      split at e
      · exact nextD_lox (mv e)
      · cases e
  all_goals
    repeat' split at e
    all_goals first
      | (cases e; done)
      | (rw [pv e]; exact LoX.refl _)
      | (cases e; first | exact LoX.refl _ | exact LoX.alloc _ _)
      | skip
end Go.Det

set_option linter.unusedSimpArgs false
set_option linter.unusedVariables false
namespace Go.Det
open Go Go.RowKit

/-! ## 16. An evaluator that the kernel runs -/
structure ES where
  t : T Value
  n : Nat
  H : Hp
  defs : List (Value × List Value)
  dok : Bool
def ES.st (s : ES) : St := { env := s.t.get, n := s.n, H := s.H, defs := s.defs, dok := s.dok }

/-- Values are worked out as they are stored. -/
def nforce {α : Type} (n : Nat) (k : Nat → α) : α :=
  match n with
  | 0 => k 0
  | m + 1 => k (m + 1)
theorem nforce_eq {α : Type} (n : Nat) (k : Nat → α) : nforce n k = k n := by cases n <;> rfl
def iforce {α : Type} (n : Int) (k : Int → α) : α :=
  match n with
  | .ofNat m => nforce m fun m => k (.ofNat m)
  | .negSucc m => nforce m fun m => k (.negSucc m)
theorem iforce_eq {α : Type} (n : Int) (k : Int → α) : iforce n k = k n := by cases n <;> simp only [iforce, nforce_eq]
def bforce {α : Type} (b : Bool) (k : Bool → α) : α :=
  match b with
  | true => k true
  | false => k false
theorem bforce_eq {α : Type} (n : Bool) (k : Bool → α) : bforce n k = k n := by cases n <;> rfl
def vforce {α : Type} (v : Value) (k : Value → α) : α :=
  match v with
  | .int d n => iforce n fun n => k (.int d n)
  | .bool b => bforce b fun b => k (.bool b)
  | .slice a l c => nforce l fun l => nforce c fun c => k (.slice a l c)
  | v => k v
theorem vforce_eq {α : Type} (v : Value) (k : Value → α) : vforce v k = k v := by cases v <;> simp only [vforce, iforce_eq, bforce_eq, nforce_eq]
def hforce {α : Type} (H : Hp) (k : Hp → α) : α :=
  match H with
  | ⟨.nil, n, lo⟩ => nforce n fun n => nforce lo fun lo => k ⟨.nil, n, lo⟩
  | ⟨.node v l r, n, lo⟩ => nforce n fun n => nforce lo fun lo => k ⟨.node v l r, n, lo⟩
theorem hforce_eq {α : Type} (H : Hp) (k : Hp → α) : hforce H k = k H := by
  obtain ⟨t, n, lo⟩ := H
  cases t <;> simp only [hforce, nforce_eq]
def tforce {α β : Type} (t : T β) (k : T β → α) : α :=
  match t with
  | .nil => k .nil
  | .node v l r => k (.node v l r)
theorem tforce_eq {α β : Type} (t : T β) (k : T β → α) : tforce t k = k t := by cases t <;> rfl

def evE (P : Program) (s : ES) : Ev
  | .tmp t => s.t.get t
  | .const v => match flat v with | true => some v | false => none
  | .global g => match Nat.blt g P.globals.size with | true => some (.pointer (some ⟨g, 0, none⟩)) | false => none
  | .func f => some (.func (.func f) ⟨[]⟩ ⟨[]⟩)
theorem evE_eq (P : Program) (s : ES) : evOf P s.st = evE P s := by
  funext x
  cases x
  · rfl
  · simp only [evOf, evE]; split <;> rename_i h <;> simp [h]
  · rename_i g
    simp only [evOf, evE]
    by_cases h : g < P.globals.size
    · rw [if_pos h, show Nat.blt g P.globals.size = true from by rw [Nat.blt_eq]; exact h]
    · rw [if_neg h, show Nat.blt g P.globals.size = false from by rw [Bool.eq_false_iff]; intro k; rw [Nat.blt_eq] at k; exact h k]
  · rfl

def putE (s : ES) (d : Option Tmp) (v : Value) (H : Hp) : Option ES :=
  match d with
  | none => hforce H fun H => some { s with H := H }
  | some t => match Nat.blt t s.n with
    | true => vforce v fun v => hforce H fun H => tforce (s.t.set t (some v)) fun t => some { s with t := t, H := H }
    | false => none
theorem putE_ok {s s' : ES} {d : Option Tmp} {v : Value} {H : Hp} (h : putE s d v H = some s') : s'.st = (s.st.at_ H).put d v ∧ s.st.fits d := by
  unfold putE at h
  split at h
  · rw [hforce_eq] at h; cases h; exact ⟨rfl, fun t k => by cases k⟩
  · split at h
    · rename_i t hb
      rw [vforce_eq, hforce_eq, tforce_eq] at h
      cases h
      refine ⟨?_, fun u k => ?_⟩
      · simp only [ES.st, St.at_, St.put]
        congr 1
        funext u
        rw [T.get_set]
      · cases k
        rw [Nat.blt_eq] at hb
        exact hb
    · cases h

def gdE (ops : Array Oper) (s : ES) (o : Oper) : Option Bool :=
  match o.guard with
  | none => some true
  | some (j, want) =>
    match ops[j]? with
    | some oj =>
      match oj.dst with
      | some t =>
        match s.t.get t with
        | some (.bool b) => some (b == want)
        | some (.tuple ⟨[]⟩) => some false
        | _ => none
      | none => none
    | none => none
theorem gdE_eq (ops : Array Oper) (s : ES) (o : Oper) : gd ops s.st o = gdE ops s o := by
  unfold gd gdE
  cases o.guard with
  | none => rfl
  | some q =>
    obtain ⟨j, want⟩ := q
    simp only
    cases ops[j]? with
    | none => rfl
    | some oj => cases oj.dst <;> rfl

inductive OE where
  | val (s : ES)
  | call (f : FuncId) (args : List Value) (d : Option Tmp)
  | panic (v : Value)

def doE (P : Program) (ops : Array Oper) (i : Nat) (s : ES) : Option OE :=
  match ops[i]? with
  | none => none
  | some o =>
    match gdE ops s o with
    | none => none
    | some false => match putE s o.dst undef s.H with
      | some s' => some (.val s')
      | none => none
    | some true =>
      match notDefer o.op with
      | false => none
      | true =>
        match opD P s.H (evE P s) o with
        | some (.val v H') => match putE s o.dst v H' with
          | some s' => some (.val s')
          | none => none
        | some (.enter f args) => match putE s o.dst undef s.H with
          | some _ => some (.call f args o.dst)
          | none => none
        | some (.panic v) => some (.panic v)
        | _ => none

theorem doE_val {P : Program} {ops : Array Oper} {i : Nat} {s s' : ES} (h : doE P ops i s = some (.val s')) : OpFact P ops i s.st s'.st ∧ LoX s.H s'.H := by
  unfold doE at h
  split at h
  · cases h
  · rename_i o ho
    split at h
    · cases h
    · rename_i hg
      split at h
      · rename_i q hq
        cases h
        obtain ⟨h1, h2⟩ := putE_ok hq
        have h3 : s'.H = s.H := by have := congrArg St.H h1; rw [(put_facts _ _ _).2.1] at this; exact this
        rw [h1, h3]
        exact ⟨.skip ho (by rw [gdE_eq]; exact hg) h2, LoX.refl _⟩
      · cases h
    · rename_i hg
      split at h
      · cases h
      · rename_i hd
        split at h
        · rename_i v H' he
          split at h
          · rename_i q hq
            cases h
            obtain ⟨h1, h2⟩ := putE_ok hq
            have h3 : s'.H = H' := by have := congrArg St.H h1; rw [(put_facts _ _ _).2.1] at this; exact this
            rw [h1, h3]
            exact ⟨.val ho (by rw [gdE_eq]; exact hg) hd (by rw [evE_eq]; exact he) h2, opD_lox he⟩
          · cases h
        · split at h <;> cases h
        · cases h
        · cases h

theorem doE_call {P : Program} {ops : Array Oper} {i : Nat} {s : ES} {f : FuncId} {args : List Value} {d : Option Tmp} (h : doE P ops i s = some (.call f args d)) :
    ∃ o, ops[i]? = some o ∧ gd ops s.st o = some true ∧ notDefer o.op = true ∧ opD P s.st.H (evOf P s.st) o = some (.enter f args) ∧ s.st.fits o.dst ∧ o.dst = d := by
  unfold doE at h
  split at h
  · cases h
  · rename_i o ho
    split at h
    · cases h
    · split at h <;> cases h
    · rename_i hg
      split at h
      · cases h
      · rename_i hd
        split at h
        · split at h <;> cases h
        · rename_i g args' he
          split at h
          · rename_i q hq
            cases h
            obtain ⟨h1, h2⟩ := putE_ok hq
            exact ⟨o, ho, by rw [gdE_eq]; exact hg, hd, by rw [evE_eq]; exact he, h2, rfl⟩
          · cases h
        · cases h
        · cases h

theorem doE_panic {P : Program} {ops : Array Oper} {i : Nat} {s : ES} {v : Value} (h : doE P ops i s = some (.panic v)) :
    ∃ o, ops[i]? = some o ∧ gd ops s.st o = some true ∧ notDefer o.op = true ∧ opD P s.st.H (evOf P s.st) o = some (.panic v) := by
  unfold doE at h
  split at h
  · cases h
  · rename_i o ho
    split at h
    · cases h
    · split at h <;> cases h
    · rename_i hg
      split at h
      · cases h
      · rename_i hd
        split at h
        · split at h <;> cases h
        · split at h <;> cases h
        · rename_i w he; cases h
          exact ⟨o, ho, by rw [gdE_eq]; exact hg, hd, by rw [evE_eq]; exact he⟩
        · cases h

abbrev CallFn := FuncId → List Value → Hp → Option (En × Hp)

def evOps (P : Program) (call : CallFn) (ops : Array Oper) : Nat → Nat → ES → Option (Ex × ES)
  | 0, _, s => some (.normal, s)
  | k + 1, i, s =>
    match doE P ops i s with
    | some (.val s') => evOps P call ops k (i + 1) s'
    | some (.call f args d) =>
      match call f args s.H with
      | some (.ret v, H') => match putE s d v H' with
        | some s' => evOps P call ops k (i + 1) s'
        | none => none
      | some (.panic v, H') => some (.panic v, { s with H := H' })
      | none => none
    | some (.panic v) => some (.panic v, s)
    | none => none

def fineE (P : Program) (ops : Array Oper) (fl : Bool) (nx : Nat) (i : Nat) (s : ES) : Bool :=
  match fl with
  | false => true
  | true =>
    match Nat.ble nx s.H.lo with
    | false => false
    | true =>
      match floating P ops (masks ops.toList []) i with
      | false => true
      | true => match ops[i]? with
        | some o => match readBlk (evE P s) o.op with
          | some b => Nat.blt b nx
          | none => true
        | none => true

def evDraw (P : Program) (call : CallFn) (ops : Array Oper) (fl : Bool) (nx : Nat) : Nat → Nat → ES → Option ES
  | 0, _, s => match fl with
    | false => some s
    | true => match Nat.ble nx s.H.lo with | true => some s | false => none
  | k + 1, i, s =>
    match fineE P ops fl nx i s with
    | false => none
    | true =>
      match doE P ops i s with
      | some (.val s') => evDraw P call ops fl nx k (i + 1) s'
      | some (.call f args d) =>
        match call f args s.H with
        | some (.ret v, H') => match putE s d v H' with
          | some s' => evDraw P call ops fl nx k (i + 1) s'
          | none => none
        | _ => none
      | _ => none

def flOf (P : Program) (ops : Array Oper) : Bool := (List.range ops.size).any fun i => floating P ops (masks ops.toList []) i

def resE (P : Program) (s : ES) : ResultVar → Option Value
  | .tmp t => s.t.get t
  | .cell a t => match s.t.get a with
    | some v => loadD P s.H t v
    | none => none
def ressE (P : Program) (s : ES) : List ResultVar → Option (List Value)
  | [] => some []
  | r :: l => match resE P s r with
    | some v => match ressE P s l with
      | some vs => some (v :: vs)
      | none => none
    | none => none
theorem ressE_eq (P : Program) (s : ES) : ∀ l, ressD P s.st l = ressE P s l
  | [] => rfl
  | r :: l => by
    have : resD P s.st r = resE P s r := by cases r <;> rfl
    simp only [ressD, ressE, this, ressE_eq P s l]
    cases resE P s r <;> cases ressE P s l <;> rfl

def initT : List Value → Nat → T Value → T Value
  | [], _, t => t
  | v :: l, i, t => initT l (i + 1) (t.set i (some v))
theorem initT_get : ∀ (l : List Value) (i : Nat) (t : T Value) (j : Nat), (initT l i t).get j = if i ≤ j ∧ j < i + l.length then l[j - i]? else t.get j
  | [], i, t, j => by simp only [initT, List.length_nil]; rw [if_neg (by omega)]
  | v :: l, i, t, j => by
    rw [initT, initT_get l (i + 1), T.get_set]
    simp only [List.length_cons]
    by_cases h : j = i
    · subst h
      rw [if_neg (by omega), if_pos rfl, if_pos (by omega)]; simp
    · rw [if_neg h]
      by_cases h1 : i + 1 ≤ j ∧ j < i + 1 + l.length
      · rw [if_pos h1, if_pos (by omega), show j - i = (j - (i + 1)) + 1 by omega]; simp
      · rw [if_neg h1, if_neg (by omega)]

def callE (P : Program) (ev : Code → ES → Option (Ex × ES)) : CallFn := fun f args H =>
  match P.funcs[f]? with
  | none => none
  | some fn =>
    match fn.body with
    | none => none
    | some c =>
      match Nat.ble args.length fn.ntmps with
      | false => none
      | true =>
        match ev c { t := initT args 0 .nil, n := fn.ntmps, H := H, defs := [], dok := true } with
        | some (.panic v, s) => match s.defs with
          | [] => some (.panic v, s.H)
          | _ :: _ => none
        | some (.exit _, _) => none
        | some (.normal, s) => match s.defs with
          | [] => match ressE P s fn.results.toList with
            | some vs => some (.ret (oneD vs), s.H)
            | none => none
          | _ :: _ => none
        | some (.ret, s) => match s.defs with
          | [] => match ressE P s fn.results.toList with
            | some vs => some (.ret (oneD vs), s.H)
            | none => none
          | _ :: _ => none
        | none => none

/-- One level of the evaluator. -/
def evStep (P : Program) (ev : Code → ES → Option (Ex × ES)) (c : Code) (s : ES) : Option (Ex × ES) :=
  match c with
  | .skip => some (.normal, s)
  | .label _ => some (.normal, s)
  | .exit id => some (.exit id, s)
  | .ret => some (.ret, s)
  | .seq x y => match ev x s with
    | some (.normal, s') => ev y s'
    | r => r
  | .block id c => match ev c s with
    | some (.exit id', s') => match Nat.beq id' id with
      | true => some (.normal, s')
      | false => some (.exit id', s')
    | r => r
  | .cond c x y => match evE P s c with
    | some (.bool true) => ev x s
    | some (.bool false) => ev y s
    | _ => none
  | .loop c => match ev c s with
    | some (.normal, s') => ev (.loop c) s'
    | r => r
  | .region _ ops false => evOps P (callE P ev) ops ops.size 0 s
  | .region _ ops true =>
    match P.follows .mixedOrders with
    | false => none
    | true =>
      match okDraw P ops with
      | false => none
      | true =>
        match flOf P ops with
        | false => match evDraw P (callE P ev) ops false 0 ops.size 0 s with
          | some s' => some (.normal, s')
          | none => none
        | true => match evDraw P (callE P ev) ops true s.H.next ops.size 0 { s with H := { s.H with lo := s.H.next } } with
          | some s' => some (.normal, { s' with H := { s'.H with lo := min s.H.lo s'.H.lo } })
          | none => none
  | _ => none

def evC (P : Program) (n : Nat) : Code → ES → Option (Ex × ES) := Nat.rec (fun _ _ => none) (fun _ ev c s => evStep P ev c s) n
end Go.Det

set_option linter.unusedSimpArgs false
set_option linter.unusedVariables false
namespace Go.Det
open Go Go.RowKit

/-! ## 17. The evaluator is right -/
def Is (e : Ex) (t : St) : Ex → St → Prop := fun e1 t1 => e1 = e ∧ t1 = t
def CallOk (P : Program) (call : CallFn) : Prop := ∀ f args H en H', call f args H = some (en, H') → SCall P f args H (fun e h => e = en ∧ h = H') ∧ LoX H H'
def EvOk (P : Program) (ev : Code → ES → Option (Ex × ES)) : Prop :=
  ∀ c s e s', ev c s = some (e, s') → SC P c (Is e s'.st) s.st ∧ (∀ c', c = .loop c' → SI P (.inLoop c') (Is e s'.st) s.st) ∧ LoX s.H s'.H

section rules
variable {P : Program}

theorem SI.preH {it : Item} {Q : Ex → St → Prop} {st : St} {H2 : Hp} (hg : ∀ b, H2.get b = st.H.get b) (hn : H2.next = st.H.next) (h : SI P it Q { st with H := H2 }) : SI P it Q st := by
  obtain ⟨ex, s, q, k⟩ := h
  exact ⟨ex, s, q, fun X R a w hG hR hS hM b K cs hb => k X R a w hG (hR.congr hg hn) ⟨hS.size, hS.env, hS.defs⟩ hM b K cs hb⟩

theorem SI.postH {it : Item} {Q Q' : Ex → St → Prop} {st : St} (h : SI P it Q st) (hq : ∀ e t, Q e t → ∃ H2 : Hp, (∀ b, H2.get b = t.H.get b) ∧ H2.next = t.H.next ∧ Q' e { t with H := H2 }) : SI P it Q' st := by
  obtain ⟨ex, s, q, k⟩ := h
  obtain ⟨H2, hg, hn, q'⟩ := hq _ _ q
  refine ⟨ex, _, q', fun X R a w hG hR hS hM b K cs hb => ?_⟩
  obtain ⟨X1, R1, a1, w1, ex1, x1, l1, r1, t1, m1, e1, d1, A1⟩ := k X R a w hG hR hS hM b K cs hb
  exact ⟨X1, R1, a1, w1, ex1, x1, l1, r1.congr hg hn, ⟨t1.size, t1.env, t1.defs⟩, m1, e1, d1, A1⟩

theorem evOps_ok {call : CallFn} (hc : CallOk P call) {ops : Array Oper} : ∀ (k i : Nat) (s : ES) {e : Ex} {s' : ES}, evOps P call ops k i s = some (e, s') → SL P ops (List.range' i k) (Is e s'.st) s.st ∧ LoX s.H s'.H
  | 0, i, s, e, s', h => by
    simp only [evOps, Option.some.injEq, Prod.mk.injEq] at h
    obtain ⟨h1, h2⟩ := h
    subst h1 h2
    exact ⟨SL.nil ⟨rfl, rfl⟩, LoX.refl _⟩
  | k + 1, i, s, e, s', h => by
    unfold evOps at h
    rw [List.range'_succ]
    split at h
    · rename_i s1 h1
      obtain ⟨f1, x1⟩ := doE_val h1
      obtain ⟨f2, x2⟩ := evOps_ok hc k (i + 1) s1 h
      exact ⟨SL.step f1.step f2, x1.trans x2⟩
    · rename_i f args d h1
      obtain ⟨o, ho, hg, hd, he, hf, hdd⟩ := doE_call h1
      split at h
      · rename_i v H' h2
        obtain ⟨c1, x1⟩ := hc _ _ _ _ _ h2
        split at h
        · rename_i s1 h3
          obtain ⟨h4, h5⟩ := putE_ok h3
          have h6 : s1.H = H' := by have := congrArg St.H h4; rw [(put_facts _ _ _).2.1] at this; exact this
          obtain ⟨f2, x2⟩ := evOps_ok hc k (i + 1) s1 h
          refine ⟨SL.call ho hg hd he hf (c1.mono fun en H'' q => ?_), x1.trans (by rw [← h6]; exact x2)⟩
          obtain ⟨q1, q2⟩ := q
          subst q1 q2
          simp only
          rw [hdd, ← h4]; exact f2
        · cases h
      · rename_i v H' h2
        obtain ⟨c1, x1⟩ := hc _ _ _ _ _ h2
        cases h
        refine ⟨SL.call ho hg hd he hf (c1.mono fun en H'' q => ?_), x1⟩
        obtain ⟨q1, q2⟩ := q
        subst q1 q2
        exact ⟨rfl, rfl⟩
      · cases h
    · rename_i v h1
      obtain ⟨o, ho, hg, hd, he⟩ := doE_panic h1
      cases h
      exact ⟨SL.panic ho hg hd he ⟨rfl, rfl⟩, LoX.refl _⟩
    · cases h

theorem fineE_ok {ops : Array Oper} {fl : Bool} {i : Nat} {s : ES} {st0 : St} (hx : fl = true → LoX st0.H s.H) (h : fineE P ops fl st0.H.next i s = true) : side P ops fl st0 i s.st := by
  intro hfl
  subst hfl
  unfold fineE at h
  simp only at h
  split at h
  · cases h
  · rename_i hb
    have hb := Nat.le_of_ble_eq_true hb
    refine ⟨(hx rfl).ext hb, fun hf o ho b hr => ?_⟩
    split at h
    · rename_i hf'; rw [hf] at hf'; cases hf'
    · rw [ho] at h
      simp only at h
      rw [evE_eq] at hr
      rw [hr] at h
      simp only at h
      rw [Nat.blt_eq] at h
      exact h

theorem evDraw_ok {call : CallFn} (hc : CallOk P call) {ops : Array Oper} {fl : Bool} {st0 : St} : ∀ (k i : Nat) (s : ES) {s' : ES}, (fl = true → LoX st0.H s.H) → evDraw P call ops fl st0.H.next k i s = some s' →
    SD P ops fl st0 k i (fun t => (fl = true → Ext st0.H t.H) ∧ t = s'.st) s.st ∧ LoX s.H s'.H
  | 0, i, s, s', hx, h => by
    unfold evDraw at h
    split at h
    · cases h; exact ⟨SD.nil ⟨fun q => (by cases q), rfl⟩, LoX.refl _⟩
    · split at h
      · rename_i hb
        cases h
        exact ⟨SD.nil ⟨fun q => (hx q).ext (Nat.le_of_ble_eq_true hb), rfl⟩, LoX.refl _⟩
      · cases h
  | k + 1, i, s, s', hx, h => by
    unfold evDraw at h
    split at h
    · cases h
    · rename_i hfine
      have hs := fineE_ok hx hfine
      split at h
      · rename_i s1 h1
        obtain ⟨f1, x1⟩ := doE_val h1
        obtain ⟨f2, x2⟩ := evDraw_ok hc k (i + 1) s1 (fun q => (hx q).trans x1) h
        exact ⟨SD.cons f1 hs f2, x1.trans x2⟩
      · rename_i f args d h1
        obtain ⟨o, ho, hg, hd, he, hf, hdd⟩ := doE_call h1
        split at h
        · rename_i v H' h2
          obtain ⟨c1, x1⟩ := hc _ _ _ _ _ h2
          split at h
          · rename_i s1 h3
            obtain ⟨h4, h5⟩ := putE_ok h3
            have h6 : s1.H = H' := by have := congrArg St.H h4; rw [(put_facts _ _ _).2.1] at this; exact this
            obtain ⟨f2, x2⟩ := evDraw_ok hc k (i + 1) s1 (fun q => (hx q).trans (by rw [h6]; exact x1)) h
            refine ⟨SD.call ho hg hd he hf hs (c1.mono fun en H'' q => ?_), x1.trans (by rw [← h6]; exact x2)⟩
            obtain ⟨q1, q2⟩ := q
            subst q1 q2
            simp only
            rw [hdd, ← h4]; exact f2
          · cases h
        · cases h
      · cases h

theorem callE_ok {ev : Code → ES → Option (Ex × ES)} (he : EvOk P ev) : CallOk P (callE P ev) := by
  intro f args H en H' h
  unfold callE at h
  split at h
  · cases h
  · rename_i fn hf
    split at h
    · cases h
    · rename_i c hb
      split at h
      · cases h
      · rename_i hn
        have hn := Nat.le_of_ble_eq_true hn
        have hi : ∀ s : ES, s = { t := initT args 0 .nil, n := fn.ntmps, H := H, defs := [], dok := true } → s.st = init fn.ntmps args H ∧ s.H = H := by
          intro s hs; subst hs
          refine ⟨?_, rfl⟩
          simp only [ES.st, init]
          congr 1
          funext j
          rw [initT_get]
          simp only [initEnv, T.get, Nat.zero_le, true_and, Nat.zero_add, Nat.sub_zero]
          split
          · rfl
          · rw [List.getElem?_eq_none (by omega)]
        generalize hs : (({ t := initT args 0 .nil, n := fn.ntmps, H := H, defs := [], dok := true } : ES)) = s0 at h
        obtain ⟨i1, i2⟩ := hi s0 hs.symm
        split at h
        · rename_i v s hv
          obtain ⟨k1, _, x1⟩ := he _ _ _ _ hv
          rw [i2] at x1
          split at h
          · rename_i hd
            cases h
            refine ⟨SCall.of hf hb hn ?_, x1⟩
            rw [← i1]
            refine SI.mono k1 fun e t q => ?_
            obtain ⟨q1, q2⟩ := q; subst q1 q2
            exact ⟨hd, rfl, rfl⟩
          · cases h
        · cases h
        · rename_i s hv
          obtain ⟨k1, _, x1⟩ := he _ _ _ _ hv
          rw [i2] at x1
          split at h
          · rename_i hd
            split at h
            · rename_i vs hvs
              cases h
              refine ⟨SCall.of hf hb hn ?_, x1⟩
              rw [← i1]
              refine SI.mono k1 fun e t q => ?_
              obtain ⟨q1, q2⟩ := q; subst q1 q2
              exact ⟨hd, vs, by rw [ressE_eq]; exact hvs, rfl, rfl⟩
            · cases h
          · cases h
        · rename_i s hv
          obtain ⟨k1, _, x1⟩ := he _ _ _ _ hv
          rw [i2] at x1
          split at h
          · rename_i hd
            split at h
            · rename_i vs hvs
              cases h
              refine ⟨SCall.of hf hb hn ?_, x1⟩
              rw [← i1]
              refine SI.mono k1 fun e t q => ?_
              obtain ⟨q1, q2⟩ := q; subst q1 q2
              exact ⟨hd, vs, by rw [ressE_eq]; exact hvs, rfl, rfl⟩
            · cases h
          · cases h
        · cases h

theorem LoX.relo {H H' : Hp} (h : LoX { H with lo := H.next } H') : LoX H { H' with lo := min H.lo H'.lo } :=
  ⟨Nat.min_le_left _ _, h.next, fun b h1 h2 => h.get b h1 (by simp only at h2; omega)⟩

theorem evStep_ok {ev : Code → ES → Option (Ex × ES)} (he : EvOk P ev) : EvOk P (evStep P ev) := by
  intro c s e s' h
  have noloop : (∀ c', c = .loop c' → False) → (∀ c', c = .loop c' → SI P (.inLoop c') (Is e s'.st) s.st) := fun k c' hc => (k c' hc).elim
  unfold evStep at h
  split at h
  · cases h; exact ⟨SC.skip ⟨rfl, rfl⟩, noloop (by intro _ k; cases k), LoX.refl _⟩
  · cases h; exact ⟨SC.label ⟨rfl, rfl⟩, noloop (by intro _ k; cases k), LoX.refl _⟩
  · cases h; exact ⟨SC.exit ⟨rfl, rfl⟩, noloop (by intro _ k; cases k), LoX.refl _⟩
  · cases h; exact ⟨SC.ret ⟨rfl, rfl⟩, noloop (by intro _ k; cases k), LoX.refl _⟩
  · rename_i x y
    split at h
    · rename_i s1 h1
      obtain ⟨a1, _, x1⟩ := he _ _ _ _ h1
      obtain ⟨a2, _, x2⟩ := he _ _ _ _ h
      refine ⟨SC.seq (SI.mono a1 fun e1 t1 q => ?_), noloop (by intro _ k; cases k), x1.trans x2⟩
      obtain ⟨q1, q2⟩ := q; subst q1 q2
      exact a2
    · rename_i hr
      obtain ⟨a1, _, x1⟩ := he _ _ _ _ h
      refine ⟨SC.seq (SI.mono a1 fun e1 t1 q => ?_), noloop (by intro _ k; cases k), x1⟩
      obtain ⟨q1, q2⟩ := q; subst q1 q2
      cases e1 with
      | normal => exact (hr _ h).elim
      | _ => exact ⟨rfl, rfl⟩
  · rename_i id c
    split at h
    · rename_i id' s1 h1
      obtain ⟨a1, _, x1⟩ := he _ _ _ _ h1
      split at h
      · rename_i hi
        have hi := Nat.eq_of_beq_eq_true hi
        subst hi
        cases h
        refine ⟨SC.block (SI.mono a1 fun e1 t1 q => ?_), noloop (by intro _ k; cases k), x1⟩
        obtain ⟨q1, q2⟩ := q; subst q1 q2
        simp only [inBlock, if_true]; exact ⟨rfl, rfl⟩
      · rename_i hi
        have hi := Nat.ne_of_beq_eq_false hi
        cases h
        refine ⟨SC.block (SI.mono a1 fun e1 t1 q => ?_), noloop (by intro _ k; cases k), x1⟩
        obtain ⟨q1, q2⟩ := q; subst q1 q2
        simp only [inBlock, if_neg hi]; exact ⟨rfl, rfl⟩
    · rename_i hr
      obtain ⟨a1, _, x1⟩ := he _ _ _ _ h
      refine ⟨SC.block (SI.mono a1 fun e1 t1 q => ?_), noloop (by intro _ k; cases k), x1⟩
      obtain ⟨q1, q2⟩ := q; subst q1 q2
      cases e1 with
      | exit id' => exact (hr _ _ h).elim
      | _ => exact ⟨rfl, rfl⟩
  · rename_i c x y
    split at h
    · rename_i hv
      obtain ⟨a1, _, x1⟩ := he _ _ _ _ h
      exact ⟨SC.cond (t := true) (by rw [evE_eq]; exact hv) a1, noloop (by intro _ k; cases k), x1⟩
    · rename_i hv
      obtain ⟨a1, _, x1⟩ := he _ _ _ _ h
      exact ⟨SC.cond (t := false) (by rw [evE_eq]; exact hv) a1, noloop (by intro _ k; cases k), x1⟩
    · cases h
  · rename_i c
    split at h
    · rename_i s1 h1
      obtain ⟨a1, _, x1⟩ := he _ _ _ _ h1
      obtain ⟨_, a2, x2⟩ := he _ _ _ _ h
      have a2 := a2 c rfl
      have key : SC P c (andThen (Is e s'.st) (SI P (.inLoop c) (Is e s'.st))) s.st := SI.mono a1 fun e1 t1 q => by
        obtain ⟨q1, q2⟩ := q; subst q1 q2
        exact a2
      exact ⟨SC.loop key, fun c' hc => by cases hc; exact SI.loop key, x1.trans x2⟩
    · rename_i hr
      obtain ⟨a1, _, x1⟩ := he _ _ _ _ h
      have key : SC P c (andThen (Is e s'.st) (SI P (.inLoop c) (Is e s'.st))) s.st := SI.mono a1 fun e1 t1 q => by
        obtain ⟨q1, q2⟩ := q; subst q1 q2
        cases e1 with
        | normal => exact (hr _ h).elim
        | _ => exact ⟨rfl, rfl⟩
      exact ⟨SC.loop key, fun c' hc => by cases hc; exact SI.loop key, x1⟩
  · rename_i id ops
    obtain ⟨a1, x1⟩ := evOps_ok (callE_ok he) _ _ _ h
    exact ⟨SC.region (by rw [List.range_eq_range']; exact a1), noloop (by intro _ k; cases k), x1⟩
  · rename_i id ops
    split at h
    · cases h
    · rename_i hmix
      split at h
      · cases h
      · rename_i hok
        split at h
        · rename_i hfl
          split at h
          · rename_i s1 h1
            cases h
            have hfl' : ((List.range ops.size).any fun i => floating P ops (masks ops.toList []) i) = false := hfl
            have h1' : evDraw P (callE P ev) ops false s.st.H.next ops.size 0 s = some s' := by
              have : ∀ (k i n1 n2 : Nat) (s : ES), evDraw P (callE P ev) ops false n1 k i s = evDraw P (callE P ev) ops false n2 k i s := by
                intro k
                induction k with
                | zero => intros; rfl
                | succ k ih =>
                  intro i n1 n2 s
                  unfold evDraw
                  simp only [fineE, ih _ n1 n2]
              rw [this _ _ _ 0]; exact h1
            obtain ⟨a1, x1⟩ := evDraw_ok (st0 := s.st) (callE_ok he) _ _ _ (fun q => by cases q) h1'
            refine ⟨SC.regionDraw hmix hok hfl' ?_, noloop (by intro _ k; cases k), x1⟩
            obtain ⟨f, b1, b2, b3, b4⟩ := a1
            exact ⟨f, b1, b2, b3, rfl, b4⟩
          · cases h
        · rename_i hfl
          split at h
          · rename_i s1 h1
            cases h
            have hfl' : ((List.range ops.size).any fun i => floating P ops (masks ops.toList []) i) = true := hfl
            obtain ⟨s2, hs2⟩ : ∃ s2 : ES, s2 = { s with H := { s.H with lo := s.H.next } } := ⟨_, rfl⟩
            rw [← hs2] at h1
            have e1 : s2.st = { s.st with H := { s.H with lo := s.H.next } } := by subst hs2; rfl
            have e2 : s2.H = { s.H with lo := s.H.next } := by subst hs2; rfl
            have e3 : s.H.next = s2.st.H.next := by rw [e1]
            rw [e3] at h1
            obtain ⟨a1, x1⟩ := evDraw_ok (st0 := s2.st) (callE_ok he) _ _ _ (fun _ => LoX.refl _) h1
            have x2 := LoX.relo (by rw [← e2]; exact x1)
            refine ⟨?_, noloop (by intro _ k; cases k), x2⟩
            refine SI.preH (H2 := { s.H with lo := s.H.next }) (fun _ => rfl) rfl ?_
            have : SC P (.region id ops true) (Is .normal s1.st) s2.st := SC.regionDraw hmix hok hfl' (by
              obtain ⟨f, b1, b2, b3, b4⟩ := a1
              exact ⟨f, b1, b2, b3, rfl, b4⟩)
            rw [e1] at this
            refine SI.postH this fun e t q => ?_
            obtain ⟨q1, q2⟩ := q; subst q1 q2
            exact ⟨{ s1.H with lo := min s.H.lo s1.H.lo }, fun _ => rfl, rfl, rfl, rfl⟩
          · cases h
  · cases h

theorem evC_ok : ∀ n, EvOk P (evC P n)
  | 0 => fun c s e s' h => by cases h
  | n + 1 => evStep_ok (evC_ok n)

/-- A closed call. -/
theorem SCall.run {n : Nat} {f : FuncId} {args : List Value} {H H' : Hp} {en : En} (h : callE P (evC P n) f args H = some (en, H')) : SCall P f args H (fun e h => e = en ∧ h = H') := (callE_ok (evC_ok n) _ _ _ _ _ h).1
end rules
end Go.Det

set_option linter.unusedSimpArgs false
set_option linter.unusedVariables false
namespace Go.Det
open Go Go.RowKit

/-! ## 18. Arguments -/
mutual
/-- Cells that are a value of a type, in an abstract heap. -/
inductive Rd (P : Program) (H : Hp) : TypeId → List Value → Prop where
  | bool {t : TypeId} (b : Bool) (h : P.underlying t = some .bool) : Rd P H t [.bool b]
  | int {t : TypeId} {k : IntKind} (n : Int) (h : P.underlying t = some (.int k)) (hw : (Lit.int k n).wf = true) : Rd P H t [.int k n]
  | str {t : TypeId} (s : ByteArray) (h : P.underlying t = some .string) (hw : s.size ≤ reachBytes) : Rd P H t [.string s]
  | nilS {t e : TypeId} (h : P.underlying t = some (.slice e)) : Rd P H t [.slice none 0 0]
  | empty {t e : TypeId} (h : P.underlying t = some (.slice e)) : Rd P H t [.slice (some ⟨0, 0, none⟩) 0 EMPTY]
  | slice {t e : TypeId} (b len : Nat) (cs : List Value) (h : P.underlying t = some (.slice e)) (h0 : 0 < len) (hb : H.get b = some (.cells .old cs)) (hlt : b < H.next) (hcs : RdN P H e len cs) (hw : len * P.bytesOf e ≤ reachBytes) (hl : len ≤ maxLen) :
      Rd P H t [.slice (some ⟨b, 0, none⟩) len LOOSE]
  | struct {t : TypeId} {fs : Array Field} {cs : List Value} (h : P.underlying t = some (.struct fs)) (hcs : RdF P H fs.toList cs) : Rd P H t cs
  | array {t e : TypeId} {n : Nat} {cs : List Value} (h : P.underlying t = some (.array n e)) (hcs : RdN P H e n cs) : Rd P H t cs
inductive RdN (P : Program) (H : Hp) : TypeId → Nat → List Value → Prop where
  | nil (e : TypeId) : RdN P H e 0 []
  | cons {e : TypeId} {n : Nat} {c cs : List Value} (h : Rd P H e c) (hs : RdN P H e n cs) : RdN P H e (n + 1) (c ++ cs)
inductive RdF (P : Program) (H : Hp) : List Field → List Value → Prop where
  | nil : RdF P H [] []
  | cons {f : Field} {fs : List Field} {c cs : List Value} (h : Rd P H f.type c) (hs : RdF P H fs cs) : RdF P H (f :: fs) (c ++ cs)
end

mutual
theorem Rd.mono {P : Program} {H H' : Hp} (x : Ext H H') : ∀ {t : TypeId} {cs : List Value}, Rd P H t cs → Rd P H' t cs
  | _, _, .bool b h => .bool b h
  | _, _, .int n h hw => .int n h hw
  | _, _, .str s h hw => .str s h hw
  | _, _, .nilS h => .nilS h
  | _, _, .empty h => .empty h
  | _, _, .slice b len cs h h0 hb hlt hcs hw hl => .slice b len cs h h0 (by rw [x.same b hlt]; exact hb) (Nat.lt_of_lt_of_le hlt x.next) (RdN.mono x hcs) hw hl
  | _, _, .struct h hcs => .struct h (RdF.mono x hcs)
  | _, _, .array h hcs => .array h (RdN.mono x hcs)
theorem RdN.mono {P : Program} {H H' : Hp} (x : Ext H H') : ∀ {e : TypeId} {n : Nat} {cs : List Value}, RdN P H e n cs → RdN P H' e n cs
  | _, _, _, .nil e => .nil e
  | _, _, _, .cons h hs => .cons (Rd.mono x h) (RdN.mono x hs)
theorem RdF.mono {P : Program} {H H' : Hp} (x : Ext H H') : ∀ {fs : List Field} {cs : List Value}, RdF P H fs cs → RdF P H' fs cs
  | _, _, .nil => .nil
  | _, _, .cons h hs => .cons (Rd.mono x h) (RdF.mono x hs)
end

def contig (P : Program) : List Field → Nat → Option Nat
  | [], o => some o
  | f :: fs, o => if f.offset = o then contig P fs (o + P.cellsOf f.type) else none
/-- Types whose values can be opened. -/
def plainT (P : Program) : Nat → TypeId → Bool
  | 0, _ => false
  | n + 1, t =>
    match P.underlying t with
    | some .bool | some (.int _) | some .string => true
    | some (.slice e) => plainT P n e && decide (0 < P.cellsOf e)
    | some (.struct fs) => (fs.toList.all fun f => plainT P n f.type) && (contig P fs.toList 0 == some (P.cellsOf t))
    | some (.array k e) => plainT P n e && (k * P.cellsOf e == P.cellsOf t)
    | _ => false

theorem trod_array {H : Type} {enc : TypeId × Value → H} {P : Program} {w : World} {base : Nat} {spare : Nat → Bool} {held : Bool} {fuel k : Nat} {t e : TypeId} {cs : List Value} {x : DataW H × List MemPlace} (ht : P.underlying t = some (.array k e)) (h : DataW.trod enc P w base spare held fuel t cs = some x) :
    ∃ (xs : List (DataW H × List MemPlace)) (n : Nat), fuel = n + 1 ∧ x = (.agg (xs.map (·.1)), xs.flatMap (·.2)) ∧ cs.length = P.cellsOf t ∧ xs.length = k ∧
      ∀ i, i < k → DataW.trod enc P w base spare held n e ((cs.drop (i * P.cellsOf e)).take (P.cellsOf e)) = xs[i]? := by
  cases fuel with
  | zero => simp [DataW.trod] at h
  | succ n =>
    unfold DataW.trod at h
    rw [ht] at h
    split at h <;> simp_all
    obtain ⟨hl, xs, hp, hd⟩ := h
    exact ⟨xs, hd.symm, by simpa using mapM_some_length hp, fun i hi => mapM_some_get hp i i (by simp [hi])⟩

/-- What was there before the call becomes known. -/
theorem Rel.openOld {X : Cx} {w : World} {R : Ren} {H : Hp} (h : Rel X R H w) (blk off : Nat) (cs : List Value) (hb : blk < X.B)
    (hc : ∀ (j : Nat) (v : Value), cs[j]? = some v → ∃ v', w.cell? ⟨blk, off + j, none⟩ = some v' ∧ VR R v v') :
    Rel X (R.add H.next ⟨blk, off, 0, 0, false⟩) (H.alloc (.cells .old cs)) w ∧ R.le (R.add H.next ⟨blk, off, 0, 0, false⟩) := by
  have hn : R H.next = none := h.free _ (Nat.le_refl _)
  have hle := Ren.le_add (R := R) ⟨blk, off, 0, 0, false⟩ hn
  refine ⟨⟨?_, ?_, ?_, ?_, h.below, h.size, ?_, ?_, ?_⟩, hle⟩
  · intro b y eb
    rw [Hp.get_alloc] at eb
    by_cases q : b = H.next
    · subst q; rw [if_pos rfl] at eb; cases eb
      exact ⟨_, Ren.add_same _ _ _, .old cs rfl hb fun j v e => let ⟨v', a, b⟩ := hc j v e; ⟨v', a, b.mono hle⟩⟩
    · rw [if_neg q] at eb
      obtain ⟨j, r, br⟩ := h.blk b y eb
      exact ⟨j, hle _ _ r, br.keep hle rfl⟩
  · intro b c j k' y z eb ec rb rc ob oc e'
    rw [Hp.get_alloc] at eb ec
    by_cases kb : b = H.next
    · subst kb; rw [Ren.add_same] at rb; cases rb; cases ob
    · rw [if_neg kb] at eb
      have rb' : R b = some j := by simpa [Ren.add, kb] using rb
      by_cases kc : c = H.next
      · subst kc; rw [Ren.add_same] at rc; cases rc; cases oc
      · rw [if_neg kc] at ec
        have rc' : R c = some k' := by simpa [Ren.add, kc] using rc
        exact h.inj b c j k' y z eb ec rb' rc' ob oc e'
  · intro b hb
    rw [Hp.next_alloc] at hb
    have : b ≠ H.next := by omega
    simp only [Ren.add, if_neg this]
    exact h.free b (by omega)
  · intro b j eb ob
    by_cases kb : b = H.next
    · subst kb; rw [Ren.add_same] at eb; cases eb; cases ob
    · exact h.lt b j (by simpa [Ren.add, kb] using eb) ob
  · intro g hg
    obtain ⟨j, eg, q⟩ := h.glob g hg
    exact ⟨j, hle _ _ eg, q⟩
  · rw [Hp.next_alloc]; have := h.gle; exact Nat.le_succ_of_le this
  · intro k' o' hk'
    obtain ⟨h1, h2, h3⟩ := h.kept k' o' hk'
    refine ⟨h1, h2, fun b i eb ob => ?_⟩
    by_cases kb : b = H.next
    · subst kb; rw [Ren.add_same] at eb; cases eb; cases ob
    · exact h3 b i (by simpa [Ren.add, kb] using eb) ob

theorem Ext.of_alloc (H : Hp) (x : Blk) : Ext H (H.alloc x) := (Ext.refl H).alloc x

section opening
variable {Ht : Type} {enc : TypeId × Value → Ht} {P : Program} {X : Cx} {w : World}

/-- What an opening comes to. -/
def Opens (P : Program) (X : Cx) (w : World) (R : Ren) (H : Hp) (cs : List Value) (Q : Hp → List Value → Prop) : Prop :=
  ∃ R' H' acs, R.le R' ∧ Ext H H' ∧ Rel X R' H' w ∧ VRs R' acs cs ∧ Q H' acs

theorem VRs.append_inv : True := trivial

theorem weightsEach_cons {t : TypeId} {ts : List TypeId} {d : DataW Ht} {ds : List (DataW Ht)} (h : (DataW.weightsEach P (t :: ts) (d :: ds)).all (· ≤ reachBytes) = true) :
    (d.weights P t).all (· ≤ reachBytes) = true ∧ (DataW.weightsEach P ts ds).all (· ≤ reachBytes) = true := by
  rw [DataW.weightsEach, List.all_append, Bool.and_eq_true] at h
  exact h
theorem weightsAll_cons {e : TypeId} {d : DataW Ht} {ds : List (DataW Ht)} (h : (DataW.weightsAll P e (d :: ds)).all (· ≤ reachBytes) = true) :
    (d.weights P e).all (· ≤ reachBytes) = true ∧ (DataW.weightsAll P e ds).all (· ≤ reachBytes) = true := by
  rw [DataW.weightsAll, List.all_append, Bool.and_eq_true] at h
  exact h

/-- Elements behind each other. -/
theorem open_row {e : TypeId} {n : Nat} (sz : Nat)
    (ih : ∀ (cs : List Value) (x : DataW Ht × List MemPlace), DataW.trod enc P w 0 (fun _ => true) true n e cs = some x → (x.1.weights P e).all (· ≤ reachBytes) = true → ∀ (R : Ren) (H : Hp), Rel X R H w → Opens P X w R H cs (fun H' acs => Rd P H' e acs)) :
    ∀ (k : Nat) (pieces : List (List Value)) (xs : List (DataW Ht × List MemPlace)), pieces.length = k → xs.length = k → (∀ i, i < k → ∃ c x, pieces[i]? = some c ∧ xs[i]? = some x ∧ DataW.trod enc P w 0 (fun _ => true) true n e c = some x) →
      (DataW.weightsAll P e (xs.map (·.1))).all (· ≤ reachBytes) = true → ∀ (R : Ren) (H : Hp), Rel X R H w → Opens P X w R H pieces.flatten (fun H' acs => RdN P H' e k acs)
  | 0, pieces, xs, hp, hx, _, _, R, H, hr => by
    have : pieces = [] := List.length_eq_zero_iff.1 hp
    subst this
    exact ⟨R, H, [], Ren.le_refl R, Ext.refl H, hr, .nil, .nil e⟩
  | k + 1, pieces, xs, hp, hx, hf, hw, R, H, hr => by
    match pieces, xs, hp, hx with
    | c :: pieces, x :: xs, hp, hx =>
      obtain ⟨c', x', h1, h2, h3⟩ := hf 0 (by omega)
      simp only [List.getElem?_cons_zero, Option.some.injEq] at h1 h2
      subst h1 h2
      rw [List.map_cons] at hw
      obtain ⟨w1, w2⟩ := weightsAll_cons hw
      obtain ⟨R1, H1, a1, l1, e1, r1, v1, q1⟩ := ih _ _ h3 w1 R H hr
      obtain ⟨R2, H2, a2, l2, e2, r2, v2, q2⟩ := open_row sz ih k pieces xs (by simpa using hp) (by simpa using hx) (fun i hi => by
        obtain ⟨c', x', h1, h2, h3⟩ := hf (i + 1) (by omega)
        exact ⟨c', x', by simpa using h1, by simpa using h2, h3⟩) w2 R1 H1 r1
      refine ⟨R2, H2, a1 ++ a2, Ren.le_trans l1 l2, e1.trans e2, r2, ?_, .cons (q1.mono e2) q2⟩
      rw [List.flatten_cons]
      exact (v1.mono l2).append v2

theorem pieces_flatten {sz : Nat} : ∀ (k : Nat) (cs : List Value), cs.length = k * sz → ((List.range k).map fun i => (cs.drop (i * sz)).take sz).flatten = cs
  | 0, cs, h => by
    have : cs = [] := List.length_eq_zero_iff.1 (by simpa using h)
    subst this; rfl
  | k + 1, cs, h => by
    rw [List.range_succ_eq_map, List.map_cons, List.flatten_cons, List.map_map]
    have ih := pieces_flatten (sz := sz) k (cs.drop sz) (by rw [List.length_drop, h, Nat.succ_mul]; omega)
    have e : ((fun i => (cs.drop (i * sz)).take sz) ∘ Nat.succ) = fun i => ((cs.drop sz).drop (i * sz)).take sz := by
      funext i
      simp only [Function.comp, List.drop_drop]
      congr 2
      rw [Nat.succ_mul]; omega
    rw [e, ih]
    simp

theorem contig_le : ∀ (fs : List Field) (o m : Nat), contig P fs o = some m → o ≤ m
  | [], o, m, h => by simp only [contig, Option.some.injEq] at h; omega
  | f :: fs, o, m, h => by
    unfold contig at h
    split at h
    · have := contig_le fs _ _ h; omega
    · cases h

/-- Fields behind each other. -/
theorem open_fields {n : Nat} (cs0 : List Value) (m : Nat) (hm : cs0.length = m) :
    ∀ (fs : List Field) (xs : List (DataW Ht × List MemPlace)) (o : Nat),
      (∀ f ∈ fs, ∀ (cs : List Value) (x : DataW Ht × List MemPlace), DataW.trod enc P w 0 (fun _ => true) true n f.type cs = some x → (x.1.weights P f.type).all (· ≤ reachBytes) = true → ∀ (R : Ren) (H : Hp), Rel X R H w → Opens P X w R H cs (fun H' acs => Rd P H' f.type acs)) →
      contig P fs o = some m → xs.length = fs.length → (∀ (i : Nat) (f : Field), fs[i]? = some f → ∃ x, xs[i]? = some x ∧ DataW.trod enc P w 0 (fun _ => true) true n f.type ((cs0.drop f.offset).take (P.cellsOf f.type)) = some x) →
      (DataW.weightsEach P (fs.map (·.type)) (xs.map (·.1))).all (· ≤ reachBytes) = true → ∀ (R : Ren) (H : Hp), Rel X R H w → Opens P X w R H (cs0.drop o) (fun H' acs => RdF P H' fs acs)
  | [], xs, o, _, hc, _, _, _, R, H, hr => by
    simp only [contig, Option.some.injEq] at hc
    have : cs0.drop o = [] := by rw [List.drop_eq_nil_iff]; omega
    rw [this]
    exact ⟨R, H, [], Ren.le_refl R, Ext.refl H, hr, .nil, .nil⟩
  | f :: fs, xs, o, ih, hc, hx, hf, hw, R, H, hr => by
    match xs, hx with
    | x :: xs, hx =>
      unfold contig at hc
      split at hc
      case isFalse => cases hc
      case isTrue ho =>
        obtain ⟨x', h2, h3⟩ := hf 0 f rfl
        simp only [List.getElem?_cons_zero, Option.some.injEq] at h2
        subst h2
        simp only [List.map_cons] at hw
        obtain ⟨w1, w2⟩ := weightsEach_cons hw
        obtain ⟨R1, H1, a1, l1, e1, r1, v1, q1⟩ := ih f (List.mem_cons_self ..) _ _ h3 w1 R H hr
        obtain ⟨R2, H2, a2, l2, e2, r2, v2, q2⟩ := open_fields cs0 m hm fs xs _ (fun g hg => ih g (List.mem_cons_of_mem _ hg)) hc (by simpa using hx) (fun i g hg => by
          obtain ⟨x', h2, h3⟩ := hf (i + 1) g (by simpa using hg)
          exact ⟨x', by simpa using h2, h3⟩) w2 R1 H1 r1
        refine ⟨R2, H2, a1 ++ a2, Ren.le_trans l1 l2, e1.trans e2, r2, ?_, .cons (q1.mono e2) q2⟩
        have : cs0.drop o = (cs0.drop f.offset).take (P.cellsOf f.type) ++ cs0.drop (o + P.cellsOf f.type) := by
          rw [ho, ← List.drop_drop, List.take_append_drop]
        rw [this]
        exact (v1.mono l2).append v2
end opening
end Go.Det

set_option linter.unusedSimpArgs false
set_option linter.unusedVariables false
namespace Go.Det
open Go Go.RowKit

theorem add_eq {a : Addr} (h : a.spot = none) (k : Nat) : a.add k = ⟨a.block, a.off + k, none⟩ := by
  cases a with
  | mk b o s =>
    simp only at h
    subst h
    unfold Addr.add
    by_cases hk : k = 0
    · subst hk; simp
    · rw [if_neg hk]

theorem cells_get {w : World} {a : Addr} {n : Nat} {cs : List Value} (h : w.cells? 0 a n = some cs) : cs.length = n ∧ ∀ i, i < n → w.cell? (a.add i) = cs[i]? := by
  unfold World.cells? at h
  rw [if_pos (Nat.zero_le _)] at h
  exact ⟨by simpa using mapM_some_length h, fun i hi => mapM_some_get h i i (by simp [hi])⟩

theorem spot_of_cell {w : World} {a : Addr} {v : Value} (h : w.cell? a = some v) : a.spot = none ∧ a.block < w.heap.size := by
  unfold World.cell? at h
  split at h
  · rename_i c _ _ hb
    have hlt : a.block < w.heap.size := (Array.getElem?_eq_some_iff.1 hb).1
    split at h
    · cases h
    · rename_i hs
      refine ⟨?_, hlt⟩
      cases hs' : a.spot with
      | none => rfl
      | some s => rw [hs'] at hs; simp at hs
  · cases h

theorem flatten_read {w : World} {b sz : Nat} : ∀ (k o : Nat) (c : Nat → List Value), (∀ i, i < k → (c i).length = sz ∧ ∀ j, j < sz → w.cell? ⟨b, o + i * sz + j, none⟩ = (c i)[j]?) →
    ∀ (j : Nat) (v : Value), ((List.range k).map c).flatten[j]? = some v → w.cell? ⟨b, o + j, none⟩ = some v
  | 0, o, c, _, j, v, h => by simp at h
  | k + 1, o, c, hc, j, v, h => by
    rw [List.range_succ_eq_map, List.map_cons, List.flatten_cons, List.map_map] at h
    obtain ⟨h1, h2⟩ := hc 0 (by omega)
    by_cases hj : j < sz
    · rw [List.getElem?_append_left (by omega)] at h
      have := h2 j hj
      rw [Nat.zero_mul, Nat.add_zero] at this
      rw [this, h]
    · rw [List.getElem?_append_right (by omega), h1] at h
      have := flatten_read (w := w) (b := b) k (o + sz) (c ∘ Nat.succ) (fun i hi => by
        obtain ⟨g1, g2⟩ := hc (i + 1) (by omega)
        refine ⟨g1, fun j hj => ?_⟩
        show _ = (c (i + 1))[j]?
        rw [← g2 j hj]
        congr 2
        rw [Nat.succ_mul]; omega) (j - sz) v h
      rw [← this]
      congr 2
      omega

section opening
variable {Ht : Type} {enc : TypeId × Value → Ht} {P : Program} {X : Cx} {w : World}

theorem open_value (hB : X.B = w.heap.size) : ∀ (n : Nat) (t : TypeId), plainT P n t = true → ∀ (fuel : Nat) (cs : List Value) (x : DataW Ht × List MemPlace), DataW.trod enc P w 0 (fun _ => true) true fuel t cs = some x → (x.1.weights P t).all (· ≤ reachBytes) = true →
    ∀ (R : Ren) (H : Hp), Rel X R H w → Opens P X w R H cs (fun H' acs => Rd P H' t acs)
  | 0, t, hp, _, _, _, _, _, _, _, _ => by cases hp
  | n + 1, t, hp, fuel, cs, x, h, hw, R, H, hr => by
    unfold plainT at hp
    split at hp
    · rename_i hu
      obtain ⟨b, rfl, rfl⟩ := DataW.trod_bool hu h
      exact ⟨R, H, [.bool b], Ren.le_refl R, Ext.refl H, hr, VRs.one (.bool b), .bool b hu⟩
    · rename_i k hu
      obtain ⟨i, rfl, rfl, hwf⟩ := DataW.trod_int hu h
      exact ⟨R, H, [.int k i], Ren.le_refl R, Ext.refl H, hr, VRs.one (.int k i), .int i hu hwf⟩
    · rename_i hu
      obtain ⟨s, rfl, rfl, hs⟩ := DataW.trod_string hu h
      refine ⟨R, H, [.string s], Ren.le_refl R, Ext.refl H, hr, VRs.one (.string s), .str s hu ?_⟩
      simpa [DataW.weights] using hw
    · rename_i e hu
      simp only [Bool.and_eq_true, decide_eq_true_eq] at hp
      obtain ⟨hpe, hsz⟩ := hp
      rcases DataW.trod_slice hu h with ⟨rfl, rfl⟩ | ⟨a, len, cap, elems, rest, m, rfl, rfl, rfl, _, hlc, hcm, hle, hel, _, _⟩
      · exact ⟨R, H, [.slice none 0 0], Ren.le_refl R, Ext.refl H, hr, VRs.one .nilSlice, .nilS hu⟩
      · rcases Nat.eq_zero_or_pos len with h0 | h0
        · subst h0
          exact ⟨R, H, [.slice (some ⟨0, 0, none⟩) 0 EMPTY], Ren.le_refl R, Ext.refl H, hr, VRs.one (.empty ⟨0, 0, none⟩ a cap), .empty hu⟩
        · have hpc : ∀ i, i < len → ∃ c x, w.cells? 0 (a.add (i * P.cellsOf e)) (P.cellsOf e) = some c ∧ elems[i]? = some x ∧ DataW.trod enc P w 0 (fun _ => true) true m e c = some x := by
            intro i hi
            have h1 := hel i hi
            obtain ⟨x, hx⟩ : ∃ x, elems[i]? = some x := ⟨elems[i]'(by omega), List.getElem?_eq_getElem (by omega)⟩
            rw [hx] at h1
            obtain ⟨c, hc1, hc2⟩ := Option.bind_eq_some_iff.1 h1
            exact ⟨c, x, hc1, hx, hc2⟩
          simp only [DataW.weights, hu, List.all_cons, List.all_append, Bool.and_eq_true, decide_eq_true_eq, List.length_map] at hw
          obtain ⟨hw1, hw2, hw3⟩ := hw
          let c : Nat → List Value := fun i => (w.cells? 0 (a.add (i * P.cellsOf e)) (P.cellsOf e)).getD []
          have hcd : ∀ i, i < len → w.cells? 0 (a.add (i * P.cellsOf e)) (P.cellsOf e) = some (c i) := by
            intro i hi
            obtain ⟨c', x, h1, _⟩ := hpc i hi
            simp only [c, h1, Option.getD_some]
          have hcell0 : ∃ v, w.cell? a = some v := by
            obtain ⟨g1, g2⟩ := cells_get (hcd 0 h0)
            have := g2 0 hsz
            rw [Nat.zero_mul] at this
            have ha : (a.add 0).add 0 = a := by simp [Addr.add]
            rw [ha] at this
            exact ⟨(c 0)[0]'(by omega), by rw [this]; exact List.getElem?_eq_getElem (by omega)⟩
          obtain ⟨v0, hv0⟩ := hcell0
          obtain ⟨hsp, hlt⟩ := spot_of_cell hv0
          obtain ⟨R1, H1, acs, l1, e1, r1, v1, q1⟩ := open_row (X := X) (P := P) (w := w) (enc := enc) (e := e) (n := m) (P.cellsOf e) (fun cs x hx hwx R H hr => open_value hB n e hpe m cs x hx hwx R H hr) len ((List.range len).map c) elems (by simp) hle
            (fun i hi => by
              obtain ⟨c', x, h1, h2, h3⟩ := hpc i hi
              refine ⟨c', x, ?_, h2, h3⟩
              simp only [List.getElem?_map, List.getElem?_range hi, Option.map_some, c, h1, Option.getD_some]) hw2 R H hr
          have hread := flatten_read (w := w) (b := a.block) (sz := P.cellsOf e) len a.off c (fun i hi => by
            obtain ⟨g1, g2⟩ := cells_get (hcd i hi)
            refine ⟨g1, fun j hj => ?_⟩
            rw [← g2 j hj, add_eq hsp, add_eq rfl])
          obtain ⟨r2, l2⟩ := r1.openOld a.block a.off acs (by rw [hB]; exact hlt) (fun j v hj => by
            obtain ⟨v', k1, k2⟩ := v1.get j v hj
            exact ⟨v', hread j v' k1, k2⟩)
          refine ⟨_, _, [.slice (some ⟨H1.next, 0, none⟩) len LOOSE], Ren.le_trans l1 l2, e1.trans (Ext.of_alloc _ _), r2, VRs.one (.slice _ _ _ ⟨rfl, hsp, _, Ren.add_same _ _ _, rfl, by simp⟩ (.inr ⟨rfl, hlc, _, Ren.add_same _ _ _, fun k => by cases k⟩)), ?_⟩
          refine .slice _ len acs hu h0 (by rw [Hp.get_alloc, if_pos rfl]) (by rw [Hp.next_alloc]; omega) (q1.mono (Ext.of_alloc _ _)) ?_ (by omega)
          have : len * P.bytesOf e ≤ (elems.length + rest.length) * P.bytesOf e := Nat.mul_le_mul_right _ (by omega)
          omega
    · rename_i fs hu
      simp only [Bool.and_eq_true, beq_iff_eq] at hp
      obtain ⟨hpf, hcon⟩ := hp
      obtain ⟨xs, m, rfl, rfl, hlen, hxl, hf⟩ := DataW.trod_struct hu h
      simp only [DataW.weights, hu] at hw
      obtain ⟨R1, H1, acs, l1, e1, r1, v1, q1⟩ := open_fields (X := X) (P := P) (w := w) (enc := enc) (n := m) cs (P.cellsOf t) hlen fs.toList xs 0
        (fun f hf' cs x hx hwx R H hr => open_value hB n f.type (List.all_eq_true.1 hpf f hf') m cs x hx hwx R H hr) hcon (by simpa using hxl)
        (fun i f hi => by
          have h1 := hf i f (by simpa using hi)
          have hil : i < fs.size := by
            rcases Nat.lt_or_ge i fs.size with q | q
            · exact q
            · rw [List.getElem?_eq_none (by simpa using q)] at hi; cases hi
          exact ⟨xs[i]'(by omega), List.getElem?_eq_getElem (by omega), by rw [h1]; exact List.getElem?_eq_getElem (by omega)⟩) hw R H hr
      exact ⟨R1, H1, acs, l1, e1, r1, by simpa using v1, .struct hu q1⟩
    · rename_i k e hu
      simp only [Bool.and_eq_true, beq_iff_eq] at hp
      obtain ⟨hpe, hcon⟩ := hp
      obtain ⟨xs, m, rfl, rfl, hlen, hxl, hf⟩ := trod_array hu h
      simp only [DataW.weights, hu] at hw
      obtain ⟨R1, H1, acs, l1, e1, r1, v1, q1⟩ := open_row (X := X) (P := P) (w := w) (enc := enc) (e := e) (n := m) (P.cellsOf e) (fun cs x hx hwx R H hr => open_value hB n e hpe m cs x hx hwx R H hr) k
        ((List.range k).map fun i => (cs.drop (i * P.cellsOf e)).take (P.cellsOf e)) xs (by simp) hxl
        (fun i hi => by
          have h1 := hf i hi
          refine ⟨(cs.drop (i * P.cellsOf e)).take (P.cellsOf e), xs[i]'(by omega), ?_, List.getElem?_eq_getElem (by omega), ?_⟩
          · simp only [List.getElem?_map, List.getElem?_range hi, Option.map_some]
          · rw [h1]; exact List.getElem?_eq_getElem (by omega)) hw R H hr
      rw [pieces_flatten k cs (by rw [hlen, hcon])] at v1
      exact ⟨R1, H1, acs, l1, e1, r1, v1, .array hu q1⟩
    · cases hp

/-- Arguments: their values. -/
inductive RdArgs (P : Program) (H : Hp) : List TypeId → List Value → Prop where
  | nil : RdArgs P H [] []
  | cons {t : TypeId} {ts : List TypeId} {v : Value} {vs : List Value} (h : Rd P H t v.cells.toList) (hv : match isAggD P t with | some true => ∃ cs, v = .agg cs | _ => v.cells.toList = [v]) (hs : RdArgs P H ts vs) : RdArgs P H (t :: ts) (v :: vs)

theorem RdArgs.mono {H H' : Hp} (x : Ext H H') : ∀ {ts : List TypeId} {vs : List Value}, RdArgs P H ts vs → RdArgs P H' ts vs
  | _, _, .nil => .nil
  | _, _, .cons h hv hs => .cons (h.mono x) hv (RdArgs.mono x hs)

theorem open_args (hB : X.B = w.heap.size) {n base : Nat} : ∀ (ts : List TypeId) (vs : List Value) (ds : List (DataW Ht)) (ps : List MemPlace), (ts.all (plainT P n)) = true → (∀ (j : Nat) t v, ts[j]? = some t → vs[j]? = some v → Value.okWide P w .any base t v) →
    DataW.TrodAll enc P w 0 (fun _ => true) true ts vs ds ps → (DataW.weightsEach P ts ds).all (· ≤ reachBytes) = true → ∀ (R : Ren) (H : Hp), Rel X R H w →
      ∃ R' H' avs, R.le R' ∧ Ext H H' ∧ Rel X R' H' w ∧ VRs R' avs vs ∧ RdArgs P H' ts avs
  | [], vs, ds, ps, _, _, h, _, R, H, hr => by
    match vs, ds, h with
    | [], [], h => exact ⟨R, H, [], Ren.le_refl R, Ext.refl H, hr, .nil, .nil⟩
  | t :: ts, vs, ds, ps, hp, hok, h, hw, R, H, hr => by
    match vs, ds, h with
    | v :: vs, d :: ds, h =>
      obtain ⟨p, q, ⟨fuel, h1⟩, h2, _⟩ := h
      simp only [List.all_cons, Bool.and_eq_true] at hp
      obtain ⟨w1, w2⟩ := weightsEach_cons hw
      obtain ⟨R1, H1, acs, l1, e1, r1, v1, q1⟩ := open_value (X := X) hB n t hp.1 fuel _ _ h1 w1 R H hr
      obtain ⟨R2, H2, avs, l2, e2, r2, v2, q2⟩ := open_args hB (n := n) (base := base) ts vs ds q hp.2 (fun j t v a b => hok (j + 1) t v (by simpa using a) (by simpa using b)) h2 w2 R1 H1 r1
      have hv := hok 0 t v rfl rfl
      have hpt := hp.1
      cases n with
      | zero => cases hpt
      | succ n =>
        unfold plainT at hpt
        unfold Value.okWide at hv
        have hlen := v1.length
        have key : ∀ av : Value, VR R1 av v → av.cells.toList = acs → (match isAggD P t with | some true => ∃ cs, av = .agg cs | _ => av.cells.toList = [av]) →
            ∃ R' H' avs, R.le R' ∧ Ext H H' ∧ Rel X R' H' w ∧ VRs R' avs (v :: vs) ∧ RdArgs P H' (t :: ts) avs := by
          intro av h1 h2 h3
          refine ⟨R2, H2, av :: avs, Ren.le_trans l1 l2, e1.trans e2, r2, .cons (h1.mono l2) v2, .cons ?_ h3 q2⟩
          rw [h2]; exact q1.mono e2
        have scal : ∀ (hna : v.cells.toList = [v]) (hnagg : isAggD P t = some false), (∀ av ∈ acs, av.cells.toList = [av]) → ∃ R' H' avs, R.le R' ∧ Ext H H' ∧ Rel X R' H' w ∧ VRs R' avs (v :: vs) ∧ RdArgs P H' (t :: ts) avs := by
          intro hna hnagg hone
          rw [hna] at v1
          cases v1 with
          | cons hv1 hn1 =>
            cases hn1
            refine key _ hv1 (hone _ (List.mem_cons_self ..)) ?_
            rw [hnagg]; exact hone _ (List.mem_cons_self ..)
        split at hpt
        · rename_i hu
          rw [hu] at hv
          simp only [Cell.okWide, Cell.ok, hu] at hv
          split at hv <;> first | (exact hv.elim) | skip
          all_goals
            refine scal rfl (by simp [isAggD, hu]) ?_
            cases q1 <;> simp_all [Value.cells]
        · rename_i k hu
          rw [hu] at hv
          simp only [Cell.okWide, Cell.ok, hu] at hv
          split at hv <;> first | (exact hv.elim) | skip
          all_goals
            refine scal rfl (by simp [isAggD, hu]) ?_
            cases q1 <;> simp_all [Value.cells]
        · rename_i hu
          rw [hu] at hv
          simp only [Cell.okWide, Cell.ok, hu] at hv
          split at hv <;> first | (exact hv.elim) | skip
          all_goals
            refine scal rfl (by simp [isAggD, hu]) ?_
            cases q1 <;> simp_all [Value.cells]
        · rename_i e hu
          rw [hu] at hv
          simp only [Cell.okWide, Cell.ok, hu] at hv
          split at hv <;> first | (exact hv.elim) | skip
          all_goals
            refine scal rfl (by simp [isAggD, hu]) ?_
            cases q1 <;> simp_all [Value.cells]
        · rename_i fs hu
          rw [hu] at hv
          obtain ⟨cs, rfl, _⟩ := hv
          refine key (.agg ⟨acs⟩) (.agg (by simpa [Value.cells] using v1)) rfl ?_
          simp [isAggD, hu]
        · rename_i k e hu
          rw [hu] at hv
          obtain ⟨cs, rfl, _⟩ := hv
          refine key (.agg ⟨acs⟩) (.agg (by simpa [Value.cells] using v1)) rfl ?_
          simp [isAggD, hu]
        · cases hpt
end opening
end Go.Det

set_option linter.unusedSimpArgs false
set_option linter.unusedVariables false
namespace Go.Det
open Go Go.RowKit Go.ChangeShapes

/-! ## 19. A law -/
theorem SCall.calls {P : Program} {f : FuncId} {args args' : List Value} {H : Hp} {v : Value} (h : SCall P f args H fun e _ => e = .ret v) {X : Cx} {R : Ren} {w : World} (hG : GX P X) (hR : Rel X R H w) (ha : VRs R args args') :
    Calls P f ⟨args'⟩ w fun e w' => (∃ v' R', e = .returned v' ∧ VR R' v v') ∧ Below X.B X.w0 w' := by
  obtain ⟨en, H', q, k⟩ := h
  subst q
  intro cs
  obtain ⟨R', w', en', f', l, r, e, hf, hs, hl⟩ := k X R w args' hG hR ha cs
  cases e with
  | ret hv => exact ⟨_, w', f', ⟨⟨_, R', rfl, hv⟩, r.below⟩, hs, hf, hl⟩

def H0 (G : Nat) : Hp := { t := .nil, next := G, lo := G }
def R0 (G : Nat) : Ren := fun g => if g < G then some ⟨g, 0, 0, 0, false⟩ else none
theorem Rel.start (P : Program) (w : World) : Rel ⟨w.heap.size, w, P.globals.size, fun _ => none⟩ (R0 P.globals.size) (H0 P.globals.size) w := by
  have hg : ∀ b, (H0 P.globals.size).get b = none := fun b => rfl
  refine ⟨fun b x e => (by rw [hg] at e; cases e), fun b c i j x y e => (by rw [hg] at e; cases e), fun b h => ?_, fun b i e ho => ?_, Below.refl _ w, Nat.le_refl _, fun g h => ?_, Nat.le_refl _, fun k o h => (by cases h)⟩
  · have h : P.globals.size ≤ b := h
    simp only [R0]; rw [if_neg (by omega)]
  · unfold R0 at e
    split at e
    · cases e; cases ho
    · cases e
  · have h : g < P.globals.size := h
    refine ⟨_, by simp only [R0]; rw [if_pos h], rfl, rfl⟩

section
variable {Ht : Type} {enc : TypeId × Value → Ht}

theorem trodAll_stays {P : Program} (hl : laidOutB P = true) {W W' : World} (hb : Below W.heap.size W W') : ∀ {ts : List TypeId} {vs : List Value} {ds : List (DataW Ht)} {ps : List MemPlace}, (ts.all fun t => P.readableRec t && decide (t < P.types.size)) = true →
    DataW.TrodAll enc P W 0 (fun _ => true) true ts vs ds ps → DataW.TrodAll enc P W' 0 (fun b => decide (b < W.heap.size)) true ts vs ds ps
  | [], [], [], _, _, h => h
  | t :: ts, v :: vs, d :: ds, _, hr, ⟨p, q, h1, h2, e⟩ => by
    simp only [List.all_cons, Bool.and_eq_true, decide_eq_true_eq] at hr
    have hlt : ∀ x ∈ p, x.block < W.heap.size := by obtain ⟨m, hm⟩ := h1; exact DataW.trod_lt m _ _ _ hm
    exact ⟨p, q, Below.trod hl hr.1.1 hr.1.2 h1 hb hlt, trodAll_stays hl hb (by simpa using hr.2) h2, e⟩

theorem trodAll_length {P : Program} {W : World} {base : Nat} {sp : Nat → Bool} {held : Bool} : ∀ {ts : List TypeId} {vs : List Value} {ds : List (DataW Ht)} {ps : List MemPlace}, DataW.TrodAll enc P W base sp held ts vs ds ps → ds.length = ts.length
  | [], [], [], _, h => rfl
  | _ :: _, _ :: _, _ :: _, _, ⟨_, _, _, h2, _⟩ => by simp [trodAll_length h2]

theorem lifted_core {C : Checked} {f : FuncId} {fn : Func} {s : ChangeSpec} {n : Nat} {apart : Bool}
    (hl : laidOutB C.prog = true) (hr : (fn.params.toList.all fun t => C.prog.readableRec t && decide (t < C.prog.types.size)) = true) (hp : fn.params.toList.all (plainT C.prog n) = true)
    {rt : TypeId} (hrt : fn.resultTypes = #[rt]) (hub : C.prog.underlying rt = some .bool) (hvars : s.vars = [])
    (hs : ∀ (H : Type) (ds : List (DataW H)), ds.length = fn.params.size → s.fn H ds = { results := [.lit (.bool true)], args := ds })
    (law : ∀ (H : Hp) (args : List Value), C.prog.globals.size ≤ H.next → RdArgs C.prog H fn.params.toList args → SCall C.prog f args H (fun e _ => e = .ret (.bool true)))
    (W : World) (base : Nat) (args : Array Value) (ds gs : List (DataW Ht)) (before : List MemPlace)
    (hval : ∀ (j : Nat) t v, fn.params[j]? = some t → args[j]? = some v → Value.okWide C.prog W .any base t v)
    (hW : DataW.Whole enc C.prog fn.params.toList s.vars false W args.toList ds gs before)
    (hsz : (DataW.weightsEach C.prog (fn.params.toList ++ s.plain.varTypes C.prog) (ds ++ gs)).all (· ≤ reachBytes) = true) (hno : Laid W W.heap.size) :
    Calls C.prog f args W fun e W' => ∃ v, e = .returned v ∧ s.post enc C.prog fn false true false false W args v W' := by
  have hW' := hW
  obtain ⟨p, q, hA, hV, rfl, hfz, hnd⟩ := hW
  rw [hvars] at hV
  obtain ⟨rfl, rfl⟩ := trodVars_none hV
  have hvt : s.plain.varTypes C.prog = [] := by simp [ChangeSpec.plain, DataSpec.varTypes, hvars]
  rw [hvt, List.append_nil, List.append_nil] at hsz
  obtain ⟨R1, H1, avs, l1, e1, r1, v1, q1⟩ := open_args (X := ⟨W.heap.size, W, C.prog.globals.size, fun _ => none⟩) rfl (n := n) (base := base) fn.params.toList args.toList ds p hp
    (fun j t v a b => hval j t v (by simpa using a) (by simpa using b)) hA hsz _ _ (Rel.start C.prog W)
  have hlaw := law H1 avs e1.next q1
  refine (SCall.calls (args' := args.toList) hlaw ⟨rfl, hno⟩ r1 v1).mono fun e W' ⟨⟨v', R', he, hv⟩, hbel⟩ => ?_
  subst he
  cases hv
  have hlen := trodAll_length hA
  refine ⟨_, rfl, ds, [], _, [], p, [], hW', ?_, ?_, ?_, hbel.frame _, fun h => by cases h⟩
  · rw [List.append_nil, hs Ht ds (by simpa using hlen), hrt]
    exact trodAll_mk1 (shut_bool hub true)
  · rw [List.append_nil, hs Ht ds (by simpa using hlen)]
    exact trodAll_stays hl hbel hr hA
  · rw [List.append_nil, hs Ht ds (by simpa using hlen), hvars]
    rfl

theorem lifted {C : Checked} {os : Os} {f : FuncId} {fn : Func} {s : ChangeSpec} {n : Nat} (own : ownKnob C.prog.godebug = none) (started : os.Started) (noInit : C.prog.inits.idxOf? f = none) (hfn : C.prog.funcs[f]? = some fn)
    (witness : ∃ (w : World) (tape : Tape) (i : Input), w.os = os ∧ (w.forCall tape i).Shaped C.prog ∧ i.vars = [] ∧ Input.okWide C.prog (w.forCall tape i) .any w.heap.size f i ∧
      s.pre6 enc C.prog fn [] false (w.forCall tape i).memory i.args ∧ ({} : Assume).holds C.prog (lone (Frame.enter C.prog f i.args .normal) [] (w.forCall tape i)))
    (hl : laidOutB C.prog = true) (hr : (fn.params.toList.all fun t => C.prog.readableRec t && decide (t < C.prog.types.size)) = true) (hp : fn.params.toList.all (plainT C.prog n) = true)
    {rt : TypeId} (hrt : fn.resultTypes = #[rt]) (hub : C.prog.underlying rt = some .bool) (hvars : s.vars = [])
    (hs : ∀ (H : Type) (ds : List (DataW H)), ds.length = fn.params.size → s.fn H ds = { results := [.lit (.bool true)], args := ds })
    (hno : ∀ W : World, Laid W W.heap.size)
    (law : ∀ (H : Hp) (args : List Value), C.prog.globals.size ≤ H.next → RdArgs C.prog H fn.params.toList args → SCall C.prog f args H (fun e _ => e = .ret (.bool true))) :
    ReturnsInHanded {} C os f .any (s.pre6 enc C.prog fn [] false) (s.post enc C.prog fn false true false false) := by
  refine returnsInHanded_of_change_sized own started noInit hfn witness ?_
  intro W base args ds gs before hval hW hcnd hsz _
  exact lifted_core (n := n) (apart := false) hl hr hp hrt hub hvars hs law W base args ds gs before hval hW hsz (hno W)

/-- The same where the row lists package-level variables. -/
theorem liftedX {C : Checked} {os : Os} {f : FuncId} {fn : Func} {s : ChangeSpec} {n : Nat} {X : World → Prop} (hX : ∀ w w' : World, w.heap = w'.heap → X w → X w') (hXl : ∀ w : World, X w → w.ShapedOpen C.prog → Laid w w.heap.size)
    (own : ownKnob C.prog.godebug = none) (started : os.Started) (noInit : C.prog.inits.idxOf? f = none) (hfn : C.prog.funcs[f]? = some fn)
    (witness : ∃ (w : World) (tape : Tape) (i : Input), w.os = os ∧ (w.forCall tape i).Shaped C.prog ∧ i.vars = [] ∧ Input.okWide C.prog (w.forCall tape i) .any w.heap.size f i ∧
      ((s.pre enc C.prog fn [] false (w.forCall tape i).memory i.args ∧ X (w.forCall tape i).memory) ∧ sizedMet enc C.prog fn (OpenSpec.ofChange s) false (w.forCall tape i).memory i.args) ∧ ({} : Assume).holds C.prog (lone (Frame.enter C.prog f i.args .normal) [] (w.forCall tape i)))
    (hl : laidOutB C.prog = true) (hr : (fn.params.toList.all fun t => C.prog.readableRec t && decide (t < C.prog.types.size)) = true) (hp : fn.params.toList.all (plainT C.prog n) = true)
    {rt : TypeId} (hrt : fn.resultTypes = #[rt]) (hub : C.prog.underlying rt = some .bool) (hvars : s.vars = [])
    (hs : ∀ (H : Type) (ds : List (DataW H)), ds.length = fn.params.size → s.fn H ds = { results := [.lit (.bool true)], args := ds })
    (law : ∀ (H : Hp) (args : List Value), C.prog.globals.size ≤ H.next → RdArgs C.prog H fn.params.toList args → SCall C.prog f args H (fun e _ => e = .ret (.bool true))) :
    ReturnsInHanded {} C os f .any (fun w args => (s.pre enc C.prog fn [] false w args ∧ X w) ∧ sizedMet enc C.prog fn (OpenSpec.ofChange s) false w args) (s.post enc C.prog fn false true false false) := by
  refine returnsInHanded_of_calls own started noInit witness ?_
  intro w tape i _ hsh _ hok hpre hholds
  obtain ⟨_, _, _, fn', hfn', _, _, _, _, hval⟩ := hok
  have e : fn' = fn := Option.some.inj (hfn'.symm.trans hfn)
  subst e
  obtain ⟨⟨⟨ds, gs, before, hw, hc⟩, hx⟩, hz⟩ := hpre
  have hw' := DataW.Whole.of_heap (w' := w.forCall tape i) (by rfl) hw
  refine (lifted_core (n := n) (apart := false) hl hr hp hrt hub hvars hs law (w.forCall tape i) w.heap.size i.args ds gs before hval hw' (hz.weights hw) (hXl _ (hX _ _ (by rfl) hx) hsh)).mono fun e W' ⟨v, he, hp⟩ => ?_
  subst he
  exact ChangeSpec.post_blind hp
end
end Go.Det

set_option linter.unusedSimpArgs false
set_option linter.unusedVariables false
namespace Go.Det
open Go Go.RowKit

/-! ## 20. A symbolic run, from stop to stop -/
inductive KI where
  | code (c : Code)
  | inBlock (id : Nat)
  | inLoop (c : Code)
  | ops (a : Array Oper) (m i : Nat)
abbrev KK := List KI

def item (P : Program) : KI → (Ex → SS → Prop) → SS → Prop
  | .code c, Q, s => J P c Q s
  | .inBlock _, Q, s => Q .normal s
  | .inLoop c, Q, s => JI P c Q s
  | .ops a m i, Q, s => JL P a m i Q s
/-- From a stack of items on. -/
def QK (P : Program) : KK → (Ex → SS → Prop) → Ex → SS → Prop
  | [], Q, e, s => Q e s
  | it :: k, Q, .normal, s => item P it (QK P k Q) s
  | it :: k, Q, .exit id, s => match it with
    | .inBlock id' => if id = id' then QK P k Q .normal s else QK P k Q (.exit id) s
    | _ => QK P k Q (.exit id) s
  | _ :: _, Q, e, s => Q e s
def JK (P : Program) (k : KK) (Q : Ex → SS → Prop) (s : SS) : Prop := QK P k Q .normal s

section rules
variable {P : Program} {Q : Ex → SS → Prop} {s : SS} {k : KK}

theorem QK_ret : ∀ (k : KK) (s : SS), QK P k Q .ret s = Q .ret s
  | [], _ => rfl
  | _ :: _, _ => rfl
theorem QK_panic {v : Value} : ∀ (k : KK) (s : SS), QK P k Q (.panic v) s = Q (.panic v) s
  | [], _ => rfl
  | _ :: _, _ => rfl

theorem J.ofJK {c : Code} (h : JK P [.code c] Q s) : J P c Q s := h
theorem JK.loop' {c : Code} (h : JK P (.inLoop c :: k) Q s) : JI P c (QK P k Q) s := h

theorem andS_QK {it : KI} {e : Ex} {t : SS} (hb : ∀ id, it ≠ .inBlock id) (h : QK P (it :: k) Q e t) : andS (QK P k Q) (item P it (QK P k Q)) e t := by
  cases e with
  | normal => exact h
  | exit id => cases it <;> first | exact h | exact absurd rfl (hb _)
  | ret => show QK P k Q .ret t; rw [QK_ret]; exact h
  | panic v => show QK P k Q (.panic v) t; rw [QK_panic]; exact h

theorem JK.seq {x y : Code} (h : JK P (.code x :: .code y :: k) Q s) : JK P (.code (.seq x y) :: k) Q s :=
  J.seq (J.mono h fun e t q => andS_QK (it := .code y) (by intro _ h; cases h) q)
theorem JK.block {id : Nat} {c : Code} (h : JK P (.code c :: .inBlock id :: k) Q s) : JK P (.code (.block id c) :: k) Q s :=
  J.block (J.mono h fun e t q => by
    cases e with
    | normal => exact q
    | exit id' =>
      show (if id' = id then QK P k Q .normal t else QK P k Q (.exit id') t)
      exact q
    | ret => show QK P k Q .ret t; rw [QK_ret]; exact q
    | panic v => show QK P k Q (.panic v) t; rw [QK_panic]; exact q)
theorem JK.loop {c : Code} (h : JK P (.code c :: .inLoop c :: k) Q s) : JK P (.code (.loop c) :: k) Q s :=
  J.loop (J.mono h fun e t q => andS_QK (it := .inLoop c) (by intro _ h; cases h) q)
theorem JK.round {c : Code} (h : JK P (.code c :: .inLoop c :: k) Q s) : JK P (.inLoop c :: k) Q s :=
  JI.round (J.mono h fun e t q => andS_QK (it := .inLoop c) (by intro _ h; cases h) q)
theorem JK.less (l : Env) (hl : lessB l s.l) {it : KI} (hit : (∃ c, it = .code c) ∨ ∃ c, it = .inLoop c) (h : JK P (it :: k) Q { s with l := l }) : JK P (it :: k) Q s := by
  rcases hit with ⟨c, rfl⟩ | ⟨c, rfl⟩
  · exact J.less l hl h
  · exact JI.less l hl h

/-- A loop, by a measure. -/
theorem JK.ind {α : Type} {c : Code} (I : α → SS) (μ : α → Nat) (ok : α → Prop) (h : ∀ x, ok x → (∀ y, ok y → μ y < μ x → JK P (.inLoop c :: k) Q (I y)) → JK P (.code c :: .inLoop c :: k) Q (I x)) : ∀ x, ok x → JK P (.inLoop c :: k) Q (I x) := by
  have key : ∀ n x, ok x → μ x = n → JK P (.inLoop c :: k) Q (I x) := by
    intro n
    induction n using Nat.strongRecOn with
    | _ n ih => intro x hok hx; exact JK.round (h x hok fun y hy hlt => ih _ (by omega) y hy rfl)
  exact fun x hx => key _ x hx rfl

/-- The same, from ahead of the loop. -/
theorem JK.ind' {α : Type} {c : Code} (I : α → SS) (μ : α → Nat) (ok : α → Prop) (h : ∀ x, ok x → (∀ y, ok y → μ y < μ x → JK P (.inLoop c :: k) Q (I y)) → JK P (.code c :: .inLoop c :: k) Q (I x)) (x : α) (hx : ok x) : JK P (.code (.loop c) :: k) Q (I x) :=
  JK.loop (h x hx fun y hy _ => JK.ind I μ ok h y hy)
theorem JK.cond {c : Operand} {x y : Code} {t : Bool} (hc : evS P s c = some (.bool t)) (h1 : t = true → JK P (.code x :: k) Q s) (h2 : t = false → JK P (.code y :: k) Q s) : JK P (.code (.cond c x y) :: k) Q s := J.cond2 hc h1 h2
theorem JK.ops {a : Array Oper} {i m : Nat} {s' : SS} (h : doOp P a i s = some (.val s')) (hk : JK P (.ops a m (i + 1) :: k) Q s') : JK P (.ops a (m + 1) i :: k) Q s := JL.val h hk
theorem JK.call {a : Array Oper} {i m : Nat} {f : FuncId} {args : List Value} {d : Option Tmp} (h : doOp P a i s = some (.call f args d))
    (hk : SCall P f args s.H fun
      | .ret v, H' => ∃ s', putS s d v H' = some s' ∧ JK P (.ops a m (i + 1) :: k) Q s'
      | .panic v, H' => Q (.panic v) { s with H := H' }) : JK P (.ops a (m + 1) i :: k) Q s :=
  JL.call h (hk.mono fun e H' q => by
    cases e with
    | ret v => exact q
    | panic v => show QK P k Q (.panic v) _; rw [QK_panic]; exact q)
end rules

inductive Ease where
  | easy | cmp | hard
/-- Operations that need no thought; comparisons; others. -/
def ease (P : Program) (o : Oper) : Ease := match o.op with
  | .move _ | .assign _ | .pick .. | .alloc _ | .box .. | .build .. | .buildSlice .. | .nilCheck _ | .makeInterface .. | .makeFunc .. | .fieldAddr .. | .field .. | .typeAssert .. | .extract .. | .range .. => .easy
  | .binOp op t _ _ _ => match op with
    | .eql | .neq | .lss | .leq | .gtr | .geq => .cmp
    | .quo | .rem | .shl | .shr => .hard
    | _ => match P.underlying t with
      | some (.int _) => .easy
      | _ => .hard
  | .unOp .. => .easy
  | .call c => match c.callee with
    | .value _ => .easy
    | .builtin .len => .easy
    | _ => .hard
  | _ => .hard

inductive Out where
  /-- All is done. -/
  | fin (e : Ex) (s : SS)
  | loop (c : Code) (k : KK) (s : SS)
  | again (c : Code) (k : KK) (s : SS)
  | call (f : FuncId) (args : List Value) (d : Option Tmp) (k : KK) (s : SS)
  | hard (a : Array Oper) (m i : Nat) (k : KK) (s : SS)
  | cmp (a : Array Oper) (m i : Nat) (k : KK) (s : SS)
  | draw (id : Nat) (a : Array Oper) (k : KK) (s : SS)
  | stuck
  | go (k : KK) (s : SS)

def unwS : Nat → KK → Option KK
  | _, [] => none
  | id, .inBlock id' :: k => match Nat.beq id id' with | true => some k | false => unwS id k
  | id, .code _ :: k => unwS id k
  | id, .inLoop _ :: k => unwS id k
  | id, .ops .. :: k => unwS id k

def symStep (P : Program) (k : KK) (s : SS) : Out :=
  match k with
  | [] => .fin .normal s
  | .inBlock _ :: k => .go k s
  | .inLoop c :: k => .again c k s
  | .ops a 0 i :: k => .go k s
  | .ops a (m + 1) i :: k =>
    match a[i]? with
    | none => .stuck
    | some o =>
      match gdS a s o with
      | none => .stuck
      | some false => match putS s o.dst undef s.H with
        | some s' => .go (.ops a m (i + 1) :: k) s'
        | none => .stuck
      | some true =>
        match ease P o with
        | .hard => .hard a m i k s
        | .cmp => .cmp a m i k s
        | .easy =>
          match opD P s.H (evS P s) o with
          | some (.val v H') => match notDefer o.op with
            | true => match putS s o.dst v H' with
              | some s' => .go (.ops a m (i + 1) :: k) s'
              | none => .stuck
            | false => .stuck
          | some (.enter f args) => match notDefer o.op with
            | true => match putS s o.dst undef s.H with
              | some _ => .call f args o.dst (.ops a m (i + 1) :: k) s
              | none => .stuck
            | false => .stuck
          | _ => .stuck
  | .code c :: k =>
    match c with
    | .skip => .go k s
    | .label _ => .go k s
    | .exit id => match unwS id k with
      | some k' => .go k' s
      | none => .fin (.exit id) s
    | .ret => .fin .ret s
    | .seq x y => .go (.code x :: .code y :: k) s
    | .block id c => .go (.code c :: .inBlock id :: k) s
    | .cond c x y => match evS P s c with
      | some (.bool true) => .go (.code x :: k) s
      | some (.bool false) => .go (.code y :: k) s
      | _ => .stuck
    | .loop c => .loop c k s
    | .region _ a false => .go (.ops a a.size 0 :: k) s
    | .region id a true => .draw id a k s
    | _ => .stuck

def sym (P : Program) : Nat → KK → SS → Out
  | 0, k, s => .go k s
  | n + 1, k, s => match symStep P k s with
    | .go k' s' => sym P n k' s'
    | o => o

/-- What is left to show at a stop. -/
def Out.ok (P : Program) (Q : Ex → SS → Prop) : Out → Prop
  | .fin e s => Q e s
  | .loop c k s => JK P (.code (.loop c) :: k) Q s
  | .again c k s => JK P (.inLoop c :: k) Q s
  | .call f args d k s => SCall P f args s.H fun
      | .ret v, H' => ∃ s', putS s d v H' = some s' ∧ JK P k Q s'
      | .panic v, H' => Q (.panic v) { s with H := H' }
  | .hard a m i k s => JK P (.ops a (m + 1) i :: k) Q s
  | .cmp a m i k s => JK P (.ops a (m + 1) i :: k) Q s
  | .draw id a k s => JK P (.code (.region id a true) :: k) Q s
  | .go k s => JK P k Q s
  | .stuck => False

section rules
variable {P : Program} {Q : Ex → SS → Prop}
theorem QK_exit {id : Nat} {s : SS} : ∀ {k : KK}, (match unwS id k with | some k' => JK P k' Q s | none => Q (.exit id) s) → QK P k Q (.exit id) s
  | [], h => h
  | .inBlock id' :: k, h => by
    show (if id = id' then QK P k Q .normal s else QK P k Q (.exit id) s)
    unfold unwS at h
    cases hb : Nat.beq id id' with
    | true => rw [hb] at h; rw [if_pos (Nat.eq_of_beq_eq_true hb)]; exact h
    | false => rw [hb] at h; rw [if_neg (Nat.ne_of_beq_eq_false hb)]; exact QK_exit h
  | .code _ :: k, h => QK_exit (k := k) h
  | .inLoop _ :: k, h => QK_exit (k := k) h
  | .ops .. :: k, h => QK_exit (k := k) h

theorem symStep_ok {k : KK} {s : SS} (h : (symStep P k s).ok P Q) : JK P k Q s := by
  unfold symStep at h
  split at h
  · exact h
  · exact h
  · exact h
  · exact JL.nil h
  · split at h
    · exact h.elim
    · rename_i o ho
      split at h
      · exact h.elim
      · rename_i hg
        split at h
        · rename_i hp
          exact JK.ops (by unfold doOp; simp only [ho, hg, hp]) h
        · exact h.elim
      · rename_i hg
        split at h
        · exact h
        · exact h
        · split at h
          · rename_i he
            split at h
            · rename_i hd
              split at h
              · rename_i hp
                exact JK.ops (by unfold doOp; simp only [ho, hg, hd, he, hp]) h
              · exact h.elim
            · exact h.elim
          · rename_i he
            split at h
            · rename_i hd
              split at h
              · rename_i hp
                exact JK.call (by unfold doOp; simp only [ho, hg, hd, he, hp]) h
              · exact h.elim
            · exact h.elim
          · exact h.elim
  · split at h
    · exact J.skip h
    · exact J.label h
    · rename_i id
      refine J.exit (QK_exit ?_)
      split at h <;> exact h
    · refine J.ret ?_
      show QK P _ Q .ret s
      rw [QK_ret]; exact h
    · exact JK.seq h
    · exact JK.block h
    · split at h
      · rename_i hc; exact JK.cond hc (fun _ => h) (fun q => by cases q)
      · rename_i hc; exact JK.cond hc (fun q => by cases q) (fun _ => h)
      · exact h.elim
    · exact h
    · exact J.region rfl h
    · exact h
    · exact h.elim

theorem sym_ok : ∀ (n : Nat) {k : KK} {s : SS}, (sym P n k s).ok P Q → JK P k Q s
  | 0, _, _, h => h
  | n + 1, k, s, h => by
    unfold sym at h
    split at h
    · rename_i k' s' hs
      exact symStep_ok (by rw [hs]; exact sym_ok n h)
    · exact symStep_ok h

/-- From a function's beginning to its first stop. -/
theorem SCall.sym (n : Nat) {f : FuncId} {fn : Func} {c : Code} {args : List Value} {H : Hp} {Q : En → Hp → Prop} (hf : P.funcs[f]? = some fn) (hb : fn.body = some c) {m : Nat} (hn : fn.ntmps = m) (hl : Nat.ble args.length m = true)
    {res : List ResultVar} (hr : fn.results.toList = res) {o : Out} (ho : Det.sym P n [.code c] { l := envOf args, n := m, H := H, defs := [], dok := true } = o) (h : o.ok P (bodyS P res Q)) : SCall P f args H Q :=
  SCall.body hf hb hn (Nat.le_of_ble_eq_true hl) hr (sym_ok n (k := [.code c]) (by rw [ho]; exact h))
theorem JK.sym (n : Nat) {k : KK} {s : SS} {o : Out} (ho : Det.sym P n k s = o) (h : o.ok P Q) : JK P k Q s := sym_ok n (by rw [ho]; exact h)
end rules
end Go.Det

set_option linter.unusedSimpArgs false
set_option linter.unusedVariables false
namespace Go.Det
open Go Go.RowKit

/-! ## 21. Rules at the stops -/
/-- A call that returns. -/
def Ret (R : Value → Hp → Prop) : En → Hp → Prop := fun e H' => ∃ v, e = .ret v ∧ R v H'

section rules
variable {P : Program} {Q : Ex → SS → Prop} {k k' : KK} {s s' s'' : SS} (n : Nat)

theorem SCall.start {f : FuncId} {fn : Func} {c : Code} {args : List Value} {H : Hp} {Q : En → Hp → Prop} (hf : P.funcs[f]? = some fn) (hb : fn.body = some c) {m : Nat} (hn : fn.ntmps = m) {g : Nat} (hg : args.length = g) (hl : Nat.ble g m = true)
    {res : List ResultVar} (hr : fn.results.toList = res) {l : Env} (he : envOf args = l) (h : JK P [.code c] (bodyS P res Q) { l := l, n := m, H := H, defs := [], dok := true }) : SCall P f args H Q :=
  SCall.body hf hb hn (by rw [hg]; exact Nat.le_of_ble_eq_true hl) hr (by rw [he]; exact h)

/-- A comparison: both ways. -/
theorem JK.cm {a : Array Oper} {m i : Nat} {o : Oper} {b : Bool} {s1 s2 : SS} (hs : Det.sym P n k s = .cmp a m i k' s') (ho : a[i]? = some o) (hg : gdS a s' o = some true) (hd : notDefer o.op = true) (he : opD P s'.H (evS P s') o = some (.val (.bool b) s'.H))
    (hp1 : putS s' o.dst (.bool true) s'.H = some s1) (hp2 : putS s' o.dst (.bool false) s'.H = some s2) (h1 : b = true → JK P (.ops a m (i + 1) :: k') Q s1) (h2 : b = false → JK P (.ops a m (i + 1) :: k') Q s2) : JK P k Q s := by
  cases b
  · exact JK.sym n hs (JK.ops (by unfold doOp; simp only [ho, hg, hd, he, hp2]) (h2 rfl))
  · exact JK.sym n hs (JK.ops (by unfold doOp; simp only [ho, hg, hd, he, hp1]) (h1 rfl))
theorem JK.fn {e : Ex} (hs : Det.sym P n k s = .fin e s') (h : Q e s') : JK P k Q s := JK.sym n hs h
/-- A state at a loop. -/
abbrev at_ (l : Env) (m : Nat) (H : Hp) : SS := { l := l, n := m, H := H, defs := [], dok := true }
theorem SS.eta {s : SS} {m : Nat} {H : Hp} (h1 : s.n = m) (h2 : s.H = H) (h3 : s.defs = []) (h4 : s.dok = true) (l : Env) : ({ s with l := l } : SS) = at_ l m H := by
  cases s; simp only at h1 h2 h3 h4; subst h1 h2 h3 h4; rfl
/-- A loop: what its slots and its memory are, by a measure. -/
theorem JK.lp {α : Type} {c : Code} {m : Nat} (I : α → Env) (M : α → Hp) (μ : α → Nat) (ok : α → Prop) (x0 : α) (hs : Det.sym P n k s = .loop c k' s') (hm : s'.n = m) (hd : s'.defs = []) (hk : s'.dok = true) (hx : ok x0) (hl : lessB (I x0) s'.l) (hH : s'.H = M x0)
    (h : ∀ x, ok x → (∀ y, ok y → μ y < μ x → JK P (.inLoop c :: k') Q (at_ (I y) m (M y))) → JK P (.code c :: .inLoop c :: k') Q (at_ (I x) m (M x))) : JK P k Q s := by
  refine JK.sym n hs ?_
  refine JK.less (I x0) hl (.inl ⟨_, rfl⟩) ?_
  rw [SS.eta hm hH hd hk]
  exact JK.ind' (fun x => at_ (I x) m (M x)) μ ok h x0 hx
theorem JK.ag {c : Code} {m : Nat} (l : Env) (H : Hp) (hs : Det.sym P n k s = .again c k' s') (hm : s'.n = m) (hd : s'.defs = []) (hk : s'.dok = true) (hl : lessB l s'.l) (hH : s'.H = H) (h : JK P (.inLoop c :: k') Q (at_ l m H)) : JK P k Q s := by
  refine JK.sym n hs ?_
  refine JK.less l hl (.inr ⟨_, rfl⟩) ?_
  rw [SS.eta hm hH hd hk]
  exact h
theorem JK.dr {id : Nat} {a : Array Oper} (hs : Det.sym P n k s = .draw id a k' s') (h : JK P (.code (.region id a true) :: k') Q s') : JK P k Q s := JK.sym n hs h
theorem JK.cl {f : FuncId} {args : List Value} {d : Option Tmp} {R : Value → Hp → Prop} (hs : Det.sym P n k s = .call f args d k' s') (hc : SCall P f args s'.H (Ret R)) (hk : ∀ v H', R v H' → ∃ s'', putS s' d v H' = some s'' ∧ JK P k' Q s'') : JK P k Q s :=
  JK.sym n hs (hc.mono fun e H' ⟨v, h1, h2⟩ => by subst h1; exact hk v H' h2)
theorem JK.hd {a : Array Oper} {m i : Nat} {o : Oper} {v : Value} {H' : Hp} (hs : Det.sym P n k s = .hard a m i k' s') (ho : a[i]? = some o) (hg : gdS a s' o = some true) (hd : notDefer o.op = true) (he : opD P s'.H (evS P s') o = some (.val v H')) (hp : putS s' o.dst v H' = some s'') (h : JK P (.ops a m (i + 1) :: k') Q s'') : JK P k Q s :=
  JK.sym n hs (JK.ops (by unfold doOp; simp only [ho, hg, hd, he, hp]) h)
/-- An operation that is not wanted. -/
theorem JK.no {a : Array Oper} {m i : Nat} {o : Oper} (hs : Det.sym P n k s = .hard a m i k' s') (ho : a[i]? = some o) (hg : gdS a s' o = some false) (hp : putS s' o.dst undef s'.H = some s'') (h : JK P (.ops a m (i + 1) :: k') Q s'') : JK P k Q s :=
  JK.sym n hs (JK.ops (by unfold doOp; simp only [ho, hg, hp]) h)
end rules

section ops
variable {P : Program} {H : Hp} {ev : Ev} {o : Oper}
theorem opD_load {t : TypeId} {x : Operand} {a v : Value} (ho : o.op = .load t x) (hx : ev x = some a) (h : loadD P H t a = some v) : opD P H ev o = some (.val v H) := by
  unfold opD; simp only [ho, hx, h]
theorem opD_store {t : TypeId} {x y : Operand} {a v : Value} {H' : Hp} (ho : o.op = .store t x y) (hx : ev x = some a) (hy : ev y = some v) (h : storeD P H t a v = some H') : opD P H ev o = some (.val undef H') := by
  unfold opD; simp only [ho, hx, hy, h]
theorem opD_indexAddr {t : TypeId} {x y : Operand} {a i v : Value} (ho : o.op = .indexAddr t x y) (hx : ev x = some a) (hy : ev y = some i) (h : indexAddrD P t a i = some v) : opD P H ev o = some (.val v H) := by
  unfold opD; simp only [ho, hx, hy, h]
theorem opD_index {t : TypeId} {x y : Operand} {a i v : Value} (ho : o.op = .index t x y) (hx : ev x = some a) (hy : ev y = some i) (h : indexD P t a i = some v) : opD P H ev o = some (.val v H) := by
  unfold opD; simp only [ho, hx, hy, h]
theorem opD_bin {op : BinOp} {t u : TypeId} {x y : Operand} {a b v : Value} (ho : o.op = .binOp op t x y u) (hx : ev x = some a) (hy : ev y = some b) (h : binD P ev o op t a b = some v) : opD P H ev o = some (.val v H) := by
  unfold opD; simp only [ho, hx, hy, h]
theorem opD_slice {t : TypeId} {x : Operand} {lo hi mx : Option Operand} {a v : Value} {lo' hi' mx' : Option Value} (ho : o.op = .slice t x lo hi mx) (hx : ev x = some a) (h1 : OptEv ev lo = some lo') (h2 : OptEv ev hi = some hi') (h3 : OptEv ev mx = some mx') (h : sliceD P H t a lo' hi' mx' = some v) : opD P H ev o = some (.val v H) := by
  unfold opD; simp only [ho, hx, h1, h2, h3, h]
theorem opD_append {c : Call} {s x v : Value} {H' : Hp} (ho : o.op = .call c) (hc : c.callee = .builtin .append) (ha : argsD ev c.args.toList = some [s, x]) (h : appendD P H c.argTypes s x = some (v, H')) : opD P H ev o = some (.val v H') := by
  unfold opD; simp only [ho]; unfold callD; simp only [ha, hc, h, Option.map_some]
theorem bin_rem {t : TypeId} {k : IntKind} {a b : Int} (hb : b ≠ 0) : binD P ev o .rem t (.int k a) (.int k b) = some (.int k (a.tmod b)) := by
  simp [binD, intD, hb]
theorem bin_quo {t : TypeId} {k : IntKind} {a b : Int} (hb : b ≠ 0) : binD P ev o .quo t (.int k a) (.int k b) = some (.int k (k.wrap (a.tdiv b))) := by
  simp [binD, intD, hb]
end ops
end Go.Det

set_option linter.unusedSimpArgs false
set_option linter.unusedVariables false
namespace Go.Det
open Go Go.RowKit

/-! ## 22. Slices -/
/-- A slice's first places, in the heap. -/
def Sl (H : Hp) (sz : Nat) (a : Option Addr) (len cap : Nat) (cs : List Value) : Prop :=
  cs.length = len * sz ∧ ((a = none ∧ len = 0 ∧ cap = 0) ∨ ∃ b o, a = some ⟨b, o, none⟩ ∧ (len = 0 ∨ ∃ m all, H.get b = some (.cells m all) ∧ b < H.next ∧ o + len * sz ≤ all.length ∧ (all.drop o).take (len * sz) = cs))

theorem Sl.mono {H H' : Hp} (x : Ext H H') {sz : Nat} {a : Option Addr} {len cap : Nat} {cs : List Value} (h : Sl H sz a len cap cs) : Sl H' sz a len cap cs := by
  obtain ⟨h1, h2⟩ := h
  refine ⟨h1, ?_⟩
  rcases h2 with h2 | ⟨b, o, e, h2 | ⟨m, all, g1, g2, g3, g4⟩⟩
  · exact .inl h2
  · exact .inr ⟨b, o, e, .inl h2⟩
  · exact .inr ⟨b, o, e, .inr ⟨m, all, by rw [x.same b g2]; exact g1, Nat.lt_of_lt_of_le g2 x.next, g3, g4⟩⟩

theorem Sl.addr {P : Program} {H : Hp} {sz : Nat} {a : Option Addr} {len cap : Nat} {cs : List Value} (h : Sl H sz a len cap cs) {t e : TypeId} (ht : P.underlying t = some (.slice e)) (hs : sizeD P e = some sz) {i : Nat} (hi : i < len) {k : IntKind} :
    ∃ b o m all, indexAddrD P t (.slice a len cap) (.int k (i : Nat)) = some (.pointer (some ⟨b, o + i * sz, none⟩)) ∧ H.get b = some (.cells m all) ∧ b < H.next ∧ o + len * sz ≤ all.length ∧ (all.drop o).take (len * sz) = cs := by
  obtain ⟨h1, h2⟩ := h
  rcases h2 with ⟨_, h2, _⟩ | ⟨b, o, e, h2 | ⟨m, all, g1, g2, g3, g4⟩⟩
  · omega
  · omega
  · subst e
    refine ⟨b, o, m, all, ?_, g1, g2, g3, g4⟩
    simp only [indexAddrD, ht, hs]
    rw [if_pos ⟨by omega, by omega⟩]
    simp

/-- One place of a slice of values of one cell. -/
theorem Sl.at1 {P : Program} {H : Hp} {a : Option Addr} {len cap : Nat} {cs : List Value} (h : Sl H 1 a len cap cs) {t e : TypeId} (ht : P.underlying t = some (.slice e)) (hs : sizeD P e = some 1) (hg : isAggD P e = some false) {i : Nat} {v : Value} (hv : cs[i]? = some v) {k : IntKind} :
    ∃ p, indexAddrD P t (.slice a len cap) (.int k (i : Nat)) = some p ∧ loadD P H e p = some v := by
  have hi : i < len := by
    have := (List.getElem?_eq_some_iff.1 hv).1
    have := h.1
    omega
  obtain ⟨b, o, m, all, h1, h2, _, h3, h4⟩ := h.addr ht hs hi (k := k)
  refine ⟨_, h1, ?_⟩
  simp only [loadD, h2, hg]
  rw [← h4, List.getElem?_take_of_lt (by omega), List.getElem?_drop] at hv
  rw [Nat.mul_one]; exact hv

/-- One place of a slice of structs. -/
theorem Sl.atN {P : Program} {H : Hp} {sz : Nat} {a : Option Addr} {len cap : Nat} {cs : List Value} (h : Sl H sz a len cap cs) {t e : TypeId} (ht : P.underlying t = some (.slice e)) (hs : sizeD P e = some sz) (hg : isAggD P e = some true) {i : Nat} (hi : i < len) {k : IntKind} :
    ∃ p, indexAddrD P t (.slice a len cap) (.int k (i : Nat)) = some p ∧ loadD P H e p = some (.agg ⟨(cs.drop (i * sz)).take sz⟩) := by
  obtain ⟨b, o, m, all, h1, h2, _, h3, h4⟩ := h.addr ht hs hi (k := k)
  refine ⟨_, h1, ?_⟩
  have hle : i * sz + sz ≤ len * sz := by rw [← Nat.succ_mul]; exact Nat.mul_le_mul_right _ hi
  simp only [loadD, h2, hg, hs]
  rw [if_pos (by omega), ← h4, List.drop_take, List.drop_drop, List.take_take]
  rw [Nat.min_eq_left (by omega)]

theorem wrap_i64 {x : Int} (h1 : -9223372036854775808 ≤ x) (h2 : x ≤ 9223372036854775807) : IntKind.i64.wrap x = x := by
  have e1 : ((2 : Int) ^ (64 - 1)) = 9223372036854775808 := by decide
  have e2 : ((2 : Int) ^ 64) = 18446744073709551616 := by decide
  simp only [IntKind.wrap, IntKind.signed, IntKind.bits, Bool.true_and, decide_eq_true_eq, e1, e2]
  split <;> omega
theorem wrap_succ {i : Nat} (h : i < 9223372036854775807) : IntKind.i64.wrap ((i : Int) + 1) = ((i + 1 : Nat) : Int) := by
  rw [wrap_i64 (by omega) (by omega)]; omega
end Go.Det
