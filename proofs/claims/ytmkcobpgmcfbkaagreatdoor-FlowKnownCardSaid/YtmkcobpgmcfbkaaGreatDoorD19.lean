import Derived.Test.YtmkcobpgmcfbkaaGreatDoorDb
set_option linter.unusedSimpArgs false
set_option linter.unusedVariables false
namespace Go.Det
open Go Go.RowKit
abbrev Env := List (Nat × Value)
def look : Env → Nat → Option Value
  | [], _ => none
  | (t, v) :: r, u => if u = t then some v else look r u
structure SS where
  l : Env
  n : Nat
  H : Hp
  defs : List (Value × List Value)
  dok : Bool
def SS.st (s : SS) : St := { env := look s.l, n := s.n, H := s.H, defs := s.defs, dok := s.dok }
def evS (P : Program) (s : SS) : Ev
  | .tmp t => look s.l t
  | .const v => if flat v then some v else none
  | .global g => if g < P.globals.size then some (.pointer (some ⟨g, 0, none⟩)) else none
  | .func f => some (.func (.func f) ⟨[]⟩ ⟨[]⟩)
theorem evS_eq (P : Program) (s : SS) : evOf P s.st = evS P s := by funext x; cases x <;> rfl
def putS (s : SS) (d : Option Tmp) (v : Value) (H : Hp) : Option SS :=
  match s, d with
  | ⟨l, n, _, defs, dok⟩, none => some ⟨l, n, H, defs, dok⟩
  | ⟨l, n, _, defs, dok⟩, some t => match Nat.blt t n with
    | true => some ⟨(t, v) :: l, n, H, defs, dok⟩
    | false => none
theorem putS_ok {s s' : SS} {d : Option Tmp} {v : Value} {H : Hp} (h : putS s d v H = some s') : s'.st = (s.st.at_ H).put d v ∧ s.st.fits d := by
  obtain ⟨l, n, H0, defs, dok⟩ := s
  cases d with
  | none =>
    simp only [putS, Option.some.injEq] at h
    subst h; exact ⟨rfl, fun t k => by cases k⟩
  | some t =>
    simp only [putS] at h
    split at h
    · rename_i hb
      cases h
      refine ⟨rfl, fun u k => ?_⟩
      cases k
      rw [Nat.blt_eq] at hb
      exact hb
    · cases h
def gdS (ops : Array Oper) (s : SS) (o : Oper) : Option Bool :=
  match o.guard with
  | none => some true
  | some (j, want) =>
    match ops[j]? with
    | some oj =>
      match oj.dst with
      | some t =>
        match look s.l t with
        | some (.bool b) => some (b == want)
        | some (.tuple ⟨[]⟩) => some false
        | _ => none
      | none => none
    | none => none
theorem gdS_eq (ops : Array Oper) (s : SS) (o : Oper) : gd ops s.st o = gdS ops s o := by
  unfold gd gdS
  cases o.guard with
  | none => rfl
  | some q =>
    obtain ⟨j, want⟩ := q
    simp only
    cases ops[j]? with
    | none => rfl
    | some oj => cases oj.dst <;> rfl
inductive OR where
  | val (s : SS)
  | call (f : FuncId) (args : List Value) (d : Option Tmp)
  | panic (v : Value)
def doOp (P : Program) (ops : Array Oper) (i : Nat) (s : SS) : Option OR :=
  match ops[i]? with
  | none => none
  | some o =>
    match gdS ops s o with
    | none => none
    | some false => match putS s o.dst undef s.H with
      | some s' => some (.val s')
      | none => none
    | some true =>
      match notDefer o.op with
      | false => none
      | true =>
        match opD P s.H (evS P s) o with
        | some (.val v H') => match putS s o.dst v H' with
          | some s' => some (.val s')
          | none => none
        | some (.enter f args) => match putS s o.dst undef s.H with
          | some _ => some (.call f args o.dst)
          | none => none
        | some (.panic v) => some (.panic v)
        | _ => none
theorem doOp_val {P : Program} {ops : Array Oper} {i : Nat} {s s' : SS} (h : doOp P ops i s = some (.val s')) : OpFact P ops i s.st s'.st := by
  unfold doOp at h
  split at h
  · cases h
  · rename_i o ho
    split at h
    · cases h
    · rename_i hg
      split at h
      · rename_i q hq
        cases h
        obtain ⟨h1, h2⟩ := putS_ok hq
        rw [h1]
        exact .skip ho (by rw [gdS_eq]; exact hg) h2
      · cases h
    · rename_i hg
      split at h
      · cases h
      · rename_i hd
        split at h
        · rename_i v H' he
          split at h
          · rename_i q hq
            cases h
            obtain ⟨h1, h2⟩ := putS_ok hq
            rw [h1]
            exact .val ho (by rw [gdS_eq]; exact hg) hd (by rw [evS_eq]; exact he) h2
          · cases h
        · split at h <;> cases h
        · cases h
        · cases h
theorem doOp_call {P : Program} {ops : Array Oper} {i : Nat} {s : SS} {f : FuncId} {args : List Value} {d : Option Tmp} (h : doOp P ops i s = some (.call f args d)) :
    ∃ o, ops[i]? = some o ∧ gd ops s.st o = some true ∧ notDefer o.op = true ∧ opD P s.st.H (evOf P s.st) o = some (.enter f args) ∧ s.st.fits o.dst ∧ o.dst = d := by
  unfold doOp at h
  split at h
  · cases h
  · rename_i o ho
    split at h
    · cases h
    · split at h <;> cases h
    · rename_i hg
      split at h
      · cases h
      · rename_i hd
        split at h
        · split at h <;> cases h
        · rename_i g args' he
          split at h
          · rename_i q hq
            cases h
            obtain ⟨h1, h2⟩ := putS_ok hq
            exact ⟨o, ho, by rw [gdS_eq]; exact hg, hd, by rw [evS_eq]; exact he, h2, rfl⟩
          · cases h
        · cases h
        · cases h
theorem doOp_panic {P : Program} {ops : Array Oper} {i : Nat} {s : SS} {v : Value} (h : doOp P ops i s = some (.panic v)) :
    ∃ o, ops[i]? = some o ∧ gd ops s.st o = some true ∧ notDefer o.op = true ∧ opD P s.st.H (evOf P s.st) o = some (.panic v) := by
  unfold doOp at h
  split at h
  · cases h
  · rename_i o ho
    split at h
    · cases h
    · split at h <;> cases h
    · rename_i hg
      split at h
      · cases h
      · rename_i hd
        split at h
        · split at h <;> cases h
        · split at h <;> cases h
        · rename_i w he; cases h
          exact ⟨o, ho, by rw [gdS_eq]; exact hg, hd, by rw [evS_eq]; exact he⟩
        · cases h
def J (P : Program) (c : Code) (Q : Ex → SS → Prop) (s : SS) : Prop := SC P c (fun e t => ∃ s', s'.st = t ∧ Q e s') s.st
def JL (P : Program) (ops : Array Oper) (k i : Nat) (Q : Ex → SS → Prop) (s : SS) : Prop := SL P ops (List.range' i k) (fun e t => ∃ s', s'.st = t ∧ Q e s') s.st
def JI (P : Program) (c : Code) (Q : Ex → SS → Prop) (s : SS) : Prop := SI P (.inLoop c) (fun e t => ∃ s', s'.st = t ∧ Q e s') s.st
def JD (P : Program) (ops : Array Oper) (fl : Bool) (s0 : SS) (k i : Nat) (Q : SS → Prop) (s : SS) : Prop := SD P ops fl s0.st k i (fun t => ∃ s', s'.st = t ∧ Q s') s.st
def andS (Q : Ex → SS → Prop) (K : SS → Prop) : Ex → SS → Prop
  | .normal, s => K s
  | e, s => Q e s
def blockS (id : Nat) (Q : Ex → SS → Prop) : Ex → SS → Prop
  | .exit id', s => if id' = id then Q .normal s else Q (.exit id') s
  | e, s => Q e s
section rules
variable {P : Program} {Q : Ex → SS → Prop} {s s' : SS} {ops : Array Oper} {i k : Nat}
theorem J.mono {c : Code} {Q' : Ex → SS → Prop} (h : J P c Q s) (hq : ∀ e s, Q e s → Q' e s) : J P c Q' s := SI.mono h fun e t ⟨s', h1, h2⟩ => ⟨s', h1, hq _ _ h2⟩
theorem J.seq {x y : Code} (h : J P x (andS Q (J P y Q)) s) : J P (.seq x y) Q s :=
  SC.seq (SI.mono h fun e t ⟨s', h1, h2⟩ => by subst h1; cases e <;> first | exact h2 | exact ⟨s', rfl, h2⟩)
theorem J.skip (h : Q .normal s) : J P .skip Q s := SC.skip ⟨s, rfl, h⟩
theorem J.label {l : Nat} (h : Q .normal s) : J P (.label l) Q s := SC.label ⟨s, rfl, h⟩
theorem J.exit {id : Nat} (h : Q (.exit id) s) : J P (.exit id) Q s := SC.exit ⟨s, rfl, h⟩
theorem J.ret (h : Q .ret s) : J P .ret Q s := SC.ret ⟨s, rfl, h⟩
theorem J.block {id : Nat} {c : Code} (h : J P c (blockS id Q) s) : J P (.block id c) Q s :=
  SC.block (SI.mono h fun e t ⟨s', h1, h2⟩ => by
    subst h1
    cases e with
    | exit id' =>
      simp only [blockS, inBlock] at h2 ⊢
      split <;> rename_i hi
      · rw [if_pos hi] at h2; exact ⟨s', rfl, h2⟩
      · rw [if_neg hi] at h2; exact ⟨s', rfl, h2⟩
    | _ => exact ⟨s', rfl, h2⟩)
theorem J.cond {c : Operand} {x y : Code} {t : Bool} (hc : evS P s c = some (.bool t)) (h : J P (if t then x else y) Q s) : J P (.cond c x y) Q s :=
  SC.cond (by rw [evS_eq]; exact hc) h
theorem J.cond2 {c : Operand} {x y : Code} {t : Bool} (hc : evS P s c = some (.bool t)) (h1 : t = true → J P x Q s) (h2 : t = false → J P y Q s) : J P (.cond c x y) Q s := by
  refine J.cond hc ?_
  cases t
  · exact h2 rfl
  · exact h1 rfl
theorem J.region {id : Nat} {m : Nat} (hm : ops.size = m) (h : JL P ops m 0 Q s) : J P (.region id ops false) Q s := by
  refine SC.region ?_
  rw [List.range_eq_range', hm]; exact h
theorem JL.nil (h : Q .normal s) : JL P ops 0 i Q s := SL.nil ⟨s, rfl, h⟩
theorem JL.val (h : doOp P ops i s = some (.val s')) (hk : JL P ops k (i + 1) Q s') : JL P ops (k + 1) i Q s := SL.step (doOp_val h).step hk
theorem JL.call {f : FuncId} {args : List Value} {d : Option Tmp} (h : doOp P ops i s = some (.call f args d))
    (hk : SCall P f args s.H fun
      | .ret v, H' => ∃ s', putS s d v H' = some s' ∧ JL P ops k (i + 1) Q s'
      | .panic v, H' => Q (.panic v) { s with H := H' }) : JL P ops (k + 1) i Q s := by
  obtain ⟨o, ho, hg, hd, he, hf, rfl⟩ := doOp_call h
  refine SL.call ho hg hd he hf (hk.mono fun e H' q => ?_)
  cases e with
  | ret v =>
    obtain ⟨s', h1, h2⟩ := q
    obtain ⟨h3, _⟩ := putS_ok h1
    show SL _ _ _ _ ((s.st.at_ H').put o.dst v)
    rw [← h3]; exact h2
  | panic v => exact ⟨_, rfl, q⟩
theorem JL.panic {v : Value} (h : doOp P ops i s = some (.panic v)) (hk : Q (.panic v) s) : JL P ops (k + 1) i Q s := by
  obtain ⟨o, ho, hg, hd, he⟩ := doOp_panic h
  exact SL.panic ho hg hd he ⟨s, rfl, hk⟩
def runOps (P : Program) (ops : Array Oper) : Nat → Nat → SS → Option SS
  | 0, _, s => some s
  | m + 1, i, s => match doOp P ops i s with
    | some (.val s') => runOps P ops m (i + 1) s'
    | _ => none
theorem JL.run : ∀ {m i k : Nat} {s s' : SS}, runOps P ops m i s = some s' → JL P ops k (i + m) Q s' → JL P ops (k + m) i Q s
  | 0, i, k, s, s', h, hk => by simp only [runOps, Option.some.injEq] at h; subst h; exact hk
  | m + 1, i, k, s, s', h, hk => by
    simp only [runOps] at h
    split at h
    · rename_i s1 h1
      have := JL.run (k := k) h (by rw [show i + 1 + m = i + (m + 1) by omega]; exact hk)
      exact JL.val h1 this
    · cases h
theorem J.loop {c : Code} (h : J P c (andS Q (JI P c Q)) s) : J P (.loop c) Q s :=
  SC.loop (SI.mono h fun e t ⟨s', h1, h2⟩ => by subst h1; cases e <;> first | exact h2 | exact ⟨s', rfl, h2⟩)
theorem JI.round {c : Code} (h : J P c (andS Q (JI P c Q)) s) : JI P c Q s :=
  SI.loop (SI.mono h fun e t ⟨s', h1, h2⟩ => by subst h1; cases e <;> first | exact h2 | exact ⟨s', rfl, h2⟩)
def Less (l l' : Env) : Prop := ∀ t v, look l t = some v → look l' t = some v
def lessB : Env → Env → Prop
  | [], _ => True
  | (t, v) :: r, l' => look l' t = some v ∧ lessB r l'
theorem lessB_ok : ∀ {l l' : Env}, lessB l l' → Less l l'
  | [], _, _, _, _, h => by cases h
  | (t, v) :: r, l', h, u, w, hw => by
    simp only [look] at hw
    split at hw
    · rename_i e; cases hw; rw [e]; exact h.1
    · exact lessB_ok h.2 u w hw
theorem less_st {l : Env} (h : lessB l s.l) : ({ s with l := l } : SS).st.le s.st := ⟨fun x v e => lessB_ok h x v e, rfl, rfl, rfl, rfl⟩
theorem J.less {c : Code} (l : Env) (hl : lessB l s.l) (h : J P c Q { s with l := l }) : J P c Q s := SI.le (less_st hl) h
theorem JI.less {c : Code} (l : Env) (hl : lessB l s.l) (h : JI P c Q { s with l := l }) : JI P c Q s := SI.le (less_st hl) h
theorem JI.ind {α : Type} {c : Code} (I : α → SS) (μ : α → Nat) (h : ∀ x, (∀ y, μ y < μ x → JI P c Q (I y)) → J P c (andS Q (JI P c Q)) (I x)) : ∀ x, JI P c Q (I x) := by
  have key : ∀ n x, μ x = n → JI P c Q (I x) := by
    intro n
    induction n using Nat.strongRecOn with
    | _ n ih => intro x hx; exact JI.round (h x fun y hy => ih _ (by omega) y rfl)
  exact fun x => key _ x rfl
theorem JD.nil {fl : Bool} {s0 : SS} {Q : SS → Prop} (h : Q s) : JD P ops fl s0 0 i Q s := SD.nil ⟨s, rfl, h⟩
theorem JD.val {fl : Bool} {s0 : SS} {Q : SS → Prop} (h : doOp P ops i s = some (.val s')) (hs : side P ops fl s0.st i s.st) (hk : JD P ops fl s0 k (i + 1) Q s') : JD P ops fl s0 (k + 1) i Q s :=
  SD.cons (doOp_val h) hs hk
theorem JD.call {fl : Bool} {s0 : SS} {Q : SS → Prop} {f : FuncId} {args : List Value} {d : Option Tmp} (h : doOp P ops i s = some (.call f args d)) (hs : side P ops fl s0.st i s.st)
    (hk : SCall P f args s.H fun
      | .ret v, H' => ∃ s', putS s d v H' = some s' ∧ JD P ops fl s0 k (i + 1) Q s'
      | .panic _, _ => False) : JD P ops fl s0 (k + 1) i Q s := by
  obtain ⟨o, ho, hg, hd, he, hf, rfl⟩ := doOp_call h
  refine SD.call ho hg hd he hf hs (hk.mono fun e H' q => ?_)
  cases e with
  | ret v =>
    obtain ⟨s', h1, h2⟩ := q
    obtain ⟨h3, _⟩ := putS_ok h1
    show SD _ _ _ _ _ _ _ ((s.st.at_ H').put o.dst v)
    rw [← h3]; exact h2
  | panic v => exact q
theorem side_false {s0 : SS} {j : Nat} {t : St} : side P ops false s0.st j t := fun h => by cases h
theorem JD.run {s0 : SS} {Q : SS → Prop} : ∀ {m i k : Nat} {s s' : SS}, runOps P ops m i s = some s' → JD P ops false s0 k (i + m) Q s' → JD P ops false s0 (k + m) i Q s
  | 0, i, k, s, s', h, hk => by simp only [runOps, Option.some.injEq] at h; subst h; exact hk
  | m + 1, i, k, s, s', h, hk => by
    simp only [runOps] at h
    split at h
    · rename_i s1 h1
      have := JD.run (k := k) (s0 := s0) h (by rw [show i + 1 + m = i + (m + 1) by omega]; exact hk)
      exact JD.val h1 side_false this
    · cases h
theorem J.draw {id : Nat} {fl : Bool} {m : Nat} (hmix : P.follows .mixedOrders = true) (hm : ops.size = m) (hok : okDraw P ops = true) (hfl : ((List.range ops.size).any fun i => floating P ops (masks ops.toList []) i) = fl)
    (h : JD P ops fl s m 0 (fun s' => (fl = true → Ext s.H s'.H) ∧ Q .normal s') s) : J P (.region id ops true) Q s := by
  refine SC.regionDraw hmix hok hfl ?_
  rw [hm]
  obtain ⟨f, h1, h2, s', h3, h4, h5⟩ := h
  exact ⟨f, h1, h2, by rw [← h3]; exact h4, s', h3, h5⟩
end rules
def envOf (args : List Value) : Env := (args.zipIdx).map fun x => (x.2, x.1)
def resS (P : Program) (s : SS) : ResultVar → Option Value
  | .tmp t => look s.l t
  | .cell a t => match look s.l a with
    | some v => loadD P s.H t v
    | none => none
def ressS (P : Program) (s : SS) : List ResultVar → Option (List Value)
  | [] => some []
  | r :: l => match resS P s r, ressS P s l with
    | some v, some vs => some (v :: vs)
    | _, _ => none
theorem ressS_eq (P : Program) (s : SS) : ∀ l, ressD P s.st l = ressS P s l
  | [] => rfl
  | r :: l => by
    have : resD P s.st r = resS P s r := by cases r <;> rfl
    simp only [ressD, ressS, this, ressS_eq P s l]
    cases resS P s r <;> cases ressS P s l <;> rfl
def bodyS (P : Program) (res : List ResultVar) (Q : En → Hp → Prop) : Ex → SS → Prop
  | .normal, s | .ret, s => s.defs = [] ∧ ∃ vs, ressS P s res = some vs ∧ Q (.ret (oneD vs)) s.H
  | .panic v, s => s.defs = [] ∧ Q (.panic v) s.H
  | _, _ => False
theorem look_envOf : ∀ (args : List Value) (k t : Nat), look ((args.zipIdx k).map fun x => (x.2, x.1)) t = if k ≤ t then args[t - k]? else none
  | [], k, t => by simp [look]
  | v :: args, k, t => by
    simp only [List.zipIdx_cons, List.map_cons, look]
    by_cases h : t = k
    · subst h; simp
    · rw [if_neg h, look_envOf args (k + 1) t]
      by_cases h1 : k ≤ t
      · rw [if_pos h1, if_pos (by omega), show t - k = (t - (k + 1)) + 1 by omega]; simp
      · rw [if_neg h1, if_neg (by omega)]
theorem SCall.body {P : Program} {f : FuncId} {fn : Func} {c : Code} {args : List Value} {H : Hp} {Q : En → Hp → Prop} (hf : P.funcs[f]? = some fn) (hb : fn.body = some c) {n : Nat} (hn : fn.ntmps = n) (hl : args.length ≤ n)
    {res : List ResultVar} (hr : fn.results.toList = res) (h : J P c (bodyS P res Q) { l := envOf args, n := n, H := H, defs := [], dok := true }) : SCall P f args H Q := by
  subst hn hr
  refine SCall.of hf hb hl ?_
  have e : ({ l := envOf args, n := fn.ntmps, H := H, defs := [], dok := true } : SS).st = init fn.ntmps args H := by
    simp only [SS.st, init]
    congr 1
    funext t
    simp only [envOf, initEnv]
    rw [look_envOf]; simp
  rw [← e]
  refine SI.mono h fun ex t ⟨s', h1, h2⟩ => ?_
  subst h1
  cases ex with
  | exit id => exact h2.elim
  | normal => obtain ⟨a, vs, b, d⟩ := h2; exact ⟨a, vs, by rw [ressS_eq]; exact b, d⟩
  | ret => obtain ⟨a, vs, b, d⟩ := h2; exact ⟨a, vs, by rw [ressS_eq]; exact b, d⟩
  | panic v => exact h2
end Go.Det
