import Derived.Test.YtmkcobpgmcfbkaaGreatDoorD20
set_option linter.unusedSimpArgs false
set_option linter.unusedVariables false
namespace Go.Det
open Go Go.RowKit
structure ES where
  t : T Value
  n : Nat
  H : Hp
  defs : List (Value × List Value)
  dok : Bool
def ES.st (s : ES) : St := { env := s.t.get, n := s.n, H := s.H, defs := s.defs, dok := s.dok }
def hforce {α : Type} (H : Hp) (k : Hp → α) : α :=
  match H with
  | ⟨.nil, n, lo⟩ => nforce n fun n => nforce lo fun lo => k ⟨.nil, n, lo⟩
  | ⟨.node v l r, n, lo⟩ => nforce n fun n => nforce lo fun lo => k ⟨.node v l r, n, lo⟩
theorem hforce_eq {α : Type} (H : Hp) (k : Hp → α) : hforce H k = k H := by
  obtain ⟨t, n, lo⟩ := H
  cases t <;> simp only [hforce, nforce_eq]
def tforce {α β : Type} (t : T β) (k : T β → α) : α :=
  match t with
  | .nil => k .nil
  | .node v l r => k (.node v l r)
theorem tforce_eq {α β : Type} (t : T β) (k : T β → α) : tforce t k = k t := by cases t <;> rfl
def evE (P : Program) (s : ES) : Ev
  | .tmp t => s.t.get t
  | .const v => match flat v with | true => some v | false => none
  | .global g => match Nat.blt g P.globals.size with | true => some (.pointer (some ⟨g, 0, none⟩)) | false => none
  | .func f => some (.func (.func f) ⟨[]⟩ ⟨[]⟩)
theorem evE_eq (P : Program) (s : ES) : evOf P s.st = evE P s := by
  funext x
  cases x
  · rfl
  · simp only [evOf, evE]; split <;> rename_i h <;> simp [h]
  · rename_i g
    simp only [evOf, evE]
    by_cases h : g < P.globals.size
    · rw [if_pos h, show Nat.blt g P.globals.size = true from by rw [Nat.blt_eq]; exact h]
    · rw [if_neg h, show Nat.blt g P.globals.size = false from by rw [Bool.eq_false_iff]; intro k; rw [Nat.blt_eq] at k; exact h k]
  · rfl
def putE (s : ES) (d : Option Tmp) (v : Value) (H : Hp) : Option ES :=
  match s with
  | ⟨t0, n, _, defs, dok⟩ =>
    match d with
    | none => hforce H fun H => some ⟨t0, n, H, defs, dok⟩
    | some t => match Nat.blt t n with
      | true => vforce v fun v => hforce H fun H => tforce (t0.set t (some v)) fun t => some ⟨t, n, H, defs, dok⟩
      | false => none
def ES.setH (s : ES) (H : Hp) : ES := match s with
  | ⟨t, n, _, d, k⟩ => ⟨t, n, H, d, k⟩
theorem ES.setH_eq (s : ES) (H : Hp) : s.setH H = { s with H := H } := rfl
theorem putE_ok {s s' : ES} {d : Option Tmp} {v : Value} {H : Hp} (h : putE s d v H = some s') : s'.st = (s.st.at_ H).put d v ∧ s.st.fits d := by
  obtain ⟨t0, n0, H0, df0, dk0⟩ := s
  unfold putE at h
  simp only at h
  split at h
  · rw [hforce_eq] at h; cases h; exact ⟨rfl, fun t k => by cases k⟩
  · split at h
    · rename_i t hb
      rw [vforce_eq, hforce_eq, tforce_eq] at h
      cases h
      refine ⟨?_, fun u k => ?_⟩
      · simp only [ES.st, St.at_, St.put]
        congr 1
        funext u
        rw [T.get_set]
      · cases k
        rw [Nat.blt_eq] at hb
        exact hb
    · cases h
def gdE (ops : Array Oper) (s : ES) (o : Oper) : Option Bool :=
  match o.guard with
  | none => some true
  | some (j, want) =>
    match ops[j]? with
    | some oj =>
      match oj.dst with
      | some t =>
        match s.t.get t with
        | some (.bool b) => some (b == want)
        | some (.tuple ⟨[]⟩) => some false
        | _ => none
      | none => none
    | none => none
theorem gdE_eq (ops : Array Oper) (s : ES) (o : Oper) : gd ops s.st o = gdE ops s o := by
  unfold gd gdE
  cases o.guard with
  | none => rfl
  | some q =>
    obtain ⟨j, want⟩ := q
    simp only
    cases ops[j]? with
    | none => rfl
    | some oj => cases oj.dst <;> rfl
inductive OE where
  | val (s : ES)
  | call (f : FuncId) (args : List Value) (d : Option Tmp)
  | panic (v : Value)
def doE (P : Program) (ops : Array Oper) (i : Nat) (s : ES) : Option OE :=
  match ops[i]? with
  | none => none
  | some o =>
    match gdE ops s o with
    | none => none
    | some false => match putE s o.dst undef s.H with
      | some s' => some (.val s')
      | none => none
    | some true =>
      match notDefer o.op with
      | false => none
      | true =>
        match opD P s.H (evE P s) o with
        | some (.val v H') => match putE s o.dst v H' with
          | some s' => some (.val s')
          | none => none
        | some (.enter f args) => match putE s o.dst undef s.H with
          | some _ => some (.call f args o.dst)
          | none => none
        | some (.panic v) => some (.panic v)
        | _ => none
theorem doE_val {P : Program} {ops : Array Oper} {i : Nat} {s s' : ES} (h : doE P ops i s = some (.val s')) : OpFact P ops i s.st s'.st ∧ LoX s.H s'.H := by
  unfold doE at h
  split at h
  · cases h
  · rename_i o ho
    split at h
    · cases h
    · rename_i hg
      split at h
      · rename_i q hq
        cases h
        obtain ⟨h1, h2⟩ := putE_ok hq
        have h3 : s'.H = s.H := by have := congrArg St.H h1; rw [(put_facts _ _ _).2.1] at this; exact this
        rw [h1, h3]
        exact ⟨.skip ho (by rw [gdE_eq]; exact hg) h2, LoX.refl _⟩
      · cases h
    · rename_i hg
      split at h
      · cases h
      · rename_i hd
        split at h
        · rename_i v H' he
          split at h
          · rename_i q hq
            cases h
            obtain ⟨h1, h2⟩ := putE_ok hq
            have h3 : s'.H = H' := by have := congrArg St.H h1; rw [(put_facts _ _ _).2.1] at this; exact this
            rw [h1, h3]
            exact ⟨.val ho (by rw [gdE_eq]; exact hg) hd (by rw [evE_eq]; exact he) h2, opD_lox he⟩
          · cases h
        · split at h <;> cases h
        · cases h
        · cases h
theorem doE_call {P : Program} {ops : Array Oper} {i : Nat} {s : ES} {f : FuncId} {args : List Value} {d : Option Tmp} (h : doE P ops i s = some (.call f args d)) :
    ∃ o, ops[i]? = some o ∧ gd ops s.st o = some true ∧ notDefer o.op = true ∧ opD P s.st.H (evOf P s.st) o = some (.enter f args) ∧ s.st.fits o.dst ∧ o.dst = d := by
  unfold doE at h
  split at h
  · cases h
  · rename_i o ho
    split at h
    · cases h
    · split at h <;> cases h
    · rename_i hg
      split at h
      · cases h
      · rename_i hd
        split at h
        · split at h <;> cases h
        · rename_i g args' he
          split at h
          · rename_i q hq
            cases h
            obtain ⟨h1, h2⟩ := putE_ok hq
            exact ⟨o, ho, by rw [gdE_eq]; exact hg, hd, by rw [evE_eq]; exact he, h2, rfl⟩
          · cases h
        · cases h
        · cases h
theorem doE_panic {P : Program} {ops : Array Oper} {i : Nat} {s : ES} {v : Value} (h : doE P ops i s = some (.panic v)) :
    ∃ o, ops[i]? = some o ∧ gd ops s.st o = some true ∧ notDefer o.op = true ∧ opD P s.st.H (evOf P s.st) o = some (.panic v) := by
  unfold doE at h
  split at h
  · cases h
  · rename_i o ho
    split at h
    · cases h
    · split at h <;> cases h
    · rename_i hg
      split at h
      · cases h
      · rename_i hd
        split at h
        · split at h <;> cases h
        · split at h <;> cases h
        · rename_i w he; cases h
          exact ⟨o, ho, by rw [gdE_eq]; exact hg, hd, by rw [evE_eq]; exact he⟩
        · cases h
abbrev CallFn := FuncId → List Value → Hp → Option (En × Hp)
def evOps (P : Program) (call : CallFn) (ops : Array Oper) : Nat → Nat → ES → Option (Ex × ES)
  | 0, _, s => some (.normal, s)
  | k + 1, i, s =>
    match doE P ops i s with
    | some (.val s') => evOps P call ops k (i + 1) s'
    | some (.call f args d) =>
      match call f args s.H with
      | some (.ret v, H') => match putE s d v H' with
        | some s' => evOps P call ops k (i + 1) s'
        | none => none
      | some (.panic v, H') => some (.panic v, { s with H := H' })
      | none => none
    | some (.panic v) => some (.panic v, s)
    | none => none
def fineE (P : Program) (ops : Array Oper) (fl : Bool) (nx : Nat) (i : Nat) (s : ES) : Bool :=
  match fl with
  | false => true
  | true =>
    match Nat.ble nx s.H.lo with
    | false => false
    | true =>
      match floating P ops (masks ops.toList []) i with
      | false => true
      | true => match ops[i]? with
        | some o => match readBlk (evE P s) o.op with
          | some b => Nat.blt b nx
          | none => true
        | none => true
def evDraw (P : Program) (call : CallFn) (ops : Array Oper) (fl : Bool) (nx : Nat) : Nat → Nat → ES → Option ES
  | 0, _, s => match fl with
    | false => some s
    | true => match Nat.ble nx s.H.lo with | true => some s | false => none
  | k + 1, i, s =>
    match fineE P ops fl nx i s with
    | false => none
    | true =>
      match doE P ops i s with
      | some (.val s') => evDraw P call ops fl nx k (i + 1) s'
      | some (.call f args d) =>
        match call f args s.H with
        | some (.ret v, H') => match putE s d v H' with
          | some s' => evDraw P call ops fl nx k (i + 1) s'
          | none => none
        | _ => none
      | _ => none
def flOf (P : Program) (ops : Array Oper) : Bool := (List.range ops.size).any fun i => floating P ops (masks ops.toList []) i
def resE (P : Program) (s : ES) : ResultVar → Option Value
  | .tmp t => s.t.get t
  | .cell a t => match s.t.get a with
    | some v => loadD P s.H t v
    | none => none
def ressE (P : Program) (s : ES) : List ResultVar → Option (List Value)
  | [] => some []
  | r :: l => match resE P s r with
    | some v => match ressE P s l with
      | some vs => some (v :: vs)
      | none => none
    | none => none
theorem ressE_eq (P : Program) (s : ES) : ∀ l, ressD P s.st l = ressE P s l
  | [] => rfl
  | r :: l => by
    have : resD P s.st r = resE P s r := by cases r <;> rfl
    simp only [ressD, ressE, this, ressE_eq P s l]
    cases resE P s r <;> cases ressE P s l <;> rfl
def initT : List Value → Nat → T Value → T Value
  | [], _, t => t
  | v :: l, i, t => initT l (i + 1) (t.set i (some v))
theorem initT_get : ∀ (l : List Value) (i : Nat) (t : T Value) (j : Nat), (initT l i t).get j = if i ≤ j ∧ j < i + l.length then l[j - i]? else t.get j
  | [], i, t, j => by simp only [initT, List.length_nil]; rw [if_neg (by omega)]
  | v :: l, i, t, j => by
    rw [initT, initT_get l (i + 1), T.get_set]
    simp only [List.length_cons]
    by_cases h : j = i
    · subst h
      rw [if_neg (by omega), if_pos rfl, if_pos (by omega)]; simp
    · rw [if_neg h]
      by_cases h1 : i + 1 ≤ j ∧ j < i + 1 + l.length
      · rw [if_pos h1, if_pos (by omega), show j - i = (j - (i + 1)) + 1 by omega]; simp
      · rw [if_neg h1, if_neg (by omega)]
def callE (P : Program) (ev : Code → ES → Option (Ex × ES)) : CallFn := fun f args H =>
  match P.funcs[f]? with
  | none => none
  | some fn =>
    match fn.body with
    | none => none
    | some c =>
      match Nat.ble args.length fn.ntmps with
      | false => none
      | true =>
        match ev c { t := initT args 0 .nil, n := fn.ntmps, H := H, defs := [], dok := true } with
        | some (.panic v, s) => match s.defs with
          | [] => some (.panic v, s.H)
          | _ :: _ => none
        | some (.exit _, _) => none
        | some (.normal, s) => match s.defs with
          | [] => match ressE P s fn.results.toList with
            | some vs => some (.ret (oneD vs), s.H)
            | none => none
          | _ :: _ => none
        | some (.ret, s) => match s.defs with
          | [] => match ressE P s fn.results.toList with
            | some vs => some (.ret (oneD vs), s.H)
            | none => none
          | _ :: _ => none
        | none => none
def evStep (P : Program) (ev : Code → ES → Option (Ex × ES)) (c : Code) (s : ES) : Option (Ex × ES) :=
  match c with
  | .skip => some (.normal, s)
  | .label _ => some (.normal, s)
  | .exit id => some (.exit id, s)
  | .ret => some (.ret, s)
  | .seq x y => match ev x s with
    | some (.normal, s') => ev y s'
    | r => r
  | .block id c => match ev c s with
    | some (.exit id', s') => match Nat.beq id' id with
      | true => some (.normal, s')
      | false => some (.exit id', s')
    | r => r
  | .cond c x y => match evE P s c with
    | some (.bool true) => ev x s
    | some (.bool false) => ev y s
    | _ => none
  | .loop c => match ev c s with
    | some (.normal, s') => ev (.loop c) s'
    | r => r
  | .region _ ops false => evOps P (callE P ev) ops ops.size 0 s
  | .region _ ops true =>
    match P.follows .mixedOrders with
    | false => none
    | true =>
      match okDraw P ops with
      | false => none
      | true =>
        match flOf P ops with
        | false => match evDraw P (callE P ev) ops false 0 ops.size 0 s with
          | some s' => some (.normal, s')
          | none => none
        | true => match evDraw P (callE P ev) ops true s.H.next ops.size 0 (s.setH { s.H with lo := s.H.next }) with
          | some s' => some (.normal, s'.setH { s'.H with lo := min s.H.lo s'.H.lo })
          | none => none
  | _ => none
def evC (P : Program) (n : Nat) : Code → ES → Option (Ex × ES) := Nat.rec (fun _ _ => none) (fun _ ev c s => evStep P ev c s) n
end Go.Det
