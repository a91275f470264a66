import Derived.Test.YtbdndhodggdhkaaDoorD19
set_option linter.unusedSimpArgs false
set_option linter.unusedVariables false
namespace Go.Det
open Go Go.RowKit

/-! ## 23. Symbolic runs with variables of the function's own -/
inductive SV0 where
  | v (x : Value)
  | p (k off : Nat)
inductive SV where
  | v (x : Value)
  | p (k off : Nat)
  | fn (f : FuncId) (caps : List SV0)
def den0 (ids : Nat → Nat) : SV0 → Value
  | .v x => x
  | .p k off => .pointer (some ⟨ids k, off, none⟩)
def den (ids : Nat → Nat) : SV → Value
  | .v x => x
  | .p k off => .pointer (some ⟨ids k, off, none⟩)
  | .fn f caps => .func (.func f) ⟨[]⟩ ⟨caps.map (den0 ids)⟩
abbrev VEnv := List (Nat × SV)
def lookV : VEnv → Nat → Option SV
  | [], _ => none
  | (t, v) :: r, u => match Nat.beq u t with | true => some v | false => lookV r u
def denE (ids : Nat → Nat) (l : VEnv) : Env := l.map fun x => (x.1, den ids x.2)
theorem look_denE (ids : Nat → Nat) : ∀ (l : VEnv) (t : Nat), look (denE ids l) t = (lookV l t).map (den ids)
  | [], _ => rfl
  | (t, v) :: r, u => by
    simp only [denE, List.map_cons, look, lookV]
    cases hb : Nat.beq u t with
    | true => rw [if_pos (Nat.eq_of_beq_eq_true hb)]; rfl
    | false => rw [if_neg (Nat.ne_of_beq_eq_false hb)]; exact look_denE ids r u

/-- Is the variable number k not named? -/
def apart0 (k : Nat) : SV0 → Bool
  | .v _ => true
  | .p j _ => !(Nat.beq j k)
def apartV (k : Nat) : SV → Bool
  | .v _ => true
  | .p j _ => !(Nat.beq j k)
  | .fn _ caps => caps.all (apart0 k)
def apartE (k : Nat) (l : VEnv) : Bool := l.all fun x => apartV k x.2
theorem den0_apart {k : Nat} {ids ids' : Nat → Nat} (h : ∀ j, j ≠ k → ids' j = ids j) : ∀ {x : SV0}, apart0 k x = true → den0 ids' x = den0 ids x
  | .v _, _ => rfl
  | .p j off, hx => by
    simp only [apart0, Bool.not_eq_true'] at hx
    simp only [den0, h j (Nat.ne_of_beq_eq_false hx)]
theorem den_apart {k : Nat} {ids ids' : Nat → Nat} (h : ∀ j, j ≠ k → ids' j = ids j) : ∀ {x : SV}, apartV k x = true → den ids' x = den ids x
  | .v _, _ => rfl
  | .p j off, hx => by
    simp only [apartV, Bool.not_eq_true'] at hx
    simp only [den, h j (Nat.ne_of_beq_eq_false hx)]
  | .fn f caps, hx => by
    simp only [apartV] at hx
    simp only [den]
    have : caps.map (den0 ids') = caps.map (den0 ids) := List.map_congr_left fun x hm => den0_apart h (List.all_eq_true.1 hx x hm)
    rw [this]
theorem denE_apart {k : Nat} {ids ids' : Nat → Nat} (h : ∀ j, j ≠ k → ids' j = ids j) {l : VEnv} (hl : apartE k l = true) : denE ids' l = denE ids l := by
  unfold denE
  refine List.map_congr_left fun x hm => ?_
  rw [den_apart h (List.all_eq_true.1 hl x hm)]

/-- The function's own variables in the heap; what else is as it was. -/
structure Fr (B0 B : Hp) (cl : Bool) (kB : Nat) (loc : List (List Value)) (ids : Nat → Nat) (H : Hp) : Prop where
  ext0 : Ext B0 H
  nextB : B.next ≤ H.next
  extB : cl = true → Ext B H
  here : ∀ k cs, loc[k]? = some cs → H.get (ids k) = some (.cells .fix cs) ∧ ids k < H.next ∧ B0.next ≤ ids k
  old : ∀ k, k < loc.length → kB ≤ k → B.next ≤ ids k
  inj : ∀ j k, j < loc.length → k < loc.length → ids j = ids k → j = k

def evV (P : Program) (l : VEnv) : Operand → Option SV
  | .tmp t => lookV l t
  | .const v => match flat v with | true => some (.v v) | false => none
  | .global g => match Nat.blt g P.globals.size with | true => some (.v (.pointer (some ⟨g, 0, none⟩))) | false => none
  | .func f => some (.v (.func (.func f) ⟨[]⟩ ⟨[]⟩))

structure VS where
  l : VEnv
  loc : List (List Value)
  cl : Bool
  kB : Nat
/-- How many slots a frame has; whether it is a function's own frame (no round's). -/
structure NN where
  num : Nat
  dok : Bool
def VS.ss (x : VS) (ids : Nat → Nat) (n : NN) (H : Hp) : SS := { l := denE ids x.l, n := n.num, H := H, defs := [], dok := n.dok }

theorem evV_eq (P : Program) (x : VS) (ids : Nat → Nat) (n : NN) (H : Hp) {o : Operand} {v : SV} (h : evV P x.l o = some v) : evS P (x.ss ids n H) o = some (den ids v) := by
  cases o with
  | tmp t => simp only [evV] at h; simp only [evS, VS.ss, look_denE, h, Option.map_some]
  | const c =>
    simp only [evV] at h
    split at h
    · rename_i hf; cases h; simp [evS, hf, den]
    · cases h
  | global g =>
    simp only [evV] at h
    split at h
    · rename_i hf; cases h
      rw [Nat.blt_eq] at hf
      simp [evS, hf, den]
    · cases h
  | func f => simp only [evV] at h; cases h; rfl

def gdV (a : Array Oper) (l : VEnv) (o : Oper) : Option Bool :=
  match o.guard with
  | none => some true
  | some (j, want) =>
    match a[j]? with
    | some oj =>
      match oj.dst with
      | some t =>
        match lookV l t with
        | some (.v (.bool true)) => some want
        | some (.v (.bool false)) => some !want
        | some (.v (.tuple ⟨[]⟩)) => some false
        | _ => none
      | none => none
    | none => none
theorem gdV_eq {a : Array Oper} {x : VS} {o : Oper} {b : Bool} (ids : Nat → Nat) (n : NN) (H : Hp) (h : gdV a x.l o = some b) : gdS a (x.ss ids n H) o = some b := by
  unfold gdV at h
  unfold gdS
  split at h
  · rename_i hg; rw [hg]; exact h
  · rename_i j want hg
    rw [hg]
    simp only
    split at h
    · rename_i oj hj
      rw [hj]; simp only
      split at h
      · rename_i t ht
        rw [ht]; simp only
        have : look (x.ss ids n H).l t = (lookV x.l t).map (den ids) := look_denE ids x.l t
        rw [this]
        split at h <;> rename_i hl <;> first | (rw [hl, ← h]; cases want <;> rfl) | cases h
      · cases h
    · cases h

def putV (x : VS) (n : NN) (d : Option Tmp) (v : SV) : Option VS :=
  match x, d with
  | x, none => some x
  | ⟨l, loc, cl, kB⟩, some t => match Nat.blt t n.num with
    | true => some ⟨(t, v) :: l, loc, cl, kB⟩
    | false => none
theorem putV_eq {x x' : VS} {n : NN} {d : Option Tmp} {v : SV} (ids : Nat → Nat) (H H' : Hp) (h : putV x n d v = some x') : putS (x.ss ids n H) d (den ids v) H' = some (x'.ss ids n H') ∧ x'.loc = x.loc ∧ x'.cl = x.cl ∧ x'.kB = x.kB := by
  obtain ⟨l, loc, cl, kB⟩ := x
  cases d with
  | none => simp only [putV, Option.some.injEq] at h; subst h; exact ⟨rfl, rfl, rfl, rfl⟩
  | some t =>
    simp only [putV] at h
    split at h
    · rename_i hb
      cases h
      refine ⟨?_, rfl, rfl, rfl⟩
      simp only [putS, VS.ss, hb]
      rfl
    · cases h
end Go.Det

set_option linter.unusedSimpArgs false
set_option linter.unusedVariables false
namespace Go.Det
open Go Go.RowKit

inductive OV where
  | val (x : SV)
  | new (cs : List Value)
  | upd (k : Nat) (cs : List Value)
  | enter (f : FuncId) (args : List SV)
  | cmp | hard | stuck

def argsV (P : Program) (l : VEnv) : List Operand → Option (List SV)
  | [] => some []
  | x :: r => match evV P l x with
    | some v => match argsV P l r with
      | some vs => some (v :: vs)
      | none => none
    | none => none
def sv0 : SV → Option SV0
  | .v x => some (.v x)
  | .p k o => some (.p k o)
  | .fn .. => none
def svOf : SV0 → SV
  | .v x => .v x
  | .p k o => .p k o
def sv0s : List SV → Option (List SV0)
  | [] => some []
  | x :: r => match sv0 x with
    | some v => match sv0s r with
      | some vs => some (v :: vs)
      | none => none
    | none => none
def evPlain (P : Program) (l : VEnv) : Ev := fun x => match evV P l x with | some (.v u) => some u | _ => none
def isPlain (P : Program) (l : VEnv) (x : Operand) : Bool := match evV P l x with | some (.v _) => true | _ => false

def loadC (P : Program) (t : TypeId) (cs : List Value) (off : Nat) : Option Value :=
  match isAggD P t with
  | some true => match sizeD P t with
    | some n => match Nat.ble (off + n) cs.length with
      | true => some (.agg ⟨(cs.drop off).take n⟩)
      | false => none
    | none => none
  | some false => cs[off]?
  | none => none
def storeC (P : Program) (t : TypeId) (cs : List Value) (off : Nat) (u : Value) : Option (List Value) :=
  match sizeD P t with
  | some n => match Nat.beq n u.cells.size with
    | true => match Nat.ble (off + u.cells.size) cs.length with
      | true => match u.cells.toList.all fun x => x.oneCell' with
        | true => some (wr cs off u.cells.toList)
        | false => none
      | false => none
    | false => none
  | none => none

def genV (P : Program) (x : VS) (o : Oper) : OV :=
  match o.op.operands.toList.all (isPlain P x.l) with
  | true => match cls P o.op with
    | some .pure => match opD P ⟨.nil, 0, 0⟩ (evPlain P x.l) o with
      | some (.val v _) => .val (.v v)
      | _ => .stuck
    | _ => .hard
  | false => .hard

def lenV (P : Program) (c : Call) (v : Value) : Option Value :=
  match c.argTypes[0]? with
  | some t => match P.underlying t, v with
    | some .string, .string s => some (.int .i64 s.size)
    | some (.array n _), _ => some (.int .i64 n)
    | some (.slice _), .slice _ n _ => some (.int .i64 n)
    | _, _ => none
  | none => none

def callV (P : Program) (x : VS) (o : Oper) (c : Call) : OV :=
  match c.callee with
  | .value g =>
    match argsV P x.l c.args.toList with
    | none => .stuck
    | some args =>
      match evV P x.l g with
      | some (.v (.func (.func f) ⟨first⟩ ⟨caps⟩)) => match enterD P f [] with
        | some _ => .enter f (first.map .v ++ args ++ caps.map .v)
        | none => .stuck
      | some (.fn f caps) => match enterD P f [] with
        | some _ => .enter f (args ++ caps.map svOf)
        | none => .stuck
      | _ => .stuck
  | .builtin .len => match argsV P x.l c.args.toList with
    | some [.v v] => match lenV P c v with
      | some r => .val (.v r)
      | none => .hard
    | _ => .hard
  | _ => .hard

def opV (P : Program) (x : VS) (o : Oper) : OV :=
  match o.op with
  | .move a | .assign a => match evV P x.l a with
    | some v => .val v
    | none => .stuck
  | .pick c a b => match evV P x.l c with
    | some (.v (.bool true)) => match evV P x.l a with
      | some v => .val v
      | none => .stuck
    | some (.v (.bool false)) => match evV P x.l b with
      | some v => .val v
      | none => .stuck
    | _ => .stuck
  | .alloc t => match zeroD P t with
    | some z => match flat z with
      | true => match apartE x.loc.length x.l with
        | true => .new z.cells.toList
        | false => .stuck
      | false => .stuck
    | none => .stuck
  | .box _ a => match evV P x.l a with
    | some (.v u) => match apartE x.loc.length x.l with
      | true => .new u.cells.toList
      | false => .stuck
    | _ => .hard
  | .load t a => match evV P x.l a with
    | some (.p k off) => match x.loc[k]? with
      | some cs => match loadC P t cs off with
        | some v => .val (.v v)
        | none => .stuck
      | none => .stuck
    | _ => .hard
  | .store t a b => match evV P x.l a with
    | some (.p k off) => match evV P x.l b with
      | some (.v u) => match x.loc[k]? with
        | some cs => match storeC P t cs off u with
          | some cs' => .upd k cs'
          | none => .stuck
        | none => .stuck
      | _ => .hard
    | _ => .hard
  | .fieldAddr t a f => match evV P x.l a with
    | some (.p k off) => match P.underlying t with
      | some (.struct fields) => match fields[f]? with
        | some fd => match sizeD P fd.type with
          | some (n + 1) => .val (.p k (off + fd.offset))
          | _ => .stuck
        | none => .stuck
      | _ => .stuck
    | _ => genV P x o
  | .nilCheck a => match evV P x.l a with
    | some (.p k off) => .val (.p k off)
    | some (.fn f c) => .val (.fn f c)
    | _ => genV P x o
  | .makeFunc (.func f) first caps => match argsV P x.l first.toList with
    | some [] => match argsV P x.l caps.toList with
      | some l => match sv0s l with
        | some l => .val (.fn f l)
        | none => .hard
      | none => .stuck
    | _ => genV P x o
  | .call c => callV P x o c
  | .binOp op t _ _ _ => match op with
    | .eql | .neq | .lss | .leq | .gtr | .geq => .cmp
    | .quo | .rem | .shl | .shr => .hard
    | _ => match P.underlying t with
      | some (.int _) => genV P x o
      | _ => .hard
  | .build .. | .makeInterface .. | .field .. | .typeAssert .. | .extract .. | .unOp .. | .convert .. => genV P x o
  | _ => .hard

section ok
variable {P : Program} {x : VS} {ids : Nat → Nat} {n : NN} {H : Hp} {o : Oper}

theorem argsV_eq : ∀ {l : List Operand} {vs : List SV}, argsV P x.l l = some vs → argsD (evS P (x.ss ids n H)) l = some (vs.map (den ids))
  | [], vs, h => by simp only [argsV, Option.some.injEq] at h; subst h; rfl
  | y :: l, vs, h => by
    simp only [argsV] at h
    split at h
    · rename_i v hv
      split at h
      · rename_i r hr
        cases h
        simp only [argsD, evV_eq P x ids n H hv, argsV_eq hr, List.map_cons]
      · cases h
    · cases h

theorem genV_ok {v : SV} (h : genV P x o = .val v) : opD P H (evS P (x.ss ids n H)) o = some (.val (den ids v) H) := by
  unfold genV at h
  split at h
  · rename_i hp
    split at h
    · rename_i hc
      split at h
      · rename_i u H1 he
        cases h
        have hev : ∀ y ∈ o.op.operands, evS P (x.ss ids n H) y = evPlain P x.l y := by
          intro y hy
          have := List.all_eq_true.1 hp y (by simpa using hy)
          unfold isPlain at this
          unfold evPlain
          split at this
          · rename_i w hw
            exact evV_eq P x ids n H hw
          · cases this
        obtain ⟨w, k1, k2⟩ := pure_ok hc he
        cases k1
        rw [opD_congr hev]; exact k2 H
      · cases h
    · cases h
  · cases h
theorem genV_only {v : OV} (h : genV P x o = v) : (∃ w, v = .val w) ∨ v = .hard ∨ v = .stuck := by
  unfold genV at h
  repeat' split at h
  all_goals (subst h; simp)
theorem genV_enter {f : FuncId} {args : List SV} (h : genV P x o = .enter f args) : False := by
  unfold genV at h
  repeat' split at h
  all_goals cases h

theorem enterD_any {f : FuncId} {r : Res} (h : enterD P f [] = some r) (args : List Value) : enterD P f args = some (.enter f args) := by
  unfold enterD at h ⊢
  split at h
  · rename_i fn hf
    split at h
    · cases h
    · rename_i hc
      simp only [hc]; rfl
  · cases h

theorem svOf_den {c : SV0} : den ids (svOf c) = den0 ids c := by cases c <;> rfl
theorem sv0_den : ∀ {a : SV} {c : SV0}, sv0 a = some c → den ids a = den0 ids c
  | .v _, _, h => by simp only [sv0, Option.some.injEq] at h; subst h; rfl
  | .p _ _, _, h => by simp only [sv0, Option.some.injEq] at h; subst h; rfl
theorem sv0s_den : ∀ {l : List SV} {c : List SV0}, sv0s l = some c → l.map (den ids) = c.map (den0 ids)
  | [], c, h => by simp only [sv0s, Option.some.injEq] at h; subst h; rfl
  | a :: l, c, h => by
    simp only [sv0s] at h
    split at h
    · rename_i v hv
      split at h
      · rename_i r hr
        cases h
        rw [List.map_cons, List.map_cons, sv0_den hv, sv0s_den hr]
      · cases h
    · cases h

theorem callV_enter {c : Call} {f : FuncId} {args : List SV} (ho : o.op = .call c) (h : callV P x o c = .enter f args) : opD P H (evS P (x.ss ids n H)) o = some (.enter f (args.map (den ids))) := by
  unfold callV at h
  split at h
  · rename_i g hcal
    split at h
    · cases h
    · rename_i as ha
      have ha := argsV_eq (ids := ids) (n := n) (H := H) ha
      split at h
      · rename_i f' first caps hg
        split at h
        · rename_i r hr
          cases h
          have := evV_eq P x ids n H hg
          unfold opD; simp only [ho]; unfold callD; simp only [ha, hcal, this, den]
          rw [enterD_any hr]
          simp [List.map_append, den, Function.comp_def]
        · cases h
      · rename_i f' caps hg
        split at h
        · rename_i r hr
          cases h
          have := evV_eq P x ids n H hg
          unfold opD; simp only [ho]; unfold callD; simp only [ha, hcal, this, den]
          rw [enterD_any hr]
          simp [List.map_append, svOf_den, Function.comp_def]
        · cases h
      · cases h
  · split at h
    · split at h <;> cases h
    · cases h
  · cases h

theorem callV_val {c : Call} {v : SV} (ho : o.op = .call c) (h : callV P x o c = .val v) : opD P H (evS P (x.ss ids n H)) o = some (.val (den ids v) H) := by
  unfold callV at h
  split at h
  · split at h
    · cases h
    · split at h
      · split at h <;> cases h
      · split at h <;> cases h
      · cases h
  · rename_i hcal
    split at h
    · rename_i u ha
      have ha := argsV_eq (ids := ids) (n := n) (H := H) ha
      split at h
      · rename_i r hr
        cases h
        have hl : lenOfD P H c.argTypes u = some r := by
          unfold lenV at hr
          unfold lenOfD
          split at hr
          · rename_i t ht
            rw [ht]; simp only
            split at hr <;> first | (cases hr; done) | (cases hr; first | rfl | (rename_i h1; simp only [h1]) | simp_all)
          · cases hr
        unfold opD; simp only [ho]; unfold callD; simp only [ha, hcal, List.map_cons, List.map_nil, den, hl, Option.map_some]
      · cases h
    · cases h
  · cases h
end ok

section frames
variable {P : Program} {B0 B : Hp} {cl : Bool} {kB : Nat} {loc : List (List Value)} {ids : Nat → Nat} {H : Hp}

theorem Fr.alloc (fr : Fr B0 B cl kB loc ids H) (cs : List Value) : Fr B0 B cl kB (loc ++ [cs]) (fun k => if k = loc.length then H.next else ids k) (H.alloc (.cells .fix cs)) := by
  refine ⟨fr.ext0.alloc _, by rw [Hp.next_alloc]; have := fr.nextB; omega, fun h => (fr.extB h).alloc _, ?_, ?_, ?_⟩
  · intro k c h
    by_cases hk : k = loc.length
    · subst hk
      simp only [List.getElem?_append_right (Nat.le_refl _), Nat.sub_self, List.getElem?_cons_zero, Option.some.injEq] at h
      subst h
      simp only [if_true]
      rw [Hp.get_alloc, if_pos rfl]
      exact ⟨rfl, by rw [Hp.next_alloc]; omega, fr.ext0.next⟩
    · have hlt : k < loc.length := by
        have := (List.getElem?_eq_some_iff.1 h).1
        simp at this; omega
      rw [List.getElem?_append_left hlt] at h
      obtain ⟨h1, h2, h3⟩ := fr.here k c h
      simp only [if_neg hk]
      rw [Hp.get_alloc, if_neg (by omega)]
      exact ⟨h1, by rw [Hp.next_alloc]; omega, h3⟩
  · intro k hk hkB
    simp only [List.length_append, List.length_cons, List.length_nil] at hk
    by_cases e : k = loc.length
    · subst e; simp only [if_true]; exact fr.nextB
    · simp only [if_neg e]; exact fr.old k (by omega) hkB
  · intro j k hj hk e
    simp only [List.length_append, List.length_cons, List.length_nil] at hj hk
    have hlt : ∀ i, i < loc.length → ids i < H.next := fun i hi => (fr.here i loc[i] (List.getElem?_eq_getElem hi)).2.1
    by_cases e1 : j = loc.length
    · by_cases e2 : k = loc.length
      · omega
      · simp only [if_pos e1, if_neg e2] at e
        have := hlt k (by omega); omega
    · by_cases e2 : k = loc.length
      · simp only [if_neg e1, if_pos e2] at e
        have := hlt j (by omega); omega
      · simp only [if_neg e1, if_neg e2] at e
        exact fr.inj j k (by omega) (by omega) e

theorem Fr.store (fr : Fr B0 B cl kB loc ids H) {k : Nat} {cs cs' : List Value} (hk : loc[k]? = some cs) : Fr B0 B (match Nat.ble kB k with | true => cl | false => false) kB (loc.set k cs') ids (H.put (ids k) (.cells .fix cs')) := by
  obtain ⟨h1, h2, h3⟩ := fr.here k cs hk
  have hlt := (List.getElem?_eq_some_iff.1 hk).1
  refine ⟨fr.ext0.put _ h3, fr.nextB, ?_, ?_, ?_, ?_⟩
  · intro hc
    cases hb : Nat.ble kB k with
    | true =>
      rw [hb] at hc
      exact (fr.extB hc).put _ (fr.old k hlt (Nat.le_of_ble_eq_true hb))
    | false => rw [hb] at hc; cases hc
  · intro j c h
    rw [Hp.get_put]
    by_cases e : j = k
    · subst e
      rw [List.getElem?_set_self hlt] at h; cases h
      rw [if_pos rfl]; exact ⟨rfl, h2, h3⟩
    · rw [List.getElem?_set_ne (fun q => e q.symm)] at h
      obtain ⟨g1, g2, g3⟩ := fr.here j c h
      have hj := (List.getElem?_eq_some_iff.1 h).1
      rw [if_neg (fun q => e (fr.inj j k hj hlt q))]
      exact ⟨g1, g2, g3⟩
  · intro j hj; rw [List.length_set] at hj; exact fr.old j hj
  · intro i j hi hj; rw [List.length_set] at hi hj; exact fr.inj i j hi hj
end frames
end Go.Det

set_option linter.unusedSimpArgs false
set_option linter.unusedVariables false
namespace Go.Det
open Go Go.RowKit

section ok
variable {P : Program} {x : VS} {ids : Nat → Nat} {n : NN} {H B0 B : Hp} {o : Oper}

theorem opV_enter {f : FuncId} {args : List SV} (h : opV P x o = .enter f args) : opD P H (evS P (x.ss ids n H)) o = some (.enter f (args.map (den ids))) := by
  unfold opV at h
  cases ho : o.op
  all_goals rw [ho] at h
  case makeFunc fn first caps =>
    cases fn <;> simp only at h
    all_goals
      repeat' split at h
      all_goals first
        | (cases h; done)
        | exact (genV_enter h).elim
  all_goals simp only at h
  case call c => exact callV_enter ho h
  all_goals
    repeat' split at h
    all_goals first
      | (cases h; done)
      | exact callV_enter ho h
      | exact (genV_enter h).elim

theorem callV_only {c : Call} {v : OV} (h : callV P x o c = v) : (∃ w, v = .val w) ∨ (∃ f args, v = .enter f args) ∨ v = .hard ∨ v = .stuck := by
  unfold callV at h
  repeat' split at h
  all_goals (subst h; simp)

theorem opV_val {v : SV} (h : opV P x o = .val v) (fr : Fr B0 B x.cl x.kB x.loc ids H) : opD P H (evS P (x.ss ids n H)) o = some (.val (den ids v) H) := by
  have gen : genV P x o = .val v → opD P H (evS P (x.ss ids n H)) o = some (.val (den ids v) H) := fun h => genV_ok h
  unfold opV at h
  cases ho : o.op
  all_goals rw [ho] at h
  case makeFunc fn first caps =>
    cases fn <;> simp only at h
    case func f =>
      split at h
      · rename_i hfirst
        split at h
        · rename_i l hl
          split at h
          · rename_i l0 hl0; cases h
            have a1 := argsV_eq (ids := ids) (n := n) (H := H) hfirst
            have a2 := argsV_eq (ids := ids) (n := n) (H := H) hl
            unfold opD; simp only [ho, a1, a2, den, List.map_nil, sv0s_den hl0]
          · cases h
        · cases h
      · exact gen h
    all_goals first | (cases h; done) | skip
  all_goals simp only at h
  case call c => exact callV_val ho h
  case move a =>
    split at h
    · rename_i w hw; cases h
      unfold opD; simp only [ho, evV_eq P x ids n H hw]
    · cases h
  case assign a =>
    split at h
    · rename_i w hw; cases h
      unfold opD; simp only [ho, evV_eq P x ids n H hw]
    · cases h
  case pick c a b =>
    split at h
    · rename_i hc
      split at h
      · rename_i w hw; cases h
        unfold opD; simp only [ho, evV_eq P x ids n H hc, evV_eq P x ids n H hw, den]
      · cases h
    · rename_i hc
      split at h
      · rename_i w hw; cases h
        unfold opD; simp only [ho, evV_eq P x ids n H hc, evV_eq P x ids n H hw, den]
      · cases h
    · cases h
  case load t a =>
    split at h
    · rename_i k off hk
      split at h
      · rename_i cs hcs
        split at h
        · rename_i w hw; cases h
          obtain ⟨g1, g2, g3⟩ := fr.here k cs hcs
          refine opD_load ho (evV_eq P x ids n H hk) ?_
          unfold loadC at hw
          simp only [den, loadD, g1]
          split at hw
          · rename_i hg
            split at hw
            · rename_i m hm
              split at hw
              · rename_i hb; cases hw
                simp only [hg, hm]
                rw [if_pos (Nat.le_of_ble_eq_true hb)]
              · cases hw
            · cases hw
          · rename_i hg; simp only [hg]; exact hw
          · cases hw
        · cases h
      · cases h
    · cases h
  case fieldAddr t a f =>
    split at h
    · rename_i k off hk
      split at h
      · rename_i fields hu
        split at h
        · rename_i fd hfd
          split at h
          · rename_i m hm; cases h
            unfold opD; simp only [ho, evV_eq P x ids n H hk, den, fieldAddrD, hu, hfd, hm]
            rfl
          · cases h
        · cases h
      · cases h
    · exact gen h
  case nilCheck a =>
    split at h
    · rename_i k off hk; cases h
      unfold opD; simp only [ho, evV_eq P x ids n H hk, den]
    · rename_i f c hk; cases h
      unfold opD; simp only [ho, evV_eq P x ids n H hk, den]
    · exact gen h
  case binOp op t a b u =>
    split at h <;> first | (cases h; done) | skip
    all_goals
      split at h
      · exact gen h
      · cases h
  all_goals first
    | exact gen h
    | (cases h; done)
    | (repeat' split at h
       all_goals (cases h; done))

theorem opV_new {cs : List Value} (h : opV P x o = .new cs) : opD P H (evS P (x.ss ids n H)) o = some (.val (newD H cs).1 (newD H cs).2) ∧ apartE x.loc.length x.l = true := by
  have gen : genV P x o = .new cs → False := fun h => by rcases genV_only h with ⟨w, e⟩ | e | e <;> cases e
  unfold opV at h
  cases ho : o.op
  all_goals rw [ho] at h
  case makeFunc fn first caps =>
    cases fn <;> simp only at h
    all_goals
      repeat' split at h
      all_goals first | (cases h; done) | exact (gen h).elim
  all_goals simp only at h
  case call c => rcases callV_only h with ⟨w, e⟩ | ⟨f, a, e⟩ | e | e <;> cases e
  case alloc t =>
    split at h
    · rename_i z hz
      split at h
      · rename_i hf
        split at h
        · rename_i ha; cases h
          exact ⟨by unfold opD; simp only [ho, hz, hf, if_true], ha⟩
        · cases h
      · cases h
    · cases h
  case box t a =>
    split at h
    · rename_i u hu
      split at h
      · rename_i ha; cases h
        exact ⟨by unfold opD; simp only [ho, evV_eq P x ids n H hu, den], ha⟩
      · cases h
    · cases h
  all_goals
    repeat' split at h
    all_goals first | (cases h; done) | exact (gen h).elim

theorem opV_upd {k : Nat} {cs' : List Value} (h : opV P x o = .upd k cs') (fr : Fr B0 B x.cl x.kB x.loc ids H) : ∃ cs, x.loc[k]? = some cs ∧ opD P H (evS P (x.ss ids n H)) o = some (.val undef (H.put (ids k) (.cells .fix cs'))) := by
  have gen : genV P x o = .upd k cs' → False := fun h => by rcases genV_only h with ⟨w, e⟩ | e | e <;> cases e
  unfold opV at h
  cases ho : o.op
  all_goals rw [ho] at h
  case makeFunc fn first caps =>
    cases fn <;> simp only at h
    all_goals
      repeat' split at h
      all_goals first | (cases h; done) | exact (gen h).elim
  all_goals simp only at h
  case call c => rcases callV_only h with ⟨w, e⟩ | ⟨f, a, e⟩ | e | e <;> cases e
  case store t a b =>
    split at h
    · rename_i k off hk
      split at h
      · rename_i u hu
        split at h
        · rename_i cs hcs
          split at h
          · rename_i cs' hw; cases h
            obtain ⟨g1, g2, g3⟩ := fr.here _ cs hcs
            refine ⟨cs, hcs, opD_store ho (evV_eq P x ids n H hk) (evV_eq P x ids n H hu) ?_⟩
            unfold storeC at hw
            split at hw
            · rename_i m hm
              split at hw
              · rename_i h1
                split at hw
                · rename_i h2
                  split at hw
                  · rename_i h3
                    cases hw
                    simp only [den, storeD, g1]
                    exact if_pos ⟨by decide, by rw [hm, Nat.eq_of_beq_eq_true h1], Nat.le_of_ble_eq_true h2, h3⟩
                  · cases hw
                · cases hw
              · cases hw
            · cases hw
          · cases h
        · cases h
      · cases h
    · cases h
  all_goals
    repeat' split at h
    all_goals first | (cases h; done) | exact (gen h).elim
end ok
end Go.Det

set_option linter.unusedSimpArgs false
set_option linter.unusedVariables false
namespace Go.Det
open Go Go.RowKit

/-! ## 24. Runs with variables of the function's own -/
def VJ (P : Program) (n : NN) (B0 B : Hp) (k : KK) (Q : Ex → SS → Prop) (x : VS) : Prop := ∀ ids H, Fr B0 B x.cl x.kB x.loc ids H → JK P k Q (x.ss ids n H)

inductive VOut where
  | fin (e : Ex) (x : VS)
  | loop (c : Code) (k : KK) (x : VS)
  | again (c : Code) (k : KK) (x : VS)
  | call (f : FuncId) (args : List SV) (d : Option Tmp) (k : KK) (x : VS)
  | hard (a : Array Oper) (m i : Nat) (k : KK) (x : VS)
  | cmp (a : Array Oper) (m i : Nat) (k : KK) (x : VS)
  | draw (id : Nat) (a : Array Oper) (k : KK) (x : VS)
  | stuck
  | go (k : KK) (x : VS)

def vStep (P : Program) (n : NN) (k : KK) (x : VS) : VOut :=
  match k with
  | [] => .fin .normal x
  | .inBlock _ :: k => .go k x
  | .inLoop c :: k => .again c k x
  | .ops a 0 i :: k => .go k x
  | .ops a (m + 1) i :: k =>
    match a[i]? with
    | none => .stuck
    | some o =>
      match gdV a x.l o with
      | none => .stuck
      | some false => match putV x n o.dst (.v undef) with
        | some x' => .go (.ops a m (i + 1) :: k) x'
        | none => .stuck
      | some true =>
        match opV P x o with
        | .hard => .hard a m i k x
        | .cmp => .cmp a m i k x
        | .stuck => .stuck
        | .val v => match notDefer o.op with
          | true => match putV x n o.dst v with
            | some x' => .go (.ops a m (i + 1) :: k) x'
            | none => .stuck
          | false => .stuck
        | .new cs => match notDefer o.op, x with
          | true, ⟨l, loc, cl, kB⟩ => match putV ⟨l, loc ++ [cs], cl, kB⟩ n o.dst (.p loc.length 0) with
            | some x' => .go (.ops a m (i + 1) :: k) x'
            | none => .stuck
          | false, _ => .stuck
        | .upd j cs => match notDefer o.op, x with
          | true, ⟨l, loc, cl, kB⟩ => match putV ⟨l, loc.set j cs, (match Nat.ble kB j with | true => cl | false => false), kB⟩ n o.dst (.v undef) with
            | some x' => .go (.ops a m (i + 1) :: k) x'
            | none => .stuck
          | false, _ => .stuck
        | .enter f args => match notDefer o.op with
          | true => match putV x n o.dst (.v undef) with
            | some _ => .call f args o.dst (.ops a m (i + 1) :: k) x
            | none => .stuck
          | false => .stuck
  | .code c :: k =>
    match c with
    | .skip => .go k x
    | .label _ => .go k x
    | .exit id => match unwS id k with
      | some k' => .go k' x
      | none => .fin (.exit id) x
    | .ret => .fin .ret x
    | .seq a b => .go (.code a :: .code b :: k) x
    | .block id c => .go (.code c :: .inBlock id :: k) x
    | .scope c => .go (.code c :: k) x
    | .cond c a b => match evV P x.l c with
      | some (.v (.bool true)) => .go (.code a :: k) x
      | some (.v (.bool false)) => .go (.code b :: k) x
      | _ => .stuck
    | .loop c => .loop c k x
    | .region _ a false => .go (.ops a a.size 0 :: k) x
    | .region id a true => .draw id a k x
    | _ => .stuck

def vSym (P : Program) (n : NN) : Nat → KK → VS → VOut
  | 0, k, x => .go k x
  | N + 1, k, x => match vStep P n k x with
    | .go k' x' => vSym P n N k' x'
    | o => o

def VOut.ok (P : Program) (n : NN) (B0 B : Hp) (Q : Ex → SS → Prop) : VOut → Prop
  | .fin e x => ∀ ids H, Fr B0 B x.cl x.kB x.loc ids H → Q e (x.ss ids n H)
  | .loop c k x => VJ P n B0 B (.code (.loop c) :: k) Q x
  | .again c k x => VJ P n B0 B (.inLoop c :: k) Q x
  | .call f args d k x => ∀ ids H, Fr B0 B x.cl x.kB x.loc ids H → SCall P f (args.map (den ids)) H fun
      | .ret v, H' => ∃ s', putS (x.ss ids n H) d v H' = some s' ∧ JK P k Q s'
      | .panic v, H' => Q (.panic v) { x.ss ids n H with H := H' }
  | .hard a m i k x => VJ P n B0 B (.ops a (m + 1) i :: k) Q x
  | .cmp a m i k x => VJ P n B0 B (.ops a (m + 1) i :: k) Q x
  | .draw id a k x => VJ P n B0 B (.code (.region id a true) :: k) Q x
  | .go k x => VJ P n B0 B k Q x
  | .stuck => False

section rules
variable {P : Program} {Q : Ex → SS → Prop} {n : NN} {B0 B : Hp}

theorem vStep_ok {k : KK} {x : VS} (h : (vStep P n k x).ok P n B0 B Q) : VJ P n B0 B k Q x := by
  intro ids H fr
  unfold vStep at h
  split at h
  · exact h ids H fr
  · exact h ids H fr
  · exact h ids H fr
  · exact JL.nil (h ids H fr)
  · split at h
    · exact h.elim
    · rename_i o ho
      split at h
      · exact h.elim
      · rename_i hg
        split at h
        · rename_i x' hp
          obtain ⟨p1, p2, p3, p4⟩ := putV_eq ids H H hp
          refine JK.ops (by unfold doOp; simp only [ho, gdV_eq ids n H hg]; rw [show (x.ss ids n H).H = H from rfl, show (undef : Value) = den ids (.v undef) from rfl, p1]) (h ids H ?_)
          rw [p2, p3, p4]; exact fr
        · exact h.elim
      · rename_i hg
        split at h
        · exact h ids H fr
        · exact h ids H fr
        · exact h.elim
        · rename_i v he
          split at h
          · rename_i hd
            split at h
            · rename_i x' hp
              obtain ⟨p1, p2, p3, p4⟩ := putV_eq ids H H hp
              refine JK.ops (s' := x'.ss ids n H) ?_ (h ids H (by rw [p2, p3, p4]; exact fr))
              unfold doOp
              simp only [ho, gdV_eq ids n H hg, hd]
              rw [show (x.ss ids n H).H = H from rfl, opV_val (n := n) he fr]
              simp only; rw [p1]
            · exact h.elim
          · exact h.elim
        · rename_i cs he
          split at h
          · rename_i hd
            rename_i l loc cl kB
            split at h
            · rename_i x' hp
              obtain ⟨e1, e2⟩ := opV_new (n := n) (H := H) (ids := ids) he
              have hden : denE (fun k => if k = loc.length then H.next else ids k) l = denE ids l := denE_apart (k := loc.length) (fun j hj => by simp [hj]) e2
              obtain ⟨p1, p2, p3, p4⟩ := putV_eq (fun k => if k = loc.length then H.next else ids k) (H.alloc (.cells .fix cs)) (H.alloc (.cells .fix cs)) hp
              refine JK.ops (s' := x'.ss (fun k => if k = loc.length then H.next else ids k) n (H.alloc (.cells .fix cs))) ?_ (h _ _ (by rw [p2, p3, p4]; exact fr.alloc cs))
              unfold doOp
              have hg' := gdV_eq ids n H hg
              simp only [ho, hg', hd]
              rw [show (VS.ss ⟨l, loc, cl, kB⟩ ids n H).H = H from rfl, e1]
              simp only [newD]
              have p1' : putS (VS.ss ⟨l, loc, cl, kB⟩ ids n H) o.dst (.pointer (some ⟨H.next, 0, none⟩)) (H.alloc (.cells .fix cs)) = some (x'.ss (fun k => if k = loc.length then H.next else ids k) n (H.alloc (.cells .fix cs))) := by
                rw [← p1]
                simp only [VS.ss, hden, den, if_true]
                cases o.dst <;> rfl
              rw [p1']
            · exact h.elim
          · exact h.elim
        · rename_i j cs he
          split at h
          · rename_i hd
            rename_i l loc cl kB
            split at h
            · rename_i x' hp
              obtain ⟨cs0, e0, e1⟩ := opV_upd (n := n) he fr
              obtain ⟨p1, p2, p3, p4⟩ := putV_eq ids (H.put (ids j) (.cells .fix cs)) (H.put (ids j) (.cells .fix cs)) hp
              refine JK.ops (s' := x'.ss ids n (H.put (ids j) (.cells .fix cs))) ?_ (h _ _ (by rw [p2, p3, p4]; exact fr.store e0))
              unfold doOp
              have hg' := gdV_eq ids n H hg
              simp only [ho, hg', hd]
              rw [show (VS.ss ⟨l, loc, cl, kB⟩ ids n H).H = H from rfl, e1]
              simp only
              have p1' : putS (VS.ss ⟨l, loc, cl, kB⟩ ids n H) o.dst undef (H.put (ids j) (.cells .fix cs)) = some (x'.ss ids n (H.put (ids j) (.cells .fix cs))) := by
                rw [← p1]
                cases o.dst <;> rfl
              rw [p1']
            · exact h.elim
          · exact h.elim
        · rename_i f args he
          split at h
          · rename_i hd
            split at h
            · rename_i x' hp
              obtain ⟨p1, _⟩ := putV_eq ids H H hp
              refine JK.call (f := f) (args := args.map (den ids)) (d := o.dst) ?_ (h ids H fr)
              unfold doOp
              simp only [ho, gdV_eq ids n H hg, hd]
              rw [show (x.ss ids n H).H = H from rfl, opV_enter (n := n) (H := H) (ids := ids) he]
              simp only
              rw [show (undef : Value) = den ids (.v undef) from rfl, p1]
            · exact h.elim
          · exact h.elim
  · split at h
    · exact J.skip (h ids H fr)
    · exact J.label (h ids H fr)
    · rename_i id
      refine J.exit (QK_exit ?_)
      split at h <;> rename_i hu <;> rw [hu] <;> exact h ids H fr
    · refine J.ret ?_
      show QK P _ Q .ret _
      rw [QK_ret]; exact h ids H fr
    · exact JK.seq (h ids H fr)
    · exact JK.block (h ids H fr)
    · exact SC.scope (h ids H fr)
    · split at h
      · rename_i hc; exact JK.cond (evV_eq P x ids n H hc) (fun _ => h ids H fr) (fun q => by cases q)
      · rename_i hc; exact JK.cond (evV_eq P x ids n H hc) (fun q => by cases q) (fun _ => h ids H fr)
      · exact h.elim
    · exact h ids H fr
    · exact J.region rfl (h ids H fr)
    · exact h ids H fr
    · exact h.elim

theorem vSym_ok : ∀ (N : Nat) {k : KK} {x : VS}, (vSym P n N k x).ok P n B0 B Q → VJ P n B0 B k Q x
  | 0, _, _, h => h
  | N + 1, k, x, h => by
    unfold vSym at h
    split at h
    · rename_i k' x' hs
      exact vStep_ok (by rw [hs]; exact vSym_ok N h)
    · exact vStep_ok h
end rules
end Go.Det

set_option linter.unusedSimpArgs false
set_option linter.unusedVariables false
namespace Go.Det
open Go Go.RowKit

/-! ## 25. Rules -/
theorem Fr.weak {B0 B : Hp} {cl cl' : Bool} {kB kB' : Nat} {loc : List (List Value)} {ids : Nat → Nat} {H : Hp} (fr : Fr B0 B cl kB loc ids H) (hc : cl' = true → cl = true) (hk : kB ≤ kB') : Fr B0 B cl' kB' loc ids H :=
  ⟨fr.ext0, fr.nextB, fun h => fr.extB (hc h), fr.here, fun k h1 h2 => fr.old k h1 (Nat.le_trans hk h2), fr.inj⟩
/-- The heap that an operation or a call leaves: what is the function's own is as it was. -/
structure Upd (B0 : Hp) (loc : List (List Value)) (ids : Nat → Nat) (H H' : Hp) : Prop where
  ext0 : Ext B0 H'
  next : H.next ≤ H'.next
  own : ∀ k, k < loc.length → H'.get (ids k) = H.get (ids k)
theorem Fr.upd {B0 B : Hp} {cl : Bool} {kB : Nat} {loc : List (List Value)} {ids : Nat → Nat} {H H' : Hp} (fr : Fr B0 B cl kB loc ids H) (u : Upd B0 loc ids H H') : Fr B0 H' true loc.length loc ids H' :=
  ⟨u.ext0, Nat.le_refl _, fun _ => Ext.refl _, fun k cs h => by
    obtain ⟨h1, h2, h3⟩ := fr.here k cs h
    have hk := (List.getElem?_eq_some_iff.1 h).1
    exact ⟨(u.own k hk).trans h1, Nat.lt_of_lt_of_le h2 u.next, h3⟩, fun k h1 h2 => by omega, fr.inj⟩
theorem Fr.updExt {B0 B : Hp} {cl : Bool} {kB : Nat} {loc : List (List Value)} {ids : Nat → Nat} {H H' : Hp} (fr : Fr B0 B cl kB loc ids H) (e : Ext H H') : Upd B0 loc ids H H' :=
  ⟨fr.ext0.trans e, e.next, fun k hk => e.same _ (fr.here k loc[k] (List.getElem?_eq_getElem hk)).2.1⟩

def lessV : VEnv → VEnv → Prop
  | [], _ => True
  | (t, v) :: r, l' => lookV l' t = some v ∧ lessV r l'
theorem lessV_ok (ids : Nat → Nat) : ∀ {l l' : VEnv}, lessV l l' → lessB (denE ids l) (denE ids l')
  | [], _, _ => trivial
  | (t, v) :: r, l', h => ⟨by rw [look_denE, h.1]; rfl, lessV_ok ids h.2⟩

def resV (P : Program) (x : VS) : ResultVar → Option Value
  | .tmp t => match lookV x.l t with
    | some (.v v) => some v
    | _ => none
  | .cell a t => match lookV x.l a with
    | some (.p k off) => match x.loc[k]? with
      | some cs => loadC P t cs off
      | none => none
    | _ => none
def ressV (P : Program) (x : VS) : List ResultVar → Option (List Value)
  | [] => some []
  | r :: l => match resV P x r with
    | some v => match ressV P x l with
      | some vs => some (v :: vs)
      | none => none
    | none => none

section rules
variable {P : Program} {Q : Ex → SS → Prop} {n : NN} {B0 B : Hp} {k k' : KK} {x x' x'' : VS}

theorem loadC_ok {t : TypeId} {cs : List Value} {off b : Nat} {v : Value} {H : Hp} (hg : H.get b = some (.cells .fix cs)) (h : loadC P t cs off = some v) : loadD P H t (.pointer (some ⟨b, off, none⟩)) = some v := by
  unfold loadC at h
  simp only [loadD, hg]
  split at h
  · rename_i hg
    split at h
    · rename_i m hm
      split at h
      · rename_i hb; cases h
        simp only [hg, hm]
        rw [if_pos (Nat.le_of_ble_eq_true hb)]
      · cases h
    · cases h
  · rename_i hg; simp only [hg]; exact h
  · cases h

theorem ressV_ok {ids : Nat → Nat} {H : Hp} (fr : Fr B0 B x.cl x.kB x.loc ids H) : ∀ {l : List ResultVar} {vs : List Value}, ressV P x l = some vs → ressS P (x.ss ids n H) l = some vs
  | [], vs, h => by simp only [ressV, Option.some.injEq] at h; subst h; rfl
  | r :: l, vs, h => by
    simp only [ressV] at h
    split at h
    · rename_i v hv
      split at h
      · rename_i us hu
        cases h
        have h1 : resS P (x.ss ids n H) r = some v := by
          cases r with
          | tmp t =>
            simp only [resV] at hv
            simp only [resS]
            rw [show (x.ss ids n H).l = denE ids x.l from rfl, look_denE]
            split at hv
            · rename_i w hw; cases hv; rw [hw]; rfl
            · cases hv
          | cell a t =>
            simp only [resV] at hv
            simp only [resS]
            rw [show (x.ss ids n H).l = denE ids x.l from rfl, look_denE]
            split at hv
            · rename_i k off hk
              split at hv
              · rename_i cs hcs
                rw [hk]
                exact loadC_ok (fr.here k cs hcs).1 hv
              · cases hv
            · cases hv
        simp only [ressS, h1, ressV_ok fr hu]
      · cases h
    · cases h

variable (N : Nat)
theorem VJ.sym {o : VOut} (hs : vSym P n N k x = o) (h : o.ok P n B0 B Q) : VJ P n B0 B k Q x := vSym_ok N (by rw [hs]; exact h)

theorem SCall.v {f : FuncId} {fn : Func} {c : Code} {args : List Value} {H : Hp} {Q : En → Hp → Prop} (hf : P.funcs[f]? = some fn) (hb : fn.body = some c) {m : Nat} (hn : fn.ntmps = m) {g : Nat} (hg : args.length = g) (hl : Nat.ble g m = true)
    {res : List ResultVar} (hr : fn.results.toList = res) {l : VEnv} (he : ∀ ids, denE ids l = envOf args) (h : VJ P ⟨m, true⟩ H H [.code c] (bodyS P res Q) ⟨l, [], true, 0⟩) : SCall P f args H Q :=
  SCall.body hf hb hn (by rw [hg]; exact Nat.le_of_ble_eq_true hl) hr (by
    have := h (fun _ => 0) H ⟨Ext.refl H, Nat.le_refl _, fun _ => Ext.refl H, fun k cs h => by simp at h, fun k h => by simp at h, fun j k h => by simp at h⟩
    simp only [VS.ss, he] at this
    exact this)

/-- The end: what is returned. -/
theorem VJ.rt {R : Value → Hp → Prop} {res : List ResultVar} {vs : List Value} {v : Value} (hs : vSym P n N k x = .fin .ret x') (hr : ressV P x' res = some vs) (hv : oneD vs = v) (h : ∀ ids H, Fr B0 B x'.cl x'.kB x'.loc ids H → R v H) : VJ P n B0 B k (bodyS P res (Ret R)) x :=
  VJ.sym N hs (fun ids H fr => ⟨rfl, vs, ressV_ok fr hr, v, by rw [hv], h ids H fr⟩)
theorem VJ.rn {R : Value → Hp → Prop} {res : List ResultVar} {vs : List Value} {v : Value} (hs : vSym P n N k x = .fin .normal x') (hr : ressV P x' res = some vs) (hv : oneD vs = v) (h : ∀ ids H, Fr B0 B x'.cl x'.kB x'.loc ids H → R v H) : VJ P n B0 B k (bodyS P res (Ret R)) x :=
  VJ.sym N hs (fun ids H fr => ⟨rfl, vs, ressV_ok fr hr, v, by rw [hv], h ids H fr⟩)

theorem VJ.rt1 {R : Value → Hp → Prop} {res : List ResultVar} {v : Value} (hs : vSym P n N k x = .fin .ret x') (hr : ressV P x' res = some [v]) (h : ∀ ids H, Fr B0 B x'.cl x'.kB x'.loc ids H → R v H) : VJ P n B0 B k (bodyS P res (Ret R)) x := VJ.rt N hs hr rfl h
theorem VJ.rt2 {R : Value → Hp → Prop} {res : List ResultVar} {v w : Value} (hs : vSym P n N k x = .fin .ret x') (hr : ressV P x' res = some [v, w]) (h : ∀ ids H, Fr B0 B x'.cl x'.kB x'.loc ids H → R (.tuple ⟨[v, w]⟩) H) : VJ P n B0 B k (bodyS P res (Ret R)) x := VJ.rt N hs hr rfl h
theorem VJ.rt3 {R : Value → Hp → Prop} {res : List ResultVar} {u v w : Value} (hs : vSym P n N k x = .fin .ret x') (hr : ressV P x' res = some [u, v, w]) (h : ∀ ids H, Fr B0 B x'.cl x'.kB x'.loc ids H → R (.tuple ⟨[u, v, w]⟩) H) : VJ P n B0 B k (bodyS P res (Ret R)) x := VJ.rt N hs hr rfl h

/-- A comparison of plain values: both ways. -/
theorem VJ.cm {a : Array Oper} {m i : Nat} {o : Oper} {b : Bool} {x1 x2 : VS} {H0 : Hp} (hs : vSym P n N k x = .cmp a m i k' x') (ho : a[i]? = some o) (hg : gdV a x'.l o = some true) (hd : notDefer o.op = true) (hp : o.op.operands.toList.all (isPlain P x'.l) = true) (hc : cls P o.op = some .pure)
    (he : opD P ⟨.nil, 0, 0⟩ (evPlain P x'.l) o = some (.val (.bool b) H0)) (hp1 : putV x' n o.dst (.v (.bool true)) = some x1) (hp2 : putV x' n o.dst (.v (.bool false)) = some x2)
    (h1 : b = true → VJ P n B0 B (.ops a m (i + 1) :: k') Q x1) (h2 : b = false → VJ P n B0 B (.ops a m (i + 1) :: k') Q x2) : VJ P n B0 B k Q x := by
  refine VJ.sym N hs fun ids H fr => ?_
  have hgen : genV P x' o = .val (.v (.bool b)) := by unfold genV; simp only [hp, hc, he]
  have e1 := genV_ok (ids := ids) (n := n) (H := H) hgen
  cases b with
  | true =>
    obtain ⟨p1, p2, p3, p4⟩ := putV_eq ids H H hp1
    refine JK.ops (s' := x1.ss ids n H) ?_ (h1 rfl ids H (by rw [p2, p3, p4]; exact fr))
    unfold doOp
    simp only [ho, gdV_eq ids n H hg, hd]
    rw [show (x'.ss ids n H).H = H from rfl, e1]
    simp only; rw [p1]
  | false =>
    obtain ⟨p1, p2, p3, p4⟩ := putV_eq ids H H hp2
    refine JK.ops (s' := x2.ss ids n H) ?_ (h2 rfl ids H (by rw [p2, p3, p4]; exact fr))
    unfold doOp
    simp only [ho, gdV_eq ids n H hg, hd]
    rw [show (x'.ss ids n H).H = H from rfl, e1]
    simp only; rw [p1]

/-- An operation that gives a value and leaves memory as it is. -/
theorem VJ.hd {a : Array Oper} {m i : Nat} {o : Oper} {v : Value} (hs : vSym P n N k x = .hard a m i k' x') (ho : a[i]? = some o) (hg : gdV a x'.l o = some true) (hd : notDefer o.op = true)
    (he : ∀ ids H, Fr B0 B x'.cl x'.kB x'.loc ids H → opD P H (evS P (x'.ss ids n H)) o = some (.val v H)) (hp : putV x' n o.dst (.v v) = some x'') (h : VJ P n B0 B (.ops a m (i + 1) :: k') Q x'') : VJ P n B0 B k Q x := by
  refine VJ.sym N hs fun ids H fr => ?_
  obtain ⟨p1, p2, p3, p4⟩ := putV_eq ids H H hp
  refine JK.ops (s' := x''.ss ids n H) ?_ (h ids H (by rw [p2, p3, p4]; exact fr))
  unfold doOp
  simp only [ho, gdV_eq ids n H hg, hd]
  rw [show (x'.ss ids n H).H = H from rfl, he ids H fr]
  simp only; rw [show v = den ids (.v v) from rfl, p1]

theorem Fr.after {B0 B : Hp} {y : VS} {ids : Nat → Nat} {H' : Hp} (f : Fr B0 H' true y.loc.length y.loc ids H') (p2 : x''.loc = y.loc) (p3 : x''.cl = true) (p4 : x''.kB = y.loc.length) : Fr B0 H' x''.cl x''.kB x''.loc ids H' := by
  rw [p2, p3, p4]; exact f

/-- An operation that turns memory. -/
theorem VJ.hn {a : Array Oper} {m i : Nat} {o : Oper} {R : Value → Hp → Prop} {l : VEnv} {loc : List (List Value)} {cl : Bool} {kB : Nat} (hs : vSym P n N k x = .hard a m i k' ⟨l, loc, cl, kB⟩) (ho : a[i]? = some o) (hg : gdV a l o = some true) (hd : notDefer o.op = true)
    (he : ∀ ids H, Fr B0 B cl kB loc ids H → ∃ v H', opD P H (evS P (VS.ss ⟨l, loc, cl, kB⟩ ids n H)) o = some (.val v H') ∧ Upd B0 loc ids H H' ∧ R v H')
    (hk : ∀ v H', Ext B0 H' → R v H' → ∃ x'', putV ⟨l, loc, true, loc.length⟩ n o.dst (.v v) = some x'' ∧ VJ P n B0 H' (.ops a m (i + 1) :: k') Q x'') : VJ P n B0 B k Q x := by
  refine VJ.sym N hs fun ids H fr => ?_
  obtain ⟨v, H', h1, h2, h3⟩ := he ids H fr
  obtain ⟨y, hp, h⟩ := hk v H' h2.ext0 h3
  obtain ⟨p1, p2, p3, p4⟩ := putV_eq ids H H' hp
  refine JK.ops (s' := y.ss ids n H') ?_ (h ids H' (by rw [p2, p3, p4]; exact fr.upd h2))
  unfold doOp
  have hg' := gdV_eq (x := ⟨l, loc, cl, kB⟩) ids n H hg
  simp only [ho, hg', hd]
  rw [show (VS.ss ⟨l, loc, cl, kB⟩ ids n H).H = H from rfl, h1]
  simp only
  have p1' : putS (VS.ss ⟨l, loc, cl, kB⟩ ids n H) o.dst v H' = some (y.ss ids n H') := by rw [← p1]; cases o.dst <;> rfl
  rw [p1']

/-- A call that returns. -/
theorem VJ.cl {f : FuncId} {args : List SV} {d : Option Tmp} {R : Value → Hp → Prop} {l : VEnv} {loc : List (List Value)} {cl : Bool} {kB : Nat} (hs : vSym P n N k x = .call f args d k' ⟨l, loc, cl, kB⟩)
    (hc : ∀ ids H, Fr B0 B cl kB loc ids H → SCall P f (args.map (den ids)) H (Ret fun v H' => Ext H H' ∧ R v H'))
    (hk : ∀ v H', Ext B0 H' → (cl = true → Ext B H') → R v H' → ∃ x'', putV ⟨l, loc, true, loc.length⟩ n d (.v v) = some x'' ∧ VJ P n B0 H' k' Q x'') : VJ P n B0 B k Q x := by
  refine VJ.sym N hs fun ids H fr => ?_
  refine (hc ids H fr).mono fun e H' ⟨v, h1, h2, h3⟩ => ?_
  subst h1
  obtain ⟨y, hp, h⟩ := hk v H' (fr.ext0.trans h2) (fun h => (fr.extB h).trans h2) h3
  obtain ⟨p1, p2, p3, p4⟩ := putV_eq ids H H' hp
  refine ⟨y.ss ids n H', ?_, h ids H' (by rw [p2, p3, p4]; exact fr.upd (fr.updExt h2))⟩
  rw [← p1]; cases d <;> rfl

/-- A loop. -/
theorem VJ.lp {α : Type} {c : Code} (kb : Nat) (cb : Bool) (I : α → VEnv) (L : α → List (List Value)) (M : α → Hp) (μ : α → Nat) (ok : α → Prop) (x0 : α) {l : VEnv} {loc : List (List Value)} {cl : Bool} {kB : Nat} (hs : vSym P n N k x = .loop c k' ⟨l, loc, cl, kB⟩) (hx : ok x0) (hl : lessV (I x0) l) (hL : loc = L x0) (hB : B = M x0)
    (hcl : cb = true → cl = true) (hkB : Nat.ble kB kb = true)
    (h : ∀ y, ok y → (∀ z, ok z → μ z < μ y → VJ P n B0 (M z) (.inLoop c :: k') Q ⟨I z, L z, cb, kb⟩) → VJ P n B0 (M y) (.code c :: .inLoop c :: k') Q ⟨I y, L y, cb, kb⟩) : VJ P n B0 B k Q x := by
  subst hL hB
  have key : ∀ m z, ok z → μ z = m → VJ P n B0 (M z) (.inLoop c :: k') Q ⟨I z, L z, cb, kb⟩ := by
    intro m
    induction m using Nat.strongRecOn with
    | _ m ih => intro z hz hm ids H fr; exact JK.round (h z hz (fun y hy hlt => ih _ (by omega) y hy rfl) ids H fr)
  refine VJ.sym N hs fun ids H fr => ?_
  have := h x0 hx (fun y hy _ => key _ y hy rfl) ids H (fr.weak hcl (Nat.le_of_ble_eq_true hkB))
  exact JK.less (denE ids (I x0)) (lessV_ok ids hl) (.inl ⟨_, rfl⟩) (JK.loop this)
theorem VJ.ag {c : Code} {kb : Nat} {cb : Bool} {I : VEnv} {L : List (List Value)} {M : Hp} {l : VEnv} {loc : List (List Value)} {cl : Bool} {kB : Nat} (hs : vSym P n N k x = .again c k' ⟨l, loc, cl, kB⟩) (hl : lessV I l) (hL : loc = L) (hB : B = M) (hcl : cb = true → cl = true) (hkB : Nat.ble kB kb = true)
    (h : VJ P n B0 M (.inLoop c :: k') Q ⟨I, L, cb, kb⟩) : VJ P n B0 B k Q x := by
  subst hL hB
  refine VJ.sym N hs fun ids H fr => ?_
  exact JK.less (denE ids I) (lessV_ok ids hl) (.inr ⟨_, rfl⟩) (h ids H (fr.weak hcl (Nat.le_of_ble_eq_true hkB)))
end rules
end Go.Det

set_option linter.unusedSimpArgs false
set_option linter.unusedVariables false
namespace Go.Det
open Go Go.RowKit

/-! ## 26. Regions that draw, with variables of the function's own -/
structure FrD (B0 B D : Hp) (kD : Nat) (cl : Bool) (kB : Nat) (loc : List (List Value)) (ids : Nat → Nat) (H : Hp) : Prop where
  fr : Fr B0 B cl kB loc ids H
  extD : Ext D H
  newD : ∀ k, k < loc.length → kD ≤ k → D.next ≤ ids k
  oldD : ∀ k, k < loc.length → k < kD → ids k < D.next
  kle : kD ≤ loc.length

theorem FrD.start {B0 B : Hp} {cl : Bool} {kB : Nat} {loc : List (List Value)} {ids : Nat → Nat} {H : Hp} (fr : Fr B0 B cl kB loc ids H) : FrD B0 B H loc.length cl kB loc ids H :=
  ⟨fr, Ext.refl H, fun k h1 h2 => by omega, fun k h1 _ => (fr.here k loc[k] (List.getElem?_eq_getElem h1)).2.1, Nat.le_refl _⟩
theorem FrD.alloc {B0 B D : Hp} {kD : Nat} {cl : Bool} {kB : Nat} {loc : List (List Value)} {ids : Nat → Nat} {H : Hp} (f : FrD B0 B D kD cl kB loc ids H) (cs : List Value) :
    FrD B0 B D kD cl kB (loc ++ [cs]) (fun k => if k = loc.length then H.next else ids k) (H.alloc (.cells .fix cs)) := by
  refine ⟨f.fr.alloc cs, f.extD.alloc _, ?_, ?_, ?_⟩
  · intro k h1 h2
    simp only [List.length_append, List.length_cons, List.length_nil] at h1
    by_cases e : k = loc.length
    · subst e; simp only [if_true]; exact f.extD.next
    · simp only [if_neg e]; exact f.newD k (by omega) h2
  · intro k h1 h2
    have := f.kle
    simp only [if_neg (show ¬ k = loc.length by omega)]
    exact f.oldD k (by omega) h2
  · have := f.kle
    simp; omega
theorem FrD.store {B0 B D : Hp} {kD : Nat} {cl : Bool} {kB : Nat} {loc : List (List Value)} {ids : Nat → Nat} {H : Hp} (f : FrD B0 B D kD cl kB loc ids H) {k : Nat} {cs cs' : List Value} (hk : loc[k]? = some cs) (hD : kD ≤ k) :
    FrD B0 B D kD (match Nat.ble kB k with | true => cl | false => false) kB (loc.set k cs') ids (H.put (ids k) (.cells .fix cs')) := by
  have hlt := (List.getElem?_eq_some_iff.1 hk).1
  refine ⟨f.fr.store hk, f.extD.put _ (f.newD k hlt hD), ?_, ?_, ?_⟩
  · intro j h1; rw [List.length_set] at h1; exact f.newD j h1
  · intro j h1; rw [List.length_set] at h1; exact f.oldD j h1
  · rw [List.length_set]; exact f.kle
theorem FrD.call {B0 B D : Hp} {kD : Nat} {cl : Bool} {kB : Nat} {loc : List (List Value)} {ids : Nat → Nat} {H H' : Hp} (f : FrD B0 B D kD cl kB loc ids H) (e : Ext H H') : FrD B0 H' D kD true loc.length loc ids H' :=
  ⟨f.fr.upd (f.fr.updExt e), f.extD.trans e, f.newD, f.oldD, f.kle⟩

/-- The rest of a region, in its row's order. -/
def VD (P : Program) (n : NN) (B0 B D : Hp) (kD : Nat) (a : Array Oper) (fl : Bool) (m i : Nat) (k : KK) (Q : Ex → SS → Prop) (x : VS) : Prop :=
  ∀ ids H s0, s0.H = D → FrD B0 B D kD x.cl x.kB x.loc ids H → JD P a fl s0 m i (fun s' => (fl = true → Ext s0.H s'.H) ∧ JK P k Q s') (x.ss ids n H)

/-- May an operation be run at any time? -/
def readV (P : Program) (l : VEnv) : Op → Option (Option SV)
  | .load _ a => some (evV P l a)
  | .slice _ x _ _ _ => some (evV P l x)
  | .convert _ _ x => some (evV P l x)
  | .call c => match c.args.toList with
    | x :: _ => some (evV P l x)
    | [] => none
  | _ => none
def sideR (kD : Nat) : Option (Option SV) → Bool
  | none => true
  | some (some (.p k _)) => Nat.blt k kD
  | some (some (.fn ..)) => true
  | some (some (.v v)) => match blkOf (some v) with
    | none => true
    | some _ => false
  | some none => false
def sideV (P : Program) (a : Array Oper) (fl : Bool) (kD : Nat) (i : Nat) (l : VEnv) (o : Oper) : Bool :=
  match fl with
  | false => true
  | true => match floating P a (masks a.toList []) i with
    | false => true
    | true => sideR kD (readV P l o.op)

theorem sideV_ok {P : Program} {a : Array Oper} {fl : Bool} {n : NN} {i kD : Nat} {x : VS} {o : Oper} {B0 B D : Hp} {ids : Nat → Nat} {H : Hp} {s0 : SS} (h0 : s0.H = D) (ho : a[i]? = some o) (f : FrD B0 B D kD x.cl x.kB x.loc ids H)
    (hw : ∀ k off, readV P x.l o.op = some (some (.p k off)) → k < x.loc.length) (h : sideV P a fl kD i x.l o = true) : side P a fl s0.st i (x.ss ids n H).st := by
  intro hfl
  subst hfl
  refine ⟨by show Ext s0.H H; rw [h0]; exact f.extD, fun hf o' ho' b hb => ?_⟩
  rw [ho] at ho'; cases ho'
  unfold sideV at h
  simp only [hf] at h
  have key : ∀ (y : Operand), blkOf (evOf P (x.ss ids n H).st y) = some b → sideR kD (some (evV P x.l y)) = true → (∀ k off, evV P x.l y = some (.p k off) → k < x.loc.length) → b < s0.st.H.next := by
    intro y hy hc hk
    rw [evS_eq] at hy
    cases he : evV P x.l y with
    | none => rw [he] at hc; cases hc
    | some sv =>
      rw [evV_eq P x ids n H he] at hy
      rw [he] at hc
      cases sv with
      | v v =>
        simp only [den] at hy
        simp only [sideR, hy] at hc
        cases hc
      | p k off =>
        simp only [den, blkOf, Option.some.injEq] at hy
        simp only [sideR] at hc
        rw [Nat.blt_eq] at hc
        subst hy
        show ids k < s0.H.next
        rw [h0]
        exact f.oldD k (hk k off he) hc
      | fn g c => simp only [den, blkOf] at hy; cases hy
  cases hop : o.op
  all_goals rw [hop] at h hb hw
  case load t y => exact key y hb h (fun k off e => hw k off (by simp [readV, e]))
  case slice t y lo hi mx => exact key y hb h (fun k off e => hw k off (by simp [readV, e]))
  case convert s t y => exact key y hb h (fun k off e => hw k off (by simp [readV, e]))
  case call c =>
    simp only [readBlk] at hb
    simp only [readV] at h hw
    cases hl : c.args.toList with
    | nil => rw [hl] at hb; cases hb
    | cons y r =>
      rw [hl] at hb h hw
      exact key y hb h (fun k off e => hw k off (by simp [e]))
  all_goals simp [readBlk] at hb
end Go.Det

set_option linter.unusedSimpArgs false
set_option linter.unusedVariables false
namespace Go.Det
open Go Go.RowKit

inductive DOut where
  | done (x : VS)
  | hard (m i : Nat) (x : VS)
  | cmp (m i : Nat) (x : VS)
  | call (f : FuncId) (args : List SV) (d : Option Tmp) (m i : Nat) (x : VS)
  | stuck

def wfV (P : Program) (x : VS) (o : Oper) : Bool :=
  match readV P x.l o.op with
  | some (some (.p k _)) => Nat.blt k x.loc.length
  | _ => true

def dSym (P : Program) (n : NN) (a : Array Oper) (fl : Bool) (kD : Nat) : Nat → Nat → VS → DOut
  | 0, _, x => .done x
  | m + 1, i, x =>
    match a[i]? with
    | none => .stuck
    | some o =>
      match sideV P a fl kD i x.l o, wfV P x o with
      | true, true =>
        match gdV a x.l o with
        | none => .stuck
        | some false => match putV x n o.dst (.v undef) with
          | some x' => dSym P n a fl kD m (i + 1) x'
          | none => .stuck
        | some true =>
          match opV P x o with
          | .hard => .hard m i x
          | .cmp => .cmp m i x
          | .stuck => .stuck
          | .val v => match notDefer o.op with
            | true => match putV x n o.dst v with
              | some x' => dSym P n a fl kD m (i + 1) x'
              | none => .stuck
            | false => .stuck
          | .new cs => match notDefer o.op, x with
            | true, ⟨l, loc, cl, kB⟩ => match putV ⟨l, loc ++ [cs], cl, kB⟩ n o.dst (.p loc.length 0) with
              | some x' => dSym P n a fl kD m (i + 1) x'
              | none => .stuck
            | false, _ => .stuck
          | .upd j cs => match notDefer o.op, Nat.ble kD j, x with
            | true, true, ⟨l, loc, cl, kB⟩ => match putV ⟨l, loc.set j cs, (match Nat.ble kB j with | true => cl | false => false), kB⟩ n o.dst (.v undef) with
              | some x' => dSym P n a fl kD m (i + 1) x'
              | none => .stuck
            | _, _, _ => .stuck
          | .enter f args => match notDefer o.op with
            | true => match putV x n o.dst (.v undef) with
              | some _ => .call f args o.dst m i x
              | none => .stuck
            | false => .stuck
      | _, _ => .hard m i x

section rules
variable {P : Program} {Q : Ex → SS → Prop} {n : NN} {B0 B D : Hp} {kD : Nat} {k : KK} {a : Array Oper} {fl : Bool}

def DOut.ok (P : Program) (n : NN) (B0 B D : Hp) (kD : Nat) (a : Array Oper) (fl : Bool) (k : KK) (Q : Ex → SS → Prop) : DOut → Prop
  | .done x => VJ P n B0 B k Q x
  | .hard m i x => VD P n B0 B D kD a fl (m + 1) i k Q x
  | .cmp m i x => VD P n B0 B D kD a fl (m + 1) i k Q x
  | .call f args d m i x => ∀ ids H s0, s0.H = D → FrD B0 B D kD x.cl x.kB x.loc ids H → SCall P f (args.map (den ids)) H fun
      | .ret v, H' => ∃ s', putS (x.ss ids n H) d v H' = some s' ∧ JD P a fl s0 m (i + 1) (fun s' => (fl = true → Ext s0.H s'.H) ∧ JK P k Q s') s'
      | .panic _, _ => False
  | .stuck => False

theorem wfV_ok {x : VS} {o : Oper} (h : wfV P x o = true) : ∀ j off, readV P x.l o.op = some (some (.p j off)) → j < x.loc.length := by
  intro j off e
  unfold wfV at h
  rw [e] at h
  rw [Nat.blt_eq] at h
  exact h

theorem dSym_ok : ∀ (m i : Nat) {x : VS}, (dSym P n a fl kD m i x).ok P n B0 B D kD a fl k Q → VD P n B0 B D kD a fl m i k Q x
  | 0, i, x, h => fun ids H s0 h0 f => JD.nil ⟨fun _ => by show Ext s0.H H; rw [h0]; exact f.extD, h ids H f.fr⟩
  | m + 1, i, x, h => by
    unfold dSym at h
    split at h
    · exact h.elim
    · rename_i o ho
      split at h
      · rename_i hsd hwf
        split at h
        · exact h.elim
        · rename_i hg
          split at h
          · rename_i x' hp
            intro ids H s0 h0 f
            obtain ⟨p1, p2, p3, p4⟩ := putV_eq ids H H hp
            refine JD.val (s' := x'.ss ids n H) (by unfold doOp; simp only [ho, gdV_eq ids n H hg]; rw [show (x.ss ids n H).H = H from rfl, show (undef : Value) = den ids (.v undef) from rfl, p1]) (sideV_ok h0 ho f (wfV_ok hwf) hsd) (dSym_ok m (i + 1) h ids H s0 h0 ?_)
            rw [p2, p3, p4]; exact f
          · exact h.elim
        · rename_i hg
          split at h
          · exact h
          · exact h
          · exact h.elim
          · rename_i v he
            split at h
            · rename_i hd
              split at h
              · rename_i x' hp
                intro ids H s0 h0 f
                obtain ⟨p1, p2, p3, p4⟩ := putV_eq ids H H hp
                refine JD.val (s' := x'.ss ids n H) ?_ (sideV_ok h0 ho f (wfV_ok hwf) hsd) (dSym_ok m (i + 1) h ids H s0 h0 (by rw [p2, p3, p4]; exact f))
                unfold doOp
                simp only [ho, gdV_eq ids n H hg, hd]
                rw [show (x.ss ids n H).H = H from rfl, opV_val (n := n) he f.fr]
                simp only; rw [p1]
              · exact h.elim
            · exact h.elim
          · rename_i cs he
            split at h
            · rename_i hd
              rename_i l loc cl kB
              split at h
              · rename_i x' hp
                intro ids H s0 h0 f
                obtain ⟨e1, e2⟩ := opV_new (n := n) (H := H) (ids := ids) he
                have hden : denE (fun k => if k = loc.length then H.next else ids k) l = denE ids l := denE_apart (k := loc.length) (fun j hj => by simp [hj]) e2
                obtain ⟨p1, p2, p3, p4⟩ := putV_eq (fun k => if k = loc.length then H.next else ids k) (H.alloc (.cells .fix cs)) (H.alloc (.cells .fix cs)) hp
                refine JD.val (s' := x'.ss (fun k => if k = loc.length then H.next else ids k) n (H.alloc (.cells .fix cs))) ?_ (sideV_ok h0 ho f (wfV_ok hwf) hsd) (dSym_ok m (i + 1) h _ _ s0 h0 (by rw [p2, p3, p4]; exact f.alloc cs))
                unfold doOp
                have hg' := gdV_eq ids n H hg
                simp only [ho, hg', hd]
                rw [show (VS.ss ⟨l, loc, cl, kB⟩ ids n H).H = H from rfl, e1]
                simp only [newD]
                have p1' : putS (VS.ss ⟨l, loc, cl, kB⟩ ids n H) o.dst (.pointer (some ⟨H.next, 0, none⟩)) (H.alloc (.cells .fix cs)) = some (x'.ss (fun k => if k = loc.length then H.next else ids k) n (H.alloc (.cells .fix cs))) := by
                  rw [← p1]
                  simp only [VS.ss, hden, den, if_true]
                  cases o.dst <;> rfl
                rw [p1']
              · exact h.elim
            · exact h.elim
          · rename_i j cs he
            split at h
            · rename_i hd hkd
              rename_i l loc cl kB
              split at h
              · rename_i x' hp
                intro ids H s0 h0 f
                obtain ⟨cs0, e0, e1⟩ := opV_upd (n := n) he f.fr
                obtain ⟨p1, p2, p3, p4⟩ := putV_eq ids (H.put (ids j) (.cells .fix cs)) (H.put (ids j) (.cells .fix cs)) hp
                refine JD.val (s' := x'.ss ids n (H.put (ids j) (.cells .fix cs))) ?_ (sideV_ok h0 ho f (wfV_ok hwf) hsd) (dSym_ok m (i + 1) h _ _ s0 h0 (by rw [p2, p3, p4]; exact f.store e0 (Nat.le_of_ble_eq_true hkd)))
                unfold doOp
                have hg' := gdV_eq ids n H hg
                simp only [ho, hg', hd]
                rw [show (VS.ss ⟨l, loc, cl, kB⟩ ids n H).H = H from rfl, e1]
                simp only
                have p1' : putS (VS.ss ⟨l, loc, cl, kB⟩ ids n H) o.dst undef (H.put (ids j) (.cells .fix cs)) = some (x'.ss ids n (H.put (ids j) (.cells .fix cs))) := by
                  rw [← p1]
                  cases o.dst <;> rfl
                rw [p1']
              · exact h.elim
            · exact h.elim
          · rename_i f' args he
            split at h
            · rename_i hd
              split at h
              · rename_i x' hp
                intro ids H s0 h0 f
                obtain ⟨p1, _⟩ := putV_eq ids H H hp
                refine JD.call (f := f') (args := args.map (den ids)) (d := o.dst) ?_ (sideV_ok h0 ho f (wfV_ok hwf) hsd) (h ids H s0 h0 f)
                unfold doOp
                simp only [ho, gdV_eq ids n H hg, hd]
                rw [show (x.ss ids n H).H = H from rfl, opV_enter (n := n) (H := H) (ids := ids) he]
                simp only
                rw [show (undef : Value) = den ids (.v undef) from rfl, p1]
              · exact h.elim
            · exact h.elim
      · exact h

theorem JD.any {s0 s1 s : SS} {m i : Nat} {Q Q' : SS → Prop} (hq : ∀ s, Q s → Q' s) (h : JD P a false s0 m i Q s) : JD P a false s1 m i Q' s := by
  obtain ⟨f, h1, h2, s', h3, h4⟩ := h
  exact ⟨f, h1, fun j a b => ⟨(h2 j a b).1, fun q => by cases q⟩, s', h3, hq _ h4⟩

/-- A region that draws, no reading of which floats. -/
theorem VJ.dr {k' : KK} {x x' : VS} {id m : Nat} (N : Nat) (hs : vSym P n N k x = .draw id a k' x') (hmix : P.follows .mixedOrders = true) (hok : okDraw P a = true) (hfl : flOf P a = false) (hm : a.size = m)
    (h : VD P n B0 B B0 0 a false m 0 k' Q x') : VJ P n B0 B k Q x := by
  refine VJ.sym N hs fun ids H fr => ?_
  refine J.draw hmix hm hok hfl ?_
  have := h ids H { x'.ss ids n H with H := B0 } rfl ⟨fr, fr.ext0, fun j h1 _ => (fr.here j x'.loc[j] (List.getElem?_eq_getElem h1)).2.2, fun j _ h2 => by omega, Nat.zero_le _⟩
  exact JD.any (fun s h => ⟨fun q => (by cases q), h.2⟩) this
/-- A region that draws, some readings of which float. -/
theorem VJ.drF {k' : KK} {x : VS} {id m : Nat} {l : VEnv} {loc : List (List Value)} {cl : Bool} {kB : Nat} (N : Nat) (hs : vSym P n N k x = .draw id a k' ⟨l, loc, cl, kB⟩) (hmix : P.follows .mixedOrders = true) (hok : okDraw P a = true) (hfl : flOf P a = true) (hm : a.size = m)
    (h : ∀ D, Ext B0 D → (cl = true → Ext B D) → VD P n B0 B D loc.length a true m 0 k' Q ⟨l, loc, cl, kB⟩) : VJ P n B0 B k Q x := by
  refine VJ.sym N hs fun ids H fr => ?_
  refine J.draw hmix hm hok hfl ?_
  exact h H fr.ext0 fr.extB ids H _ rfl (FrD.start fr)

theorem VD.sym {m i : Nat} {x : VS} {o : DOut} (hs : dSym P n a fl kD m i x = o) (h : o.ok P n B0 B D kD a fl k Q) : VD P n B0 B D kD a fl m i k Q x := dSym_ok m i (by rw [hs]; exact h)
theorem VD.done {m i : Nat} {x x' : VS} (hs : dSym P n a fl kD m i x = .done x') (h : VJ P n B0 B k Q x') : VD P n B0 B D kD a fl m i k Q x := VD.sym hs h
/-- A call that returns. -/
theorem VD.cl {m m' i i' : Nat} {x : VS} {f : FuncId} {args : List SV} {d : Option Tmp} {R : Value → Hp → Prop} {l : VEnv} {loc : List (List Value)} {cl : Bool} {kB : Nat} (hs : dSym P n a fl kD m i x = .call f args d m' i' ⟨l, loc, cl, kB⟩)
    (hc : ∀ ids H, FrD B0 B D kD cl kB loc ids H → SCall P f (args.map (den ids)) H (Ret fun v H' => Ext H H' ∧ R v H'))
    (hk : ∀ v H', Ext B0 H' → (cl = true → Ext B H') → R v H' → ∃ x'', putV ⟨l, loc, true, loc.length⟩ n d (.v v) = some x'' ∧ VD P n B0 H' D kD a fl m' (i' + 1) k Q x'') : VD P n B0 B D kD a fl m i k Q x := by
  refine VD.sym hs fun ids H s0 h0 f => ?_
  refine (hc ids H f).mono fun e H' ⟨v, h1, h2, h3⟩ => ?_
  subst h1
  obtain ⟨y, hp, h⟩ := hk v H' (f.fr.ext0.trans h2) (fun h => (f.fr.extB h).trans h2) h3
  obtain ⟨p1, p2, p3, p4⟩ := putV_eq ids H H' hp
  refine ⟨y.ss ids n H', ?_, h ids H' s0 h0 (by rw [p2, p3, p4]; exact f.call h2)⟩
  rw [← p1]; cases d <;> rfl
/-- An operation that gives a value and leaves memory as it is. -/
theorem VD.hd {m m' i i' : Nat} {x x' x'' : VS} {o : Oper} {v : Value} (hs : dSym P n a fl kD m i x = .hard m' i' x') (ho : a[i']? = some o) (hg : gdV a x'.l o = some true) (hd : notDefer o.op = true)
    (hsd : ∀ ids H (s0 : SS), s0.H = D → FrD B0 B D kD x'.cl x'.kB x'.loc ids H → side P a fl s0.st i' (x'.ss ids n H).st)
    (he : ∀ ids H, FrD B0 B D kD x'.cl x'.kB x'.loc ids H → opD P H (evS P (x'.ss ids n H)) o = some (.val v H)) (hp : putV x' n o.dst (.v v) = some x'') (h : VD P n B0 B D kD a fl m' (i' + 1) k Q x'') : VD P n B0 B D kD a fl m i k Q x := by
  refine VD.sym hs fun ids H s0 h0 f => ?_
  obtain ⟨p1, p2, p3, p4⟩ := putV_eq ids H H hp
  refine JD.val (s' := x''.ss ids n H) ?_ (hsd ids H s0 h0 f) (h ids H s0 h0 (by rw [p2, p3, p4]; exact f))
  unfold doOp
  simp only [ho, gdV_eq ids n H hg, hd]
  rw [show (x'.ss ids n H).H = H from rfl, he ids H f]
  simp only; rw [show v = den ids (.v v) from rfl, p1]
theorem side_no {s0 s : SS} {i : Nat} : side P a false s0.st i s.st := fun h => by cases h
end rules
end Go.Det

set_option linter.unusedSimpArgs false
set_option linter.unusedVariables false
namespace Go.Det
open Go Go.RowKit

/-! ## 27. Functions that write to what they were handed -/
def noHp : Hp := ⟨.nil, 0, 0⟩
theorem noHp_ext (H : Hp) : Ext noHp H := ⟨Nat.zero_le _, fun b h => absurd h (Nat.not_lt_zero _)⟩

section rules
variable {P : Program} {Q : Ex → SS → Prop} {n : NN} {B0 B : Hp} {k k' : KK} {x x' x'' : VS}

theorem SCall.w {f : FuncId} {fn : Func} {c : Code} {args : List Value} {H : Hp} {Q : En → Hp → Prop} (hf : P.funcs[f]? = some fn) (hb : fn.body = some c) {m : Nat} (hn : fn.ntmps = m) {g : Nat} (hg : args.length = g) (hl : Nat.ble g m = true)
    {res : List ResultVar} (hr : fn.results.toList = res) {l : VEnv} (he : ∀ ids, denE ids l = envOf args) (h : VJ P ⟨m, true⟩ noHp H [.code c] (bodyS P res Q) ⟨l, [], true, 0⟩) : SCall P f args H Q :=
  SCall.body hf hb hn (by rw [hg]; exact Nat.le_of_ble_eq_true hl) hr (by
    have := h (fun _ => 0) H ⟨noHp_ext H, Nat.le_refl _, fun _ => Ext.refl H, fun k cs h => by simp at h, fun k h => by simp at h, fun j k h => by simp at h⟩
    simp only [VS.ss, he] at this
    exact this)

/-- A call that turns variables of the function's own. -/
theorem VJ.cg (N : Nat) {f : FuncId} {args : List SV} {d : Option Tmp} {R : Value → Hp → Prop} {l : VEnv} {loc loc' : List (List Value)} {cl : Bool} {kB : Nat} (hs : vSym P n N k x = .call f args d k' ⟨l, loc, cl, kB⟩)
    (hc : ∀ ids H, Fr B0 B cl kB loc ids H → SCall P f (args.map (den ids)) H (Ret fun v H' => Fr B0 H' true loc'.length loc' ids H' ∧ R v H'))
    (hk : ∀ v H', Ext B0 H' → R v H' → ∃ x'', putV ⟨l, loc', true, loc'.length⟩ n d (.v v) = some x'' ∧ VJ P n B0 H' k' Q x'') : VJ P n B0 B k Q x := by
  refine VJ.sym N hs fun ids H fr => ?_
  refine (hc ids H fr).mono fun e H' ⟨v, h1, h2, h3⟩ => ?_
  subst h1
  obtain ⟨y, hp, h⟩ := hk v H' h2.ext0 h3
  obtain ⟨p1, p2, p3, p4⟩ := putV_eq ids H H' hp
  refine ⟨y.ss ids n H', ?_, h ids H' (by rw [p2, p3, p4]; exact h2)⟩
  rw [← p1]; cases d <;> rfl
end rules
end Go.Det

set_option linter.unusedSimpArgs false
set_option linter.unusedVariables false
namespace Go.Det
open Go Go.RowKit

/-! ## 28. Appending -/
theorem Sl.src {H : Hp} {sz : Nat} {a : Option Addr} {len cap : Nat} {cs : List Value} (h : Sl H sz a len cap cs) : srcD H sz (.slice a len cap) len = some cs := by
  obtain ⟨h1, h2⟩ := h
  rcases h2 with ⟨rfl, rfl, rfl⟩ | ⟨b, o, rfl, rfl | ⟨m, all, g1, g2, g3, g4⟩⟩
  · have : cs = [] := List.length_eq_zero_iff.1 (by simpa using h1)
    subst this; rfl
  · have : cs = [] := List.length_eq_zero_iff.1 (by simpa using h1)
    subst this; simp [srcD]
  · unfold srcD
    simp only
    by_cases h0 : len = 0
    · rw [if_pos h0]
      have : cs = [] := List.length_eq_zero_iff.1 (by simp [h1, h0])
      rw [this]
    · rw [if_neg h0]
      simp only [g1]
      rw [if_pos ⟨g3, Nat.le_refl _⟩, g4]

/-- The facts of a type of elements that an append asks for. -/
structure Elem (P : Program) (c : Call) (t e : TypeId) (sz by_ : Nat) : Prop where
  a0 : c.argTypes[0]? = some t
  a1 : ∃ u d, c.argTypes[1]? = some u ∧ P.underlying u = some d ∧ ∀ k, d ≠ .int k
  ut : P.underlying t = some (.slice e)
  size : sizeD P e = some sz
  byt : bytesD P e = some by_
  zero : ∃ z, zeroD P e = some z ∧ z.cells.size = sz
  pos : 0 < sz

/-- To a slice of nothing. -/
theorem append_nil {P : Program} {H : Hp} {c : Call} {t e : TypeId} {sz by_ m : Nat} {x : Value} {new : List Value} (E : Elem P c t e sz by_) (hl : lenD x = some m) (hs : srcD H sz x m = some new) (h0 : 0 < m) (hb : m * by_ ≤ 140737488355328) (hm : m ≤ 140737488355328) :
    appendD P H c.argTypes (.slice none 0 0) x = some (.slice (some ⟨H.next, 0, none⟩) m LOOSE, H.alloc (.cells (.more sz) new)) := by
  obtain ⟨u, d, hu, hd, hk⟩ := E.a1
  obtain ⟨z, hz, hzs⟩ := E.zero
  unfold appendD
  simp only [E.a0, hu, E.ut, hd]
  have hp := E.pos
  cases d <;> first | exact absurd rfl (hk _) | skip
  all_goals
    simp only [E.size, E.byt, hz, hl]
    rw [if_pos ⟨hp, hzs⟩]
    simp only [hs]
    rw [if_neg (by omega), if_pos ⟨hb, hm⟩]

/-- To a row of a known capacity that is too small. -/
theorem append_fix {P : Program} {H : Hp} {c : Call} {t e : TypeId} {sz by_ m b o len cap : Nat} {x : Value} {new cs : List Value} {mode : Mode} (E : Elem P c t e sz by_) (hl : lenD x = some m) (hs : srcD H sz x m = some new) (h0 : 0 < m) (hg : H.get b = some (.cells mode cs)) (hcap : cap < LOOSE) (hgrow : cap < len + m)
    (hb : (len + m) * by_ ≤ 140737488355328) (hm : len + m ≤ 140737488355328) (hlen : o + len * sz ≤ cs.length) :
    appendD P H c.argTypes (.slice (some ⟨b, o, none⟩) len cap) x = some (.slice (some ⟨H.next, 0, none⟩) (len + m) LOOSE, H.alloc (.cells (.more sz) ((cs.drop o).take (len * sz) ++ new))) := by
  obtain ⟨u, d, hu, hd, hk⟩ := E.a1
  obtain ⟨z, hz, hzs⟩ := E.zero
  unfold appendD
  simp only [E.a0, hu, E.ut, hd]
  have hp := E.pos
  cases d <;> first | exact absurd rfl (hk _) | skip
  all_goals
    simp only [E.size, E.byt, hz, hl]
    rw [if_pos ⟨hp, hzs⟩]
    simp only [hs, hg]
    rw [if_neg (by omega), if_neg (by omega), if_pos ⟨hb, hm⟩, if_pos hcap, if_pos hlen]

/-- To the end of a row of the call's own, of a capacity that is not known. -/
theorem append_more {P : Program} {H : Hp} {c : Call} {t e : TypeId} {sz by_ m b o len : Nat} {x : Value} {new cs : List Value} (E : Elem P c t e sz by_) (hl : lenD x = some m) (hs : srcD H sz x m = some new) (h0 : 0 < m) (hg : H.get b = some (.cells (.more sz) cs)) (hpos : 0 < len)
    (hb : (len + m) * by_ ≤ 140737488355328) (hm : len + m ≤ 140737488355328) (hlen : o + len * sz = cs.length) (h1 : (new.all fun v => v.oneCell') = true) :
    appendD P H c.argTypes (.slice (some ⟨b, o, none⟩) len LOOSE) x = some (.slice (some ⟨H.next, 0, none⟩) (len + m) LOOSE, (H.kill b).alloc (.cells (.more sz) (cs.drop o ++ new))) := by
  obtain ⟨u, d, hu, hd, hk⟩ := E.a1
  obtain ⟨z, hz, hzs⟩ := E.zero
  unfold appendD
  simp only [E.a0, hu, E.ut, hd]
  have hp := E.pos
  cases d <;> first | exact absurd rfl (hk _) | skip
  all_goals
    simp only [E.size, E.byt, hz, hl]
    rw [if_pos ⟨hp, hzs⟩]
    simp only [hs, hg]
    have htk : (cs.drop o).take (len * sz) = cs.drop o := List.take_of_length_le (by rw [List.length_drop]; omega)
    rw [if_neg (by omega), if_neg (by simp), if_pos ⟨hb, hm⟩, if_neg (by simp), if_pos ⟨trivial, trivial, Nat.le_of_eq hlen, h1⟩, htk]
end Go.Det

set_option linter.unusedSimpArgs false
set_option linter.unusedVariables false
namespace Go.Det
open Go Go.RowKit
section ops
variable {P : Program} {H : Hp} {ev : Ev} {o : Oper}
theorem opD_build {t : TypeId} {parts : Array (Nat × Operand)} {l : List (Nat × Value)} {v : Value} (ho : o.op = .build t parts) (hl : partsD ev parts.toList = some l) (h : buildD P t l = some v) : opD P H ev o = some (.val v H) := by
  unfold opD; simp only [ho, hl, h]
theorem opD_buildSlice {t : TypeId} {n : Nat} {parts : Array (Nat × Operand)} {l : List (Nat × Value)} {v : Value} {H' : Hp} (ho : o.op = .buildSlice t n parts) (hl : partsD ev parts.toList = some l) (h : buildSliceD P H t n l = some (v, H')) : opD P H ev o = some (.val v H') := by
  unfold opD; simp only [ho, hl, h]
end ops
end Go.Det

set_option linter.unusedSimpArgs false
set_option linter.unusedVariables false
namespace Go.Det
open Go Go.RowKit
section rules
variable {P : Program} {Q : Ex → SS → Prop} {n : NN} {B0 B D : Hp} {kD : Nat} {k : KK} {a : Array Oper} {fl : Bool}

/-- A comparison reads no memory. -/
theorem side_bin {i : Nat} {o : Oper} {s : SS} {x : VS} {ids : Nat → Nat} {H : Hp} (ho : a[i]? = some o) (hr : cls P o.op = some .pure) (h0 : s.H = D) (f : FrD B0 B D kD x.cl x.kB x.loc ids H) : side P a fl s.st i (x.ss ids n H).st := by
  intro hfl
  refine ⟨by show Ext s.H H; rw [h0]; exact f.extD, fun hf => ?_⟩
  unfold floating at hf
  rw [ho] at hf
  simp [isRead, hr] at hf

/-- A comparison of plain values: both ways. -/
theorem VD.cm {m m' i i' : Nat} {x x' x1 x2 : VS} {o : Oper} {b : Bool} {H0 : Hp} (hs : dSym P n a fl kD m i x = .cmp m' i' x') (ho : a[i']? = some o) (hg : gdV a x'.l o = some true) (hd : notDefer o.op = true) (hp : o.op.operands.toList.all (isPlain P x'.l) = true) (hc : cls P o.op = some .pure)
    (he : opD P ⟨.nil, 0, 0⟩ (evPlain P x'.l) o = some (.val (.bool b) H0)) (hp1 : putV x' n o.dst (.v (.bool true)) = some x1) (hp2 : putV x' n o.dst (.v (.bool false)) = some x2)
    (h1 : b = true → VD P n B0 B D kD a fl m' (i' + 1) k Q x1) (h2 : b = false → VD P n B0 B D kD a fl m' (i' + 1) k Q x2) : VD P n B0 B D kD a fl m i k Q x := by
  refine VD.sym hs fun ids H s0 h0 f => ?_
  have hgen : genV P x' o = .val (.v (.bool b)) := by unfold genV; simp only [hp, hc, he]
  have e1 := genV_ok (ids := ids) (n := n) (H := H) hgen
  cases b with
  | true =>
    obtain ⟨p1, p2, p3, p4⟩ := putV_eq ids H H hp1
    refine JD.val (s' := x1.ss ids n H) ?_ (side_bin ho hc h0 f) (h1 rfl ids H s0 h0 (by rw [p2, p3, p4]; exact f))
    unfold doOp
    simp only [ho, gdV_eq ids n H hg, hd]
    rw [show (x'.ss ids n H).H = H from rfl, e1]
    simp only; rw [p1]
  | false =>
    obtain ⟨p1, p2, p3, p4⟩ := putV_eq ids H H hp2
    refine JD.val (s' := x2.ss ids n H) ?_ (side_bin ho hc h0 f) (h2 rfl ids H s0 h0 (by rw [p2, p3, p4]; exact f))
    unfold doOp
    simp only [ho, gdV_eq ids n H hg, hd]
    rw [show (x'.ss ids n H).H = H from rfl, e1]
    simp only; rw [p1]
end rules
end Go.Det

set_option linter.unusedSimpArgs false
set_option linter.unusedVariables false
namespace Go.Det
open Go Go.RowKit

/-! ## 30. What is known of memory; slices of the function's own -/
/-- What lies from a block on in the one lies in the other. -/
structure Abv (n : Nat) (H H' : Hp) : Prop where
  next : H.next ≤ H'.next
  same : ∀ b m cs, n ≤ b → b < H.next → H.get b = some (.cells m cs) → H'.get b = some (.cells m cs)
theorem Abv.refl (n : Nat) (H : Hp) : Abv n H H := ⟨Nat.le_refl _, fun _ _ _ _ _ h => h⟩
theorem Abv.trans {n : Nat} {A B C : Hp} (h : Abv n A B) (k : Abv n B C) : Abv n A C :=
  ⟨Nat.le_trans h.next k.next, fun b m cs h1 h2 h3 => k.same b m cs h1 (Nat.lt_of_lt_of_le h2 h.next) (h.same b m cs h1 h2 h3)⟩
theorem Abv.le {n m : Nat} {A B : Hp} (h : Abv n A B) (hm : n ≤ m) : Abv m A B := ⟨h.next, fun b o cs h1 h2 h3 => h.same b o cs (Nat.le_trans hm h1) h2 h3⟩
theorem Ext.abv {A B : Hp} (h : Ext A B) : Abv 0 A B := ⟨h.next, fun b m cs _ h2 h3 => by rw [h.same b h2]; exact h3⟩

structure OwnE where
  a : Option Addr
  cap : Nat
  sz : Nat
  cs : List Value
def OwnE.blk (e : OwnE) : Option Nat := e.a.map (·.block)
def OwnE.ok (lo : Nat) (H : Hp) (e : OwnE) : Prop :=
  (e.a = none ∧ e.cap = 0 ∧ e.cs = []) ∨
  ∃ b, e.a = some ⟨b, 0, none⟩ ∧ lo ≤ b ∧ b < H.next ∧ ((e.cap = LOOSE ∧ e.cs ≠ [] ∧ H.get b = some (.cells (.more e.sz) e.cs)) ∨ (e.cap < LOOSE ∧ e.cap * e.sz = e.cs.length ∧ H.get b = some (.cells .fix e.cs)))
theorem OwnE.ok.blk_lt {lo : Nat} {H : Hp} {e : OwnE} (h : e.ok lo H) {b : Nat} (hb : e.blk = some b) : lo ≤ b ∧ b < H.next := by
  rcases h with ⟨h, _, _⟩ | ⟨c, h, h1, h2, _⟩
  · simp [OwnE.blk, h] at hb
  · simp [OwnE.blk, h] at hb; subst hb; exact ⟨h1, h2⟩
theorem OwnE.ok.keep {lo lo' : Nat} {H H' : Hp} {e : OwnE} (h : e.ok lo H) (hl : lo' ≤ lo) (hn : H.next ≤ H'.next) (hs : ∀ b x, e.blk = some b → H.get b = some x → H'.get b = some x) : e.ok lo' H' := by
  rcases h with h | ⟨c, h, h1, h2, h3⟩
  · exact .inl h
  · have hb : e.blk = some c := by simp [OwnE.blk, h]
    refine .inr ⟨c, h, by omega, by omega, ?_⟩
    rcases h3 with ⟨g1, g2, g3⟩ | ⟨g1, g2, g3⟩
    · exact .inl ⟨g1, g2, hs _ _ hb g3⟩
    · exact .inr ⟨g1, g2, hs _ _ hb g3⟩

structure WF (B0 B : Hp) (own : List OwnE) (loc : List (List Value)) (ids : Nat → Nat) (H : Hp) : Prop where
  ext0 : Ext B0 H
  nextB : B.next ≤ H.next
  trim : ∀ b x, B.get b = some x → b < B.next
  sub : ∀ b x, B.get b = some x → H.get b = some x
  here : ∀ k cs, loc[k]? = some cs → H.get (ids k) = some (.cells .fix cs) ∧ ids k < H.next ∧ B0.next ≤ ids k
  apart : ∀ k, k < loc.length → B.get (ids k) = none
  inj : ∀ j k, j < loc.length → k < loc.length → ids j = ids k → j = k
  mine : ∀ (j : Nat) (e : OwnE), own[j]? = some e → e.ok B0.next H
  mineB : ∀ (j : Nat) (e : OwnE) (b : Nat), own[j]? = some e → e.blk = some b → B.get b = none ∧ ∀ k, k < loc.length → ids k ≠ b
  mineI : ∀ (i j : Nat) (e f : OwnE) (b : Nat), own[i]? = some e → own[j]? = some f → e.blk = some b → f.blk = some b → i = j

section frames
variable {B0 B : Hp} {own : List OwnE} {loc : List (List Value)} {ids : Nat → Nat} {H : Hp}
theorem WF.abv (fr : WF B0 B own loc ids H) : Abv 0 B H := ⟨fr.nextB, fun b m cs _ _ h => fr.sub b _ h⟩
theorem WF.fr (fr : WF B0 B own loc ids H) (cl : Bool) (hcl : cl = true → False) : Fr B0 noHp cl 0 loc ids H :=
  ⟨fr.ext0, Nat.zero_le _, fun h => (hcl h).elim, fr.here, fun _ _ _ => Nat.zero_le _, fr.inj⟩
theorem WF.fr0 (fr : WF B0 B own loc ids H) (cl : Bool) (kB : Nat) : Fr B0 noHp cl kB loc ids H :=
  ⟨fr.ext0, Nat.zero_le _, fun _ => noHp_ext H, fr.here, fun _ _ _ => Nat.zero_le _, fr.inj⟩

theorem lt_of_get {α : Type} {l : List α} {k : Nat} {x : α} (h : l[k]? = some x) : k < l.length := (List.getElem?_eq_some_iff.1 h).1
theorem WF.ids_lt (fr : WF B0 B own loc ids H) {k : Nat} (h : k < loc.length) : ids k < H.next := (fr.here k loc[k] (List.getElem?_eq_getElem h)).2.1

theorem WF.alloc (fr : WF B0 B own loc ids H) (cs : List Value) : WF B0 B own (loc ++ [cs]) (fun k => if k = loc.length then H.next else ids k) (H.alloc (.cells .fix cs)) := by
  have hB : B.get H.next = none := by
    cases h : B.get H.next with
    | none => rfl
    | some x => have := fr.trim _ _ h; have := fr.nextB; omega
  refine ⟨fr.ext0.alloc _, by rw [Hp.next_alloc]; have := fr.nextB; omega, fr.trim, ?_, ?_, ?_, ?_, ?_, ?_, fr.mineI⟩
  · intro b x h
    rw [Hp.get_alloc, if_neg (by have := fr.trim b x h; have := fr.nextB; omega)]; exact fr.sub b x h
  · intro k c h
    by_cases hk : k = loc.length
    · subst hk
      simp only [List.getElem?_append_right (Nat.le_refl _), Nat.sub_self, List.getElem?_cons_zero, Option.some.injEq] at h
      subst h
      simp only [if_true]
      rw [Hp.get_alloc, if_pos rfl]
      exact ⟨rfl, by rw [Hp.next_alloc]; omega, fr.ext0.next⟩
    · have hlt : k < loc.length := by
        have := lt_of_get h
        simp at this; omega
      rw [List.getElem?_append_left hlt] at h
      obtain ⟨h1, h2, h3⟩ := fr.here k c h
      simp only [if_neg hk]
      rw [Hp.get_alloc, if_neg (by omega)]
      exact ⟨h1, by rw [Hp.next_alloc]; omega, h3⟩
  · intro k hk
    simp only [List.length_append, List.length_cons, List.length_nil] at hk
    by_cases e : k = loc.length
    · simp only [if_pos e]; exact hB
    · simp only [if_neg e]; exact fr.apart k (by omega)
  · intro j k hj hk e
    simp only [List.length_append, List.length_cons, List.length_nil] at hj hk
    by_cases e1 : j = loc.length
    · by_cases e2 : k = loc.length
      · omega
      · simp only [if_pos e1, if_neg e2] at e
        have := fr.ids_lt (k := k) (by omega); omega
    · by_cases e2 : k = loc.length
      · simp only [if_neg e1, if_pos e2] at e
        have := fr.ids_lt (k := j) (by omega); omega
      · simp only [if_neg e1, if_neg e2] at e
        exact fr.inj j k (by omega) (by omega) e
  · intro j e h
    have hk := fr.mine j e h
    exact hk.keep (Nat.le_refl _) (Nat.le_succ _) fun b x hb hx => by
      have := (hk.blk_lt hb).2
      rw [Hp.get_alloc, if_neg (by omega)]; exact hx
  · intro j e b h hb
    obtain ⟨h1, h2⟩ := fr.mineB j e b h hb
    refine ⟨h1, fun k hk => ?_⟩
    simp only [List.length_append, List.length_cons, List.length_nil] at hk
    have := ((fr.mine j e h).blk_lt hb).2
    by_cases e1 : k = loc.length
    · simp only [if_pos e1]; omega
    · simp only [if_neg e1]; exact h2 k (by omega)

theorem WF.store (fr : WF B0 B own loc ids H) {k : Nat} {cs cs' : List Value} (hk : loc[k]? = some cs) : WF B0 B own (loc.set k cs') ids (H.put (ids k) (.cells .fix cs')) := by
  obtain ⟨h1, h2, h3⟩ := fr.here k cs hk
  have hlt := lt_of_get hk
  refine ⟨fr.ext0.put _ h3, fr.nextB, fr.trim, ?_, ?_, ?_, ?_, ?_, ?_, fr.mineI⟩
  · intro b x h
    rw [Hp.get_put, if_neg (fun q => by have := fr.apart k hlt; rw [← q, h] at this; cases this)]; exact fr.sub b x h
  · intro j c h
    rw [Hp.get_put]
    by_cases e : j = k
    · subst e
      rw [List.getElem?_set_self hlt] at h; cases h
      rw [if_pos rfl]; exact ⟨rfl, h2, h3⟩
    · rw [List.getElem?_set_ne (fun q => e q.symm)] at h
      obtain ⟨g1, g2, g3⟩ := fr.here j c h
      rw [if_neg (fun q => e (fr.inj j k (lt_of_get h) hlt q))]
      exact ⟨g1, g2, g3⟩
  · intro j hj; rw [List.length_set] at hj; exact fr.apart j hj
  · intro i j hi hj; rw [List.length_set] at hi hj; exact fr.inj i j hi hj
  · intro j e h
    have he := fr.mine j e h
    exact he.keep (Nat.le_refl _) (Nat.le_refl _) fun b x hb hx => by
      rw [Hp.get_put, if_neg (fun q => (fr.mineB j e b h hb).2 k hlt q.symm)]; exact hx
  · intro j e b h hb
    obtain ⟨g1, g2⟩ := fr.mineB j e b h hb
    exact ⟨g1, fun i hi => g2 i (by rw [List.length_set] at hi; exact hi)⟩

/-! Heaps without some blocks. -/
def Hp.only (H : Hp) (p : Nat → Bool) : Hp → Prop := fun B => B.next = H.next ∧ ∀ b, B.get b = if b < H.next ∧ p b = true then H.get b else none
def killL : List Nat → Hp → Hp
  | [], H => H
  | b :: l, H => killL l (H.kill b)
theorem killL_next : ∀ (l : List Nat) (H : Hp), (killL l H).next = H.next
  | [], _ => rfl
  | _ :: l, H => (killL_next l _).trans rfl
theorem killL_get : ∀ (l : List Nat) (H : Hp) (c : Nat), (killL l H).get c = if c ∈ l then none else H.get c
  | [], _, _ => by simp [killL]
  | b :: l, H, c => by
    rw [killL, killL_get l _ c, Hp.get_kill]
    by_cases h : c ∈ l
    · simp [h]
    · by_cases e : c = b <;> simp [h, e]
/-- Finitely many blocks lie in a heap. -/
def T.keys {α : Type} : T α → Nat
  | .nil => 0
  | .node _ l r => max 1 (max (2 * T.keys l) (2 * (T.keys r) + 1))
theorem T.get_keys {α : Type} : ∀ (t : T α) (n : Nat), t.keys ≤ n → t.get n = none
  | .nil, _, _ => rfl
  | .node v l r, n, h => by
    simp only [T.keys] at h
    rw [T.get_node, if_neg (by omega)]
    split
    · exact T.get_keys l _ (by omega)
    · exact T.get_keys r _ (by omega)
/-- The heap behind a call, without what is the function's own. -/
def Hp.rest (H : Hp) (l : List Nat) : Hp := killL (l ++ (List.range' H.next H.t.keys)) H
theorem Hp.rest_next (H : Hp) (l : List Nat) : (H.rest l).next = H.next := killL_next _ _
theorem Hp.rest_get (H : Hp) (l : List Nat) (b : Nat) : (H.rest l).get b = if b < H.next ∧ b ∉ l then H.get b else none := by
  rw [Hp.rest, killL_get]
  by_cases h1 : b ∈ l
  · simp [h1]
  · by_cases h2 : b < H.next
    · rw [if_neg (by simp [h1]; omega), if_pos ⟨h2, h1⟩]
    · rw [if_neg (show ¬(b < H.next ∧ b ∉ l) from fun q => h2 q.1)]
      by_cases h3 : b < H.next + H.t.keys
      · rw [if_pos (by simp; omega)]
      · rw [if_neg (by simp [h1]; omega)]
        exact T.get_keys _ _ (by omega)

def blks (own : List OwnE) : List Nat := own.filterMap OwnE.blk
theorem mem_blks {own : List OwnE} {b : Nat} : b ∈ blks own ↔ ∃ (j : Nat) (e : OwnE), own[j]? = some e ∧ e.blk = some b := by
  simp only [blks, List.mem_filterMap]
  constructor
  · rintro ⟨e, h1, h2⟩
    obtain ⟨j, h3⟩ := List.getElem?_of_mem h1
    exact ⟨j, e, h3, h2⟩
  · rintro ⟨j, e, h1, h2⟩
    exact ⟨e, List.mem_of_getElem? h1, h2⟩
def ownBlks (own : List OwnE) (n : Nat) (ids : Nat → Nat) : List Nat := blks own ++ (List.range n).map ids

/-- What is walked through by runes is where it was. -/
def Itv (B B' : Hp) : Prop := ∀ b x, B.get b = some x → B'.get b = some x
/-- Behind a call: what is known of memory. -/
theorem WF.call (fr : WF B0 B own loc ids H) {H' : Hp} (e : Ext H H') : ∃ B', WF B0 B' own loc ids H' ∧ Abv 0 B B' ∧ Abv H.next H' B' ∧ H.next ≤ B'.next ∧ Itv B B' := by
  have key : ∀ b, b ∈ ownBlks own loc.length ids → b < H.next := by
    intro b hb
    simp only [ownBlks, List.mem_append, List.mem_map, List.mem_range, mem_blks] at hb
    rcases hb with ⟨j, f, h1, h2⟩ | ⟨k, h1, rfl⟩
    · exact ((fr.mine j f h1).blk_lt h2).2
    · exact fr.ids_lt h1
  refine ⟨H'.rest (ownBlks own loc.length ids), ⟨fr.ext0.trans e, ?_, ?_, ?_, ?_, ?_, fr.inj, ?_, ?_, fr.mineI⟩, ⟨?_, ?_⟩, ⟨?_, ?_⟩, ?_, ?_⟩
  · rw [Hp.rest_next]; exact Nat.le_refl _
  · intro b x h
    rw [Hp.rest_get] at h; rw [Hp.rest_next]
    split at h
    · rename_i q; exact q.1
    · cases h
  · intro b x h
    rw [Hp.rest_get] at h
    split at h
    · exact h
    · cases h
  · intro k cs h
    obtain ⟨h1, h2, h3⟩ := fr.here k cs h
    exact ⟨by rw [e.same _ h2]; exact h1, Nat.lt_of_lt_of_le h2 e.next, h3⟩
  · intro k hk
    rw [Hp.rest_get, if_neg]
    intro q
    exact q.2 (by simp only [ownBlks, List.mem_append, List.mem_map, List.mem_range]; exact .inr ⟨k, hk, rfl⟩)
  · intro j f h
    have hf := fr.mine j f h
    exact hf.keep (Nat.le_refl _) e.next fun b x hb hx => by rw [e.same b (hf.blk_lt hb).2]; exact hx
  · intro j f b h hb
    refine ⟨?_, (fr.mineB j f b h hb).2⟩
    rw [Hp.rest_get, if_neg]
    intro q
    exact q.2 (by simp only [ownBlks, List.mem_append, mem_blks]; exact .inl ⟨j, f, h, hb⟩)
  · rw [Hp.rest_next]; exact Nat.le_trans fr.nextB e.next
  · intro b m0 cs0 _ h2 h3
    have hlt := Nat.lt_of_lt_of_le h2 fr.nextB
    rw [Hp.rest_get, if_pos, e.same b hlt]
    · exact fr.sub b _ h3
    · refine ⟨Nat.lt_of_lt_of_le hlt e.next, fun q => ?_⟩
      simp only [ownBlks, List.mem_append, List.mem_map, List.mem_range, mem_blks] at q
      rcases q with ⟨j, f, g1, g2⟩ | ⟨k, g1, rfl⟩
      · have := (fr.mineB j f b g1 g2).1; rw [h3] at this; cases this
      · have := fr.apart k g1; rw [h3] at this; cases this
  · rw [Hp.rest_next]; exact Nat.le_refl _
  · intro b m0 cs0 h1 h2 h3
    rw [Hp.rest_get, if_pos ⟨h2, fun q => by have := key b q; omega⟩]; exact h3
  · rw [Hp.rest_next]; exact e.next
  · intro b x0 h3
    have hlt := Nat.lt_of_lt_of_le (fr.trim b _ h3) fr.nextB
    rw [Hp.rest_get, if_pos, e.same b hlt]
    · exact fr.sub b _ h3
    · refine ⟨Nat.lt_of_lt_of_le hlt e.next, fun q => ?_⟩
      simp only [ownBlks, List.mem_append, List.mem_map, List.mem_range, mem_blks] at q
      rcases q with ⟨j, f, g1, g2⟩ | ⟨k, g1, rfl⟩
      · have := (fr.mineB j f b g1 g2).1; rw [h3] at this; cases this
      · have := fr.apart k g1; rw [h3] at this; cases this

/-- A slice of the function's own turns. -/
theorem WF.setOwn (fr : WF B0 B own loc ids H) {j : Nat} {e e' : OwnE} {H' : Hp} (hj : own[j]? = some e) (hn : H.next ≤ H'.next)
    (hk : ∀ b, b < H.next → e.blk ≠ some b → H'.get b = H.get b) (he : e'.ok B0.next H') (hb : ∀ b, e'.blk = some b → H.next ≤ b ∨ e.blk = some b) : WF B0 B (own.set j e') loc ids H' := by
  have hlt := lt_of_get hj
  have hne : ∀ b, b < H.next → (∀ c, e.blk = some c → b ≠ c) → H'.get b = H.get b := fun b h1 h2 => hk b h1 fun q => h2 b q rfl
  refine ⟨⟨Nat.le_trans fr.ext0.next hn, fun b h => ?_⟩, Nat.le_trans fr.nextB hn, fr.trim, ?_, ?_, fr.apart, fr.inj, ?_, ?_, ?_⟩
  · rw [hne b (Nat.lt_of_lt_of_le h fr.ext0.next) fun c hc q => by have := ((fr.mine j e hj).blk_lt hc).1; omega]
    exact fr.ext0.same b h
  · intro b x h
    rw [hne b (by have := fr.trim b x h; have := fr.nextB; omega) fun c hc q => by have := (fr.mineB j e c hj hc).1; rw [← q, h] at this; cases this]
    exact fr.sub b x h
  · intro k cs h
    obtain ⟨h1, h2, h3⟩ := fr.here k cs h
    exact ⟨by rw [hne _ h2 fun c hc q => (fr.mineB j e c hj hc).2 k (lt_of_get h) q]; exact h1, Nat.lt_of_lt_of_le h2 hn, h3⟩
  · intro i f h
    by_cases q : i = j
    · subst q; rw [List.getElem?_set_self hlt] at h; cases h; exact he
    · rw [List.getElem?_set_ne (fun r => q r.symm)] at h
      have hf := fr.mine i f h
      exact hf.keep (Nat.le_refl _) hn fun b x hb hx => by
        rw [hne b (hf.blk_lt hb).2 fun c hc r => q (fr.mineI i j f e b h hj hb (by rw [r]; exact hc))]; exact hx
  · intro i f b h hf
    by_cases q : i = j
    · subst q; rw [List.getElem?_set_self hlt] at h; cases h
      rcases hb b hf with r | r
      · refine ⟨?_, fun k hk' => by have := fr.ids_lt hk'; omega⟩
        cases hB : B.get b with
        | none => rfl
        | some x => have := fr.trim b x hB; have := fr.nextB; omega
      · exact fr.mineB i e b hj r
    · rw [List.getElem?_set_ne (fun r => q r.symm)] at h
      exact fr.mineB i f b h hf
  · intro i k f g b hi hk' hf hg
    have aux : ∀ i f, i ≠ j → (own.set j e')[i]? = some f → f.blk = some b → e'.blk = some b → False := by
      intro i f q h hf he'
      rw [List.getElem?_set_ne (fun r => q r.symm)] at h
      rcases hb b he' with r | r
      · have := ((fr.mine i f h).blk_lt hf).2; omega
      · exact q (fr.mineI i j f e b h hj hf r)
    by_cases q : i = j
    · by_cases r : k = j
      · omega
      · subst q; rw [List.getElem?_set_self hlt] at hi; cases hi
        exact (aux k g r hk' hg hf).elim
    · by_cases r : k = j
      · subst r; rw [List.getElem?_set_self hlt] at hk'; cases hk'
        exact (aux i f q hi hf hg).elim
      · rw [List.getElem?_set_ne (fun r => q r.symm)] at hi
        rw [List.getElem?_set_ne (fun s => r s.symm)] at hk'
        exact fr.mineI i k f g b hi hk' hf hg

/-- One slice more of the function's own. -/
theorem WF.addOwn (fr : WF B0 B own loc ids H) {e' : OwnE} {H' : Hp} (x : Ext H H') (he : e'.ok B0.next H') (hb : ∀ b, e'.blk = some b → H.next ≤ b) : WF B0 B (own ++ [e']) loc ids H' := by
  have get : ∀ i f, (own ++ [e'])[i]? = some f → (i < own.length ∧ own[i]? = some f) ∨ (i = own.length ∧ f = e') := by
    intro i f h
    by_cases q : i < own.length
    · rw [List.getElem?_append_left q] at h; exact .inl ⟨q, h⟩
    · have := lt_of_get h
      simp at this
      have q : i = own.length := by omega
      subst q
      simp at h
      exact .inr ⟨rfl, h.symm⟩
  refine ⟨fr.ext0.trans x, Nat.le_trans fr.nextB x.next, fr.trim, ?_, ?_, fr.apart, fr.inj, ?_, ?_, ?_⟩
  · intro b y h
    rw [x.same b (by have := fr.trim b y h; have := fr.nextB; omega)]; exact fr.sub b y h
  · intro k cs h
    obtain ⟨h1, h2, h3⟩ := fr.here k cs h
    exact ⟨by rw [x.same _ h2]; exact h1, Nat.lt_of_lt_of_le h2 x.next, h3⟩
  · intro i f h
    rcases get i f h with ⟨_, h⟩ | ⟨_, rfl⟩
    · have hf := fr.mine i f h
      exact hf.keep (Nat.le_refl _) x.next fun b y hb hy => by rw [x.same b (hf.blk_lt hb).2]; exact hy
    · exact he
  · intro i f b h hf
    rcases get i f h with ⟨_, h⟩ | ⟨_, rfl⟩
    · exact fr.mineB i f b h hf
    · refine ⟨?_, fun k hk' => by have := fr.ids_lt hk'; have := hb b hf; omega⟩
      cases hB : B.get b with
      | none => rfl
      | some x => have := fr.trim b x hB; have := fr.nextB; have := hb b hf; omega
  · intro i k f g b hi hk hf hg
    rcases get i f hi with ⟨_, h⟩ | ⟨h, rfl⟩ <;> rcases get k g hk with ⟨_, h'⟩ | ⟨h', rfl⟩
    · exact fr.mineI i k f g b h h' hf hg
    · have := ((fr.mine i f h).blk_lt hf).2; have := hb b hg; omega
    · have := ((fr.mine k g h').blk_lt hg).2; have := hb b hf; omega
    · omega

/-- Fewer variables, fewer slices of the function's own. -/
theorem WF.less (fr : WF B0 B own loc ids H) {loc' : List (List Value)} {own' : List OwnE} (σ : Nat → Nat) (hl : loc'.length ≤ loc.length) (h1 : ∀ k, k < loc'.length → loc'[k]? = loc[k]?) (h2 : ∀ j e, own'[j]? = some e → own[σ j]? = some e) (h3 : ∀ i j, i < own'.length → j < own'.length → σ i = σ j → i = j) : WF B0 B own' loc' ids H := by
  refine ⟨fr.ext0, fr.nextB, fr.trim, fr.sub, fun k cs h => fr.here k cs (by rw [← h1 k (lt_of_get h)]; exact h), fun k hk => fr.apart k (by omega), fun j k hj hk => fr.inj j k (by omega) (by omega), fun j e h => fr.mine _ e (h2 j e h), fun j e b h hb => ?_, fun i j e f b hi hj he hf => ?_⟩
  · obtain ⟨g1, g2⟩ := fr.mineB _ e b (h2 j e h) hb
    exact ⟨g1, fun k hk => g2 k (by omega)⟩
  · exact h3 i j (lt_of_get hi) (lt_of_get hj) (fr.mineI _ _ e f b (h2 i e hi) (h2 j f hj) he hf)
theorem WF.base (fr : WF B0 B own loc ids H) (B' : Hp) (hn : B'.next ≤ B.next) (ht : ∀ b x, B'.get b = some x → b < B'.next) (hs : ∀ b x, B'.get b = some x → B.get b = some x) : WF B0 B' own loc ids H := by
  have none_ : ∀ b, B.get b = none → B'.get b = none := fun b h => by
    cases q : B'.get b with
    | none => rfl
    | some x => rw [hs b x q] at h; cases h
  exact ⟨fr.ext0, Nat.le_trans hn fr.nextB, ht, fun b x h => fr.sub b x (hs b x h), fr.here, fun k hk => none_ _ (fr.apart k hk), fr.inj, fr.mine, fun j e b h hb => ⟨none_ _ (fr.mineB j e b h hb).1, (fr.mineB j e b h hb).2⟩, fr.mineI⟩
end frames

/-- The start: what is known is what lies below the next block. -/
def Hp.trimmed (H : Hp) : Hp := H.rest []
theorem WF.start (H : Hp) (ids : Nat → Nat) : WF H H.trimmed [] [] ids H := by
  refine ⟨Ext.refl H, by rw [Hp.trimmed, Hp.rest_next]; exact Nat.le_refl _, ?_, ?_, fun k cs h => by simp at h, fun k h => by simp at h, fun j k h => by simp at h, fun j e h => by simp at h, fun j e b h => by simp at h, fun i j e f b h => by simp at h⟩
  · intro b x h
    rw [Hp.trimmed, Hp.rest_get] at h
    rw [Hp.trimmed, Hp.rest_next]
    split at h
    · rename_i q; exact q.1
    · cases h
  · intro b x h
    rw [Hp.trimmed, Hp.rest_get] at h
    split at h
    · exact h
    · cases h
theorem Abv.trimmed (H : Hp) : Abv 0 H H.trimmed := by
  refine ⟨by rw [Hp.trimmed, Hp.rest_next]; exact Nat.le_refl _, fun b m cs _ h1 h2 => ?_⟩
  rw [Hp.trimmed, Hp.rest_get, if_pos ⟨h1, by simp⟩]; exact h2
end Go.Det

set_option linter.unusedSimpArgs false
set_option linter.unusedVariables false
namespace Go.Det
open Go Go.RowKit

/-! ## 31. Runs with slices of the function's own -/
def WJ (P : Program) (n : NN) (B0 B : Hp) (own : List OwnE) (k : KK) (Q : Ex → SS → Prop) (x : VS) : Prop := ∀ ids H, WF B0 B own x.loc ids H → JK P k Q (x.ss ids n H)

def VOut.okW (P : Program) (n : NN) (B0 B : Hp) (own : List OwnE) (Q : Ex → SS → Prop) : VOut → Prop
  | .fin e x => ∀ ids H, WF B0 B own x.loc ids H → Q e (x.ss ids n H)
  | .loop c k x => WJ P n B0 B own (.code (.loop c) :: k) Q x
  | .again c k x => WJ P n B0 B own (.inLoop c :: k) Q x
  | .call f args d k x => ∀ ids H, WF B0 B own x.loc ids H → SCall P f (args.map (den ids)) H fun
      | .ret v, H' => ∃ s', putS (x.ss ids n H) d v H' = some s' ∧ JK P k Q s'
      | .panic v, H' => Q (.panic v) { x.ss ids n H with H := H' }
  | .hard a m i k x => WJ P n B0 B own (.ops a (m + 1) i :: k) Q x
  | .cmp a m i k x => WJ P n B0 B own (.ops a (m + 1) i :: k) Q x
  | .draw id a k x => WJ P n B0 B own (.code (.region id a true) :: k) Q x
  | .go k x => WJ P n B0 B own k Q x
  | .stuck => False

section rules
variable {P : Program} {Q : Ex → SS → Prop} {n : NN} {B0 B : Hp} {own : List OwnE}

theorem wStep_ok {k : KK} {x : VS} (h : (vStep P n k x).okW P n B0 B own Q) : WJ P n B0 B own k Q x := by
  intro ids H fr
  unfold vStep at h
  split at h
  · exact h ids H fr
  · exact h ids H fr
  · exact h ids H fr
  · exact JL.nil (h ids H fr)
  · split at h
    · exact h.elim
    · rename_i o ho
      split at h
      · exact h.elim
      · rename_i hg
        split at h
        · rename_i x' hp
          obtain ⟨p1, p2, p3, p4⟩ := putV_eq ids H H hp
          refine JK.ops (by unfold doOp; simp only [ho, gdV_eq ids n H hg]; rw [show (x.ss ids n H).H = H from rfl, show (undef : Value) = den ids (.v undef) from rfl, p1]) (h ids H ?_)
          rw [p2]; exact fr
        · exact h.elim
      · rename_i hg
        split at h
        · exact h ids H fr
        · exact h ids H fr
        · exact h.elim
        · rename_i v he
          split at h
          · rename_i hd
            split at h
            · rename_i x' hp
              obtain ⟨p1, p2, p3, p4⟩ := putV_eq ids H H hp
              refine JK.ops (s' := x'.ss ids n H) ?_ (h ids H (by rw [p2]; exact fr))
              unfold doOp
              simp only [ho, gdV_eq ids n H hg, hd]
              rw [show (x.ss ids n H).H = H from rfl, opV_val (n := n) he (fr.fr0 _ _)]
              simp only; rw [p1]
            · exact h.elim
          · exact h.elim
        · rename_i cs he
          split at h
          · rename_i hd
            rename_i l loc cl kB
            split at h
            · rename_i x' hp
              obtain ⟨e1, e2⟩ := opV_new (n := n) (H := H) (ids := ids) he
              have hden : denE (fun k => if k = loc.length then H.next else ids k) l = denE ids l := denE_apart (k := loc.length) (fun j hj => by simp [hj]) e2
              obtain ⟨p1, p2, p3, p4⟩ := putV_eq (fun k => if k = loc.length then H.next else ids k) (H.alloc (.cells .fix cs)) (H.alloc (.cells .fix cs)) hp
              refine JK.ops (s' := x'.ss (fun k => if k = loc.length then H.next else ids k) n (H.alloc (.cells .fix cs))) ?_ (h _ _ (by rw [p2]; exact fr.alloc cs))
              unfold doOp
              have hg' := gdV_eq ids n H hg
              simp only [ho, hg', hd]
              rw [show (VS.ss ⟨l, loc, cl, kB⟩ ids n H).H = H from rfl, e1]
              simp only [newD]
              have p1' : putS (VS.ss ⟨l, loc, cl, kB⟩ ids n H) o.dst (.pointer (some ⟨H.next, 0, none⟩)) (H.alloc (.cells .fix cs)) = some (x'.ss (fun k => if k = loc.length then H.next else ids k) n (H.alloc (.cells .fix cs))) := by
                rw [← p1]
                simp only [VS.ss, hden, den, if_true]
                cases o.dst <;> rfl
              rw [p1']
            · exact h.elim
          · exact h.elim
        · rename_i j cs he
          split at h
          · rename_i hd
            rename_i l loc cl kB
            split at h
            · rename_i x' hp
              obtain ⟨cs0, e0, e1⟩ := opV_upd (n := n) he (fr.fr0 cl kB)
              obtain ⟨p1, p2, p3, p4⟩ := putV_eq ids (H.put (ids j) (.cells .fix cs)) (H.put (ids j) (.cells .fix cs)) hp
              refine JK.ops (s' := x'.ss ids n (H.put (ids j) (.cells .fix cs))) ?_ (h _ _ (by rw [p2]; exact fr.store e0))
              unfold doOp
              have hg' := gdV_eq ids n H hg
              simp only [ho, hg', hd]
              rw [show (VS.ss ⟨l, loc, cl, kB⟩ ids n H).H = H from rfl, e1]
              simp only
              have p1' : putS (VS.ss ⟨l, loc, cl, kB⟩ ids n H) o.dst undef (H.put (ids j) (.cells .fix cs)) = some (x'.ss ids n (H.put (ids j) (.cells .fix cs))) := by
                rw [← p1]
                cases o.dst <;> rfl
              rw [p1']
            · exact h.elim
          · exact h.elim
        · rename_i f args he
          split at h
          · rename_i hd
            split at h
            · rename_i x' hp
              obtain ⟨p1, _⟩ := putV_eq ids H H hp
              refine JK.call (f := f) (args := args.map (den ids)) (d := o.dst) ?_ (h ids H fr)
              unfold doOp
              simp only [ho, gdV_eq ids n H hg, hd]
              rw [show (x.ss ids n H).H = H from rfl, opV_enter (n := n) (H := H) (ids := ids) he]
              simp only
              rw [show (undef : Value) = den ids (.v undef) from rfl, p1]
            · exact h.elim
          · exact h.elim
  · split at h
    · exact J.skip (h ids H fr)
    · exact J.label (h ids H fr)
    · rename_i id
      refine J.exit (QK_exit ?_)
      split at h <;> rename_i hu <;> rw [hu] <;> exact h ids H fr
    · refine J.ret ?_
      show QK P _ Q .ret _
      rw [QK_ret]; exact h ids H fr
    · exact JK.seq (h ids H fr)
    · exact JK.block (h ids H fr)
    · exact SC.scope (h ids H fr)
    · split at h
      · rename_i hc; exact JK.cond (evV_eq P x ids n H hc) (fun _ => h ids H fr) (fun q => by cases q)
      · rename_i hc; exact JK.cond (evV_eq P x ids n H hc) (fun q => by cases q) (fun _ => h ids H fr)
      · exact h.elim
    · exact h ids H fr
    · exact J.region rfl (h ids H fr)
    · exact h ids H fr
    · exact h.elim

theorem wSym_ok : ∀ (N : Nat) {k : KK} {x : VS}, (vSym P n N k x).okW P n B0 B own Q → WJ P n B0 B own k Q x
  | 0, _, _, h => h
  | N + 1, k, x, h => by
    unfold vSym at h
    split at h
    · rename_i k' x' hs
      exact wStep_ok (by rw [hs]; exact wSym_ok N h)
    · exact wStep_ok h
end rules
end Go.Det

set_option linter.unusedSimpArgs false
set_option linter.unusedVariables false
namespace Go.Det
open Go Go.RowKit

/-! ## 32. What cells stand for -/
structure Cod (α : Type) where
  sz : Nat
  rep : Nat → Hp → List Value → α → Prop
  len : ∀ {n : Nat} {H : Hp} {cs : List Value} {x : α}, rep n H cs x → cs.length = sz
  mono : ∀ {m n : Nat} {H H' : Hp} {cs : List Value} {x : α}, m ≤ n → Abv n H H' → rep n H cs x → rep m H' cs x
def Cod.flat {α : Type} (sz : Nat) (enc : α → List Value) (h : ∀ x, (enc x).length = sz) : Cod α :=
  { sz := sz, rep := fun _ _ cs x => cs = enc x, len := fun {_ _ _ x} e => by subst e; exact h x, mono := fun _ _ e => e }
def iE (x : Int) : List Value := [.int .i64 x]
def bE (x : Bool) : List Value := [.bool x]
abbrev bs (l : List UInt8) : ByteArray := ⟨⟨l⟩⟩
def sE (x : List UInt8) : List Value := [.string (bs x)]
def kE (k : IntKind) (x : Int) : List Value := [.int k x]
def intC : Cod Int := .flat 1 iE fun _ => rfl
def boolC : Cod Bool := .flat 1 bE fun _ => rfl
def strC : Cod (List UInt8) := .flat 1 sE fun _ => rfl
def kindC (k : IntKind) : Cod Int := .flat 1 (kE k) fun _ => rfl

section codes
variable {α : Type} {c : Cod α} {m n : Nat} {H H' : Hp}
def RepL (c : Cod α) (n : Nat) (H : Hp) : List Value → List α → Prop
  | cs, [] => cs = []
  | cs, x :: l => ∃ c1 c2, cs = c1 ++ c2 ∧ c.rep n H c1 x ∧ RepL c n H c2 l
theorem RepL.mono (hm : m ≤ n) (h : Abv n H H') : ∀ {l : List α} {cs : List Value}, RepL c n H cs l → RepL c m H' cs l
  | [], _, e => e
  | _ :: _, _, ⟨c1, c2, e, h1, h2⟩ => ⟨c1, c2, e, c.mono hm h h1, RepL.mono hm h h2⟩
theorem RepL.len : ∀ {l : List α} {cs : List Value}, RepL c n H cs l → cs.length = l.length * c.sz
  | [], _, e => by simp only [RepL] at e; subst e; simp
  | x :: l, _, ⟨c1, c2, e, h1, h2⟩ => by subst e; rw [List.length_append, c.len h1, RepL.len h2, List.length_cons, Nat.succ_mul]; omega
theorem RepL.get : ∀ {l : List α} {cs : List Value}, RepL c n H cs l → ∀ {i : Nat} {x : α}, l[i]? = some x → ∃ c1 p q, cs = p ++ c1 ++ q ∧ p.length = i * c.sz ∧ c.rep n H c1 x
  | [], _, _, i, x, h => by simp at h
  | y :: l, _, ⟨c1, c2, e, h1, h2⟩, 0, x, h => by simp at h; subst h; exact ⟨c1, [], c2, by simpa using e, by simp, h1⟩
  | y :: l, _, ⟨c1, c2, e, h1, h2⟩, i + 1, x, h => by
    obtain ⟨d, p, q, e2, g1, g2⟩ := RepL.get h2 (by simpa using h)
    exact ⟨d, c1 ++ p, q, by rw [e, e2]; simp, by rw [List.length_append, c.len h1, g1, Nat.succ_mul]; omega, g2⟩
theorem RepL.append : ∀ {l l' : List α} {cs cs' : List Value}, RepL c n H cs l → RepL c n H cs' l' → RepL c n H (cs ++ cs') (l ++ l')
  | [], _, _, _, e, h => by simp only [RepL] at e; subst e; exact h
  | _ :: _, _, _, _, ⟨c1, c2, e, h1, h2⟩, h => ⟨c1, _, by rw [e, List.append_assoc], h1, RepL.append h2 h⟩
theorem RepL.one {x : α} {cs : List Value} (h : c.rep n H cs x) : RepL c n H cs [x] := ⟨cs, [], by simp, h, rfl⟩

/-- Cells lie somewhere. -/
def At (n : Nat) (H : Hp) (b o : Nat) (cs : List Value) : Prop := n ≤ b ∧ b < H.next ∧ ∃ m all, H.get b = some (.cells m all) ∧ o + cs.length ≤ all.length ∧ (all.drop o).take cs.length = cs
theorem At.mono {b o : Nat} {cs : List Value} (hm : m ≤ n) (h : Abv n H H') (k : At n H b o cs) : At m H' b o cs :=
  ⟨Nat.le_trans hm k.1, Nat.lt_of_lt_of_le k.2.1 h.next, let ⟨q, all, g1, g2⟩ := k.2.2; ⟨q, all, h.same b _ _ k.1 k.2.1 g1, g2⟩⟩
theorem At.part {b o : Nat} {p cs q : List Value} (k : At n H b o (p ++ cs ++ q)) : At n H b (o + p.length) cs := by
  obtain ⟨h1, h2, m, all, g1, g2, g3⟩ := k
  refine ⟨h1, h2, m, all, g1, by simp only [List.length_append] at g2; omega, ?_⟩
  have := congrArg (fun l => (l.drop p.length).take cs.length) g3
  simp only [List.append_assoc, List.drop_left, List.take_left] at this
  rw [List.drop_take, List.drop_drop, List.take_take] at this
  refine Eq.trans ?_ this
  congr 1
  simp only [List.length_append]; omega
/-- A slice. -/
def SlF (n : Nat) (H : Hp) (c : Cod α) (a : Option Addr) (cap : Nat) (l : List α) : Prop :=
  (a = none ∧ cap = 0 ∧ l = []) ∨ ∃ b o cs, a = some ⟨b, o, none⟩ ∧ RepL c n H cs l ∧ (l = [] ∨ At n H b o cs)
theorem SlF.mono {a : Option Addr} {cap : Nat} {l : List α} (hm : m ≤ n) (h : Abv n H H') (k : SlF n H c a cap l) : SlF m H' c a cap l := by
  rcases k with k | ⟨b, o, cs, e, h1, h2⟩
  · exact .inl k
  · exact .inr ⟨b, o, cs, e, h1.mono hm h, h2.imp id (At.mono hm h)⟩
theorem SlF.nil : SlF n H c none 0 [] := .inl ⟨rfl, rfl, rfl⟩

/-- An element, or nothing. -/
def rd (l : List α) (i : Int) : Option α := if 0 ≤ i then l[i.toNat]? else none
theorem rd_some {l : List α} {i : Int} {x : α} (h : rd l i = some x) : 0 ≤ i ∧ i.toNat < l.length ∧ l[i.toNat]? = some x := by
  unfold rd at h
  split at h
  · rename_i q; exact ⟨q, lt_of_get h, h⟩
  · cases h
theorem rd_nat {l : List α} {i : Nat} : rd l (i : Int) = l[i]? := by simp [rd]

theorem SlF.at {P : Program} {a : Option Addr} {cap : Nat} {l : List α} (h : SlF n H c a cap l) {t e : TypeId} {i : Int} {x : α} (hi : rd l i = some x) (ht : P.underlying t = some (.slice e)) (hs : sizeD P e = some c.sz) :
    ∃ b o cs, (∀ k, indexAddrD P t (.slice a l.length cap) (.int k i) = some (.pointer (some ⟨b, o, none⟩))) ∧ c.rep n H cs x ∧ At n H b o cs := by
  obtain ⟨h1, h2, h3⟩ := rd_some hi
  rcases h with ⟨_, _, rfl⟩ | ⟨b, o, cs, rfl, g1, rfl | g2⟩
  · simp at h2
  · simp at h2
  · obtain ⟨c1, p, q, e1, e2, e3⟩ := g1.get h3
    subst e1
    refine ⟨b, o + p.length, c1, fun k => ?_, e3, g2.part⟩
    simp only [indexAddrD, ht, hs]
    rw [if_pos ⟨h1, by omega⟩, e2]
theorem At.load {P : Program} {b o d : Nat} {cs : List Value} {t : TypeId} {v : Value} (h : At n H b o cs) (ht : isAggD P t = some false) (hv : cs[d]? = some v) : loadD P H t (.pointer (some ⟨b, o + d, none⟩)) = some v := by
  obtain ⟨_, _, m, all, g1, g2, g3⟩ := h
  simp only [loadD, g1, ht]
  have hd := lt_of_get hv
  rw [← g3, List.getElem?_take_of_lt hd, List.getElem?_drop] at hv
  exact hv
theorem At.loadN {P : Program} {b o d s : Nat} {cs cs' : List Value} {t : TypeId} (h : At n H b o cs) (ht : isAggD P t = some true) (hs : sizeD P t = some s) (hd : Nat.ble (d + s) cs.length = true) (hv : (cs.drop d).take s = cs') : loadD P H t (.pointer (some ⟨b, o + d, none⟩)) = some (.agg ⟨cs'⟩) := by
  obtain ⟨_, _, m, all, g1, g2, g3⟩ := h
  have hd := Nat.le_of_ble_eq_true hd
  simp only [loadD, g1, ht, hs]
  rw [if_pos (by omega)]
  subst hv
  congr 3
  rw [← List.drop_drop]
  have e : cs.drop d = ((all.drop o).drop d).take (cs.length - d) := by
    have := congrArg (fun l => l.drop d) g3
    simp only [List.drop_take] at this
    exact this.symm
  rw [e, List.take_take, Nat.min_eq_left (by omega)]
theorem SlF.src {a : Option Addr} {cap : Nat} {l : List α} (h : SlF n H c a cap l) : ∃ cs, srcD H c.sz (.slice a l.length cap) l.length = some cs ∧ RepL c n H cs l := by
  rcases h with ⟨rfl, rfl, rfl⟩ | ⟨b, o, cs, rfl, g1, rfl | g2⟩
  · exact ⟨[], rfl, rfl⟩
  · exact ⟨[], by simp [srcD], rfl⟩
  · obtain ⟨_, _, m, all, k1, k2, k3⟩ := g2
    by_cases h0 : l.length = 0
    · have : l = [] := List.length_eq_zero_iff.1 h0
      subst this
      exact ⟨[], by simp [srcD], rfl⟩
    · refine ⟨cs, ?_, g1⟩
      unfold srcD
      simp only
      rw [if_neg h0]
      simp only [k1]
      rw [← g1.len, if_pos ⟨k2, Nat.le_refl _⟩, k3]

/-- The cells of elements without addresses. -/
def encL (enc : α → List Value) (l : List α) : List Value := l.flatMap enc
theorem repL_flat {sz : Nat} {enc : α → List Value} {he : ∀ x, (enc x).length = sz} : ∀ {l : List α} {cs : List Value}, RepL (.flat sz enc he) n H cs l ↔ cs = encL enc l
  | [], cs => by simp [RepL, encL]
  | x :: l, cs => by
    simp only [RepL, encL, List.flatMap_cons]
    constructor
    · rintro ⟨c1, c2, e, h1, h2⟩
      rw [repL_flat] at h2
      rw [e, h2, h1]; rfl
    · intro e
      exact ⟨enc x, encL enc l, e, rfl, repL_flat.2 rfl⟩
theorem encL_int (l : List Int) : encL iE l = l.map (Value.int .i64) := by
  induction l with
  | nil => rfl
  | cons x l ih => simp only [encL, List.flatMap_cons] at *; rw [ih]; rfl
theorem SlF.sl {sz : Nat} {enc : α → List Value} {he : ∀ x, (enc x).length = sz} {a : Option Addr} {cap : Nat} {l : List α} (h : SlF n H (.flat sz enc he) a cap l) : Sl H sz a l.length cap (encL enc l) := by
  rcases h with ⟨rfl, rfl, rfl⟩ | ⟨b, o, cs, rfl, g1, g2⟩
  · exact ⟨by simp [encL], .inl ⟨rfl, rfl, rfl⟩⟩
  · have hl := g1.len
    rw [repL_flat] at g1
    subst g1
    refine ⟨hl, .inr ⟨b, o, rfl, ?_⟩⟩
    rcases g2 with rfl | ⟨_, k2, m, all, k3, k4, k5⟩
    · exact .inl rfl
    · refine .inr ⟨m, all, k3, k2, ?_, ?_⟩
      · rw [show l.length * sz = (encL enc l).length from hl.symm]; exact k4
      · rw [show l.length * sz = (encL enc l).length from hl.symm]; exact k5

theorem OwnE.ok.slF {e : OwnE} {lo : Nat} {l : List α} (h : e.ok lo H) (hs : e.sz = c.sz) (hr : RepL c n H e.cs l) (hn : n ≤ lo) (hp : 0 < c.sz) : SlF n H c e.a e.cap l := by
  rcases h with ⟨h1, h2, h3⟩ | ⟨b, h1, h2, h3, h4⟩
  · refine .inl ⟨h1, h2, ?_⟩
    have := hr.len
    rw [h3] at this
    refine List.length_eq_zero_iff.1 ?_
    rcases Nat.mul_eq_zero.1 this.symm with q | q
    · exact q
    · omega
  · refine .inr ⟨b, 0, e.cs, h1, hr, .inr ⟨by omega, h3, ?_⟩⟩
    rcases h4 with ⟨_, _, g⟩ | ⟨_, _, g⟩ <;> exact ⟨_, _, g, by simp, by simp⟩
end codes
end Go.Det

set_option linter.unusedSimpArgs false
set_option linter.unusedVariables false
namespace Go.Det
open Go Go.RowKit

/-! ## 33. Rules for printed proofs -/
/-! What a printed function comes to: 'Option.bind E K = some r'. -/
section pure
variable {α β ρ : Type} {r : ρ}
theorem topS {E : Option ρ} (h : E = some r) : Option.bind E some = some r := by subst h; rfl
theorem bindS {M : Option α} {F : α → Option β} {K : β → Option ρ} (h : Option.bind (Option.bind M F) K = some r) : ∃ t, M = some t ∧ Option.bind (F t) K = some r := by
  cases M with
  | none => cases h
  | some t => exact ⟨t, rfl, h⟩
/-- A piece with an end of its own. -/
theorem cutS {M : Option α} {F : α → Option β} {K : β → Option ρ} (h : Option.bind (Option.bind M F) K = some r) : Option.bind M (fun s => Option.bind (F s) K) = some r := by
  cases M with
  | none => cases h
  | some t => exact h
theorem itS {c : Prop} [Decidable c] {X Y : Option α} {K : α → Option ρ} (h : Option.bind (if c then X else Y) K = some r) : (c → Option.bind X K = some r) ∧ (¬c → Option.bind Y K = some r) :=
  ⟨fun q => by rwa [if_pos q] at h, fun q => by rwa [if_neg q] at h⟩
theorem ifS {c : Prop} [Decidable c] {X : Option α} {K : α → Option ρ} (h : Option.bind (if c then X else none) K = some r) : c ∧ Option.bind X K = some r := by
  by_cases q : c
  · rw [if_pos q] at h; exact ⟨q, h⟩
  · rw [if_neg q] at h; cases h
theorem noS {K : α → Option ρ} (h : Option.bind none K = some r) : False := by cases h
theorem endS {X : ρ} (h : some X = some r) : X = r := Option.some.inj h
end pure

section rules
variable {P : Program} {Q : Ex → SS → Prop} {n : NN} {B0 B : Hp} {own : List OwnE} {k k' : KK} {x x' x'' : VS} (N : Nat)

theorem WJ.sym {o : VOut} (hs : vSym P n N k x = o) (h : o.okW P n B0 B own Q) : WJ P n B0 B own k Q x := wSym_ok N (by rw [hs]; exact h)

theorem SCall.g {f : FuncId} {fn : Func} {c : Code} {args : List Value} {H : Hp} {Q : En → Hp → Prop} (hf : P.funcs[f]? = some fn) (hb : fn.body = some c) {m : Nat} (hn : fn.ntmps = m) {g : Nat} (hg : args.length = g) (hl : Nat.ble g m = true)
    {res : List ResultVar} (hr : fn.results.toList = res) {l : VEnv} (he : ∀ ids, denE ids l = envOf args) (h : ∀ B, Abv 0 H B → WJ P ⟨m, true⟩ H B [] [.code c] (bodyS P res Q) ⟨l, [], true, 0⟩) : SCall P f args H Q :=
  SCall.body hf hb hn (by rw [hg]; exact Nat.le_of_ble_eq_true hl) hr (by
    have := h H.trimmed (Abv.trimmed H) (fun _ => 0) H (WF.start H _)
    simp only [VS.ss, he] at this
    exact this)

theorem wressV_ok {ids : Nat → Nat} {H : Hp} (fr : WF B0 B own x.loc ids H) {l : List ResultVar} {vs : List Value} (h : ressV P x l = some vs) : ressS P (x.ss ids n H) l = some vs := ressV_ok (fr.fr0 x.cl x.kB) h

/-- The end: what is returned. -/
theorem WJ.rt {R : Value → Hp → Prop} {res : List ResultVar} {vs : List Value} {v : Value} (hs : vSym P n N k x = .fin .ret x') (hr : ressV P x' res = some vs) (hv : oneD vs = v) (h : ∀ ids H, WF B0 B own x'.loc ids H → R v H) : WJ P n B0 B own k (bodyS P res (Ret R)) x :=
  WJ.sym N hs (fun ids H fr => ⟨rfl, vs, wressV_ok fr hr, v, by rw [hv], h ids H fr⟩)
theorem WJ.rn {R : Value → Hp → Prop} {res : List ResultVar} {vs : List Value} {v : Value} (hs : vSym P n N k x = .fin .normal x') (hr : ressV P x' res = some vs) (hv : oneD vs = v) (h : ∀ ids H, WF B0 B own x'.loc ids H → R v H) : WJ P n B0 B own k (bodyS P res (Ret R)) x :=
  WJ.sym N hs (fun ids H fr => ⟨rfl, vs, wressV_ok fr hr, v, by rw [hv], h ids H fr⟩)
theorem WJ.rt1 {R : Value → Hp → Prop} {res : List ResultVar} {v : Value} (hs : vSym P n N k x = .fin .ret x') (hr : ressV P x' res = some [v]) (h : ∀ ids H, WF B0 B own x'.loc ids H → R v H) : WJ P n B0 B own k (bodyS P res (Ret R)) x := WJ.rt N hs hr rfl h

/-- A comparison of plain values, whatever comes out. -/
theorem WJ.cv {a : Array Oper} {m i : Nat} {o : Oper} {b : Bool} {H0 : Hp} (hs : vSym P n N k x = .cmp a m i k' x') (ho : a[i]? = some o) (hg : gdV a x'.l o = some true) (hd : notDefer o.op = true) (hp : o.op.operands.toList.all (isPlain P x'.l) = true) (hc : cls P o.op = some .pure)
    (he : opD P ⟨.nil, 0, 0⟩ (evPlain P x'.l) o = some (.val (.bool b) H0)) (hp1 : putV x' n o.dst (.v (.bool b)) = some x'')
    (h : WJ P n B0 B own (.ops a m (i + 1) :: k') Q x'') : WJ P n B0 B own k Q x := by
  refine WJ.sym N hs fun ids H fr => ?_
  have hgen : genV P x' o = .val (.v (.bool b)) := by unfold genV; simp only [hp, hc, he]
  have e1 := genV_ok (ids := ids) (n := n) (H := H) hgen
  obtain ⟨p1, p2, p3, p4⟩ := putV_eq ids H H hp1
  refine JK.ops (s' := x''.ss ids n H) ?_ (h ids H (by rw [p2]; exact fr))
  unfold doOp
  simp only [ho, gdV_eq ids n H hg, hd]
  rw [show (x'.ss ids n H).H = H from rfl, e1]
  simp only; rw [p1]
/-- Both ways, as the printed function parts. -/
theorem WJ.cq {a : Array Oper} {m i : Nat} {o : Oper} {b : Bool} {x1 x2 : VS} {H0 : Hp} {α ρ : Type} {r : ρ} {c : Prop} [Decidable c] {X Y : Option α} {K : α → Option ρ} (hq : b = decide c) (hs : vSym P n N k x = .cmp a m i k' x') (ho : a[i]? = some o) (hg : gdV a x'.l o = some true) (hd : notDefer o.op = true) (hp : o.op.operands.toList.all (isPlain P x'.l) = true) (hc : cls P o.op = some .pure)
    (he : opD P ⟨.nil, 0, 0⟩ (evPlain P x'.l) o = some (.val (.bool b) H0)) (hp1 : putV x' n o.dst (.v (.bool true)) = some x1) (hp2 : putV x' n o.dst (.v (.bool false)) = some x2)
    (hr : Option.bind (if c then X else Y) K = some r)
    (h1 : c → Option.bind X K = some r → WJ P n B0 B own (.ops a m (i + 1) :: k') Q x1) (h2 : ¬c → Option.bind Y K = some r → WJ P n B0 B own (.ops a m (i + 1) :: k') Q x2) : WJ P n B0 B own k Q x := by
  subst hq
  by_cases q : c
  · rw [if_pos q] at hr
    exact WJ.cv N hs ho hg hd hp hc he (by rw [decide_eq_true q]; exact hp1) (h1 q hr)
  · rw [if_neg q] at hr
    exact WJ.cv N hs ho hg hd hp hc he (by rw [decide_eq_false q]; exact hp2) (h2 q hr)
theorem WJ.ci {a : Array Oper} {m i : Nat} {o : Oper} {x1 x2 : VS} {H0 : Hp} {α ρ : Type} {r : ρ} {c : Prop} [Decidable c] {X Y : Option α} {K : α → Option ρ} (hr : Option.bind (if c then X else Y) K = some r) (hs : vSym P n N k x = .cmp a m i k' x') (ho : a[i]? = some o) (hg : gdV a x'.l o = some true) (hd : notDefer o.op = true) (hp : o.op.operands.toList.all (isPlain P x'.l) = true) (hc : cls P o.op = some .pure)
    (he : opD P ⟨.nil, 0, 0⟩ (evPlain P x'.l) o = some (.val (.bool (decide c)) H0)) (hp1 : putV x' n o.dst (.v (.bool true)) = some x1) (hp2 : putV x' n o.dst (.v (.bool false)) = some x2)
    (h1 : c → Option.bind X K = some r → WJ P n B0 B own (.ops a m (i + 1) :: k') Q x1) (h2 : ¬c → Option.bind Y K = some r → WJ P n B0 B own (.ops a m (i + 1) :: k') Q x2) : WJ P n B0 B own k Q x :=
  WJ.cq N rfl hs ho hg hd hp hc he hp1 hp2 hr h1 h2
/-- The same at '!='. -/
theorem WJ.cn {a : Array Oper} {m i : Nat} {o : Oper} {x1 x2 : VS} {H0 : Hp} {α ρ : Type} {r : ρ} {c : Prop} [Decidable c] {X Y : Option α} {K : α → Option ρ} (hr : Option.bind (if c then Y else X) K = some r) (hs : vSym P n N k x = .cmp a m i k' x') (ho : a[i]? = some o) (hg : gdV a x'.l o = some true) (hd : notDefer o.op = true) (hp : o.op.operands.toList.all (isPlain P x'.l) = true) (hc : cls P o.op = some .pure)
    (he : opD P ⟨.nil, 0, 0⟩ (evPlain P x'.l) o = some (.val (.bool (!decide c)) H0)) (hp1 : putV x' n o.dst (.v (.bool true)) = some x1) (hp2 : putV x' n o.dst (.v (.bool false)) = some x2)
    (h1 : ¬c → Option.bind X K = some r → WJ P n B0 B own (.ops a m (i + 1) :: k') Q x1) (h2 : c → Option.bind Y K = some r → WJ P n B0 B own (.ops a m (i + 1) :: k') Q x2) : WJ P n B0 B own k Q x := by
  by_cases q : c
  · rw [if_pos q] at hr
    exact WJ.cv N hs ho hg hd hp hc he (by rw [decide_eq_true q]; exact hp2) (h2 q hr)
  · rw [if_neg q] at hr
    exact WJ.cv N hs ho hg hd hp hc he (by rw [decide_eq_false q]; exact hp1) (h1 q hr)

/-- An operation that gives a value and leaves memory as it is. -/
theorem WJ.hd {a : Array Oper} {m i : Nat} {o : Oper} {v : Value} (hs : vSym P n N k x = .hard a m i k' x') (ho : a[i]? = some o) (hg : gdV a x'.l o = some true) (hd : notDefer o.op = true)
    (he : ∀ ids H, WF B0 B own x'.loc ids H → opD P H (evS P (x'.ss ids n H)) o = some (.val v H)) (hp : putV x' n o.dst (.v v) = some x'') (h : WJ P n B0 B own (.ops a m (i + 1) :: k') Q x'') : WJ P n B0 B own k Q x := by
  refine WJ.sym N hs fun ids H fr => ?_
  obtain ⟨p1, p2, p3, p4⟩ := putV_eq ids H H hp
  refine JK.ops (s' := x''.ss ids n H) ?_ (h ids H (by rw [p2]; exact fr))
  unfold doOp
  simp only [ho, gdV_eq ids n H hg, hd]
  rw [show (x'.ss ids n H).H = H from rfl, he ids H fr]
  simp only; rw [show v = den ids (.v v) from rfl, p1]

/-- A call that returns. -/
theorem WJ.cl {f : FuncId} {args : List SV} {d : Option Tmp} {R : Nat → Hp → Value → Prop} {l : VEnv} {loc : List (List Value)} {cl : Bool} {kB : Nat} (hR : ∀ {m n : Nat} {H B : Hp} {v : Value}, m ≤ n → Abv n H B → R n H v → R m B v) (hs : vSym P n N k x = .call f args d k' ⟨l, loc, cl, kB⟩)
    (hc : ∀ ids H, WF B0 B own loc ids H → SCall P f (args.map (den ids)) H (Ret fun v H' => Ext H H' ∧ R H.next H' v))
    (hk : ∀ v B', Abv 0 B B' ∧ Itv B B' → R B0.next B' v → ∃ x'', putV ⟨l, loc, true, 0⟩ n d (.v v) = some x'' ∧ WJ P n B0 B' own k' Q x'') : WJ P n B0 B own k Q x := by
  refine WJ.sym N hs fun ids H fr => ?_
  refine (hc ids H fr).mono fun e H' ⟨v, h1, h2, h3⟩ => ?_
  subst h1
  obtain ⟨B', g1, g2, g3, g4⟩ := fr.call h2
  obtain ⟨y, hp, h⟩ := hk v B' ⟨g2, g4.2⟩ (hR fr.ext0.next g3 h3)
  obtain ⟨p1, p2, p3, p4⟩ := putV_eq ids H H' hp
  refine ⟨y.ss ids n H', ?_, h ids H' (by rw [p2]; exact g1)⟩
  rw [← p1]; cases d <;> rfl

/-- A loop. -/
theorem WJ.lp {α : Type} {c : Code} (I : α → VEnv) (L : α → List (List Value)) (O : α → List OwnE) (M : α → Hp) (μ : α → Nat) (ok : α → Prop) (x0 : α) {l : VEnv} {loc : List (List Value)} {cl : Bool} {kB : Nat} (hs : vSym P n N k x = .loop c k' ⟨l, loc, cl, kB⟩) (hx : ok x0) (hl : lessV (I x0) l) (hL : loc = L x0) (hO : own = O x0) (hB : B = M x0)
    (h : ∀ y, ok y → (∀ z, ok z → μ z < μ y → WJ P n B0 (M z) (O z) (.inLoop c :: k') Q ⟨I z, L z, true, 0⟩) → WJ P n B0 (M y) (O y) (.code c :: .inLoop c :: k') Q ⟨I y, L y, true, 0⟩) : WJ P n B0 B own k Q x := by
  subst hL hB hO
  have key : ∀ m z, ok z → μ z = m → WJ P n B0 (M z) (O z) (.inLoop c :: k') Q ⟨I z, L z, true, 0⟩ := by
    intro m
    induction m using Nat.strongRecOn with
    | _ m ih => intro z hz hm ids H fr; exact JK.round (h z hz (fun y hy hlt => ih _ (by omega) y hy rfl) ids H fr)
  refine WJ.sym N hs fun ids H fr => ?_
  have := h x0 hx (fun y hy _ => key _ y hy rfl) ids H fr
  exact JK.less (denE ids (I x0)) (lessV_ok ids hl) (.inl ⟨_, rfl⟩) (JK.loop this)

theorem WF.firsts {loc L : List (List Value)} {own O : List OwnE} {ids : Nat → Nat} {H : Hp} (fr : WF B0 B own loc ids H) (hL : loc.take L.length = L) (hO : own.take O.length = O) : WF B0 B O L ids H := by
  refine fr.less id ?_ ?_ ?_ (fun i j _ _ h => h)
  · have := congrArg List.length hL; rw [List.length_take] at this; omega
  · intro k hk
    have : (loc.take L.length)[k]? = L[k]? := by rw [hL]
    rw [← this, List.getElem?_take_of_lt hk]
  · intro j e h
    have hj := lt_of_get h
    have : (own.take O.length)[j]? = O[j]? := by rw [hO]
    rw [← this, List.getElem?_take_of_lt hj] at h
    exact h
theorem WJ.ag {c : Code} {I : VEnv} {L : List (List Value)} {O : List OwnE} {M : Hp} {l : VEnv} {loc : List (List Value)} {cl : Bool} {kB : Nat} (hs : vSym P n N k x = .again c k' ⟨l, loc, cl, kB⟩) (hl : lessV I l) (hL : loc.take L.length = L) (hO : own.take O.length = O) (hB : B = M)
    (h : WJ P n B0 M O (.inLoop c :: k') Q ⟨I, L, true, 0⟩) : WJ P n B0 B own k Q x := by
  subst hB
  refine WJ.sym N hs fun ids H fr => ?_
  exact JK.less (denE ids I) (lessV_ok ids hl) (.inr ⟨_, rfl⟩) (h ids H (fr.firsts hL hO))
/-- Ways meet again. -/
theorem WJ.cut {α : Type} (j : Nat) (I : α → VEnv) (L : α → List (List Value)) (O : α → List OwnE) (M : α → Hp) (ok : α → Prop)
    (post : ∀ y, ok y → WJ P n B0 (M y) (O y) (k.drop j) Q ⟨I y, L y, true, 0⟩)
    (h : (∀ y, ok y → WJ P n B0 (M y) (O y) (k.drop j) Q ⟨I y, L y, true, 0⟩) → WJ P n B0 B own k Q x) : WJ P n B0 B own k Q x := h post
theorem WJ.goto {c : Code} {kk : KK} {I : VEnv} {L : List (List Value)} {O : List OwnE} {M : Hp} {l : VEnv} {loc : List (List Value)} {cl : Bool} {kB : Nat} (h : WJ P n B0 M O kk Q ⟨I, L, true, 0⟩) (hs : vSym P n N k x = .go (.code c :: k') ⟨l, loc, cl, kB⟩) (hk : kk = .code c :: k') (hl : lessV I l) (hL : loc.take L.length = L) (hO : own.take O.length = O) (hB : B = M) : WJ P n B0 B own k Q x := by
  subst hB hk
  refine WJ.sym N hs fun ids H fr => ?_
  exact JK.less (denE ids I) (lessV_ok ids hl) (.inl ⟨_, rfl⟩) (h ids H (fr.firsts hL hO))
theorem WJ.pop (O : List OwnE) (hO : own.take O.length = O) (h : WJ P n B0 B O k Q x) : WJ P n B0 B own k Q x :=
  fun ids H fr => h ids H (fr.firsts (by simp) hO)

/-- An operation that turns one slice of the function's own. -/
theorem WJ.so {a : Array Oper} {m i : Nat} {o : Oper} {j : Nat} {l : VEnv} {loc : List (List Value)} {cl : Bool} {kB : Nat} {R : Value → OwnE → Prop} (hs : vSym P n N k x = .hard a m i k' ⟨l, loc, cl, kB⟩) (ho : a[i]? = some o) (hg : gdV a l o = some true) (hd : notDefer o.op = true)
    (he : ∀ ids H, WF B0 B own loc ids H → ∃ v e' H', opD P H (evS P (VS.ss ⟨l, loc, cl, kB⟩ ids n H)) o = some (.val v H') ∧ WF B0 B (own.set j e') loc ids H' ∧ R v e')
    (hk : ∀ v e', R v e' → ∃ x'', putV ⟨l, loc, true, 0⟩ n o.dst (.v v) = some x'' ∧ WJ P n B0 B (own.set j e') (.ops a m (i + 1) :: k') Q x'') : WJ P n B0 B own k Q x := by
  refine WJ.sym N hs fun ids H fr => ?_
  obtain ⟨v, e', H', h1, h2, h3⟩ := he ids H fr
  obtain ⟨y, hp, h⟩ := hk v e' h3
  obtain ⟨p1, p2, p3, p4⟩ := putV_eq ids H H' hp
  refine JK.ops (s' := y.ss ids n H') ?_ (h ids H' (by rw [p2]; exact h2))
  unfold doOp
  have hg' := gdV_eq (x := ⟨l, loc, cl, kB⟩) ids n H hg
  simp only [ho, hg', hd]
  rw [show (VS.ss ⟨l, loc, cl, kB⟩ ids n H).H = H from rfl, h1]
  simp only
  have p1' : putS (VS.ss ⟨l, loc, cl, kB⟩ ids n H) o.dst v H' = some (y.ss ids n H') := by rw [← p1]; cases o.dst <;> rfl
  rw [p1']
/-- An operation that makes one more slice of the function's own. -/
theorem WJ.sn {a : Array Oper} {m i : Nat} {o : Oper} {l : VEnv} {loc : List (List Value)} {cl : Bool} {kB : Nat} {R : Value → OwnE → Prop} (hs : vSym P n N k x = .hard a m i k' ⟨l, loc, cl, kB⟩) (ho : a[i]? = some o) (hg : gdV a l o = some true) (hd : notDefer o.op = true)
    (he : ∀ ids H, WF B0 B own loc ids H → ∃ v e' H', opD P H (evS P (VS.ss ⟨l, loc, cl, kB⟩ ids n H)) o = some (.val v H') ∧ WF B0 B (own ++ [e']) loc ids H' ∧ R v e')
    (hk : ∀ v e', R v e' → ∃ x'', putV ⟨l, loc, true, 0⟩ n o.dst (.v v) = some x'' ∧ WJ P n B0 B (own ++ [e']) (.ops a m (i + 1) :: k') Q x'') : WJ P n B0 B own k Q x := by
  refine WJ.sym N hs fun ids H fr => ?_
  obtain ⟨v, e', H', h1, h2, h3⟩ := he ids H fr
  obtain ⟨y, hp, h⟩ := hk v e' h3
  obtain ⟨p1, p2, p3, p4⟩ := putV_eq ids H H' hp
  refine JK.ops (s' := y.ss ids n H') ?_ (h ids H' (by rw [p2]; exact h2))
  unfold doOp
  have hg' := gdV_eq (x := ⟨l, loc, cl, kB⟩) ids n H hg
  simp only [ho, hg', hd]
  rw [show (VS.ss ⟨l, loc, cl, kB⟩ ids n H).H = H from rfl, h1]
  simp only
  have p1' : putS (VS.ss ⟨l, loc, cl, kB⟩ ids n H) o.dst v H' = some (y.ss ids n H') := by rw [← p1]; cases o.dst <;> rfl
  rw [p1']
end rules
end Go.Det

set_option linter.unusedSimpArgs false
set_option linter.unusedVariables false
namespace Go.Det
open Go Go.RowKit

/-! ## 34. Slices of the function's own: made, appended to, read -/
section ops
variable {P : Program} {Q : Ex → SS → Prop} {n : NN} {B0 B : Hp} {own : List OwnE} {k k' : KK} {x x' x'' : VS} {loc : List (List Value)} {ids : Nat → Nat} {H : Hp} (N : Nat)

theorem WF.addNil (fr : WF B0 B own loc ids H) (sz : Nat) : WF B0 B (own ++ [⟨none, 0, sz, []⟩]) loc ids H :=
  fr.addOwn (Ext.refl H) (.inl ⟨rfl, rfl, rfl⟩) (fun b h => by cases h)
theorem WF.addFix (fr : WF B0 B own loc ids H) (cs : List Value) (len sz : Nat) (h : len * sz = cs.length) (hl : len < LOOSE) : WF B0 B (own ++ [⟨some ⟨H.next, 0, none⟩, len, sz, cs⟩]) loc ids (H.alloc (.cells .fix cs)) :=
  fr.addOwn (Ext.alloc (Ext.refl H) _) (.inr ⟨H.next, rfl, fr.ext0.next, by rw [Hp.next_alloc]; omega, .inr ⟨hl, h, by rw [Hp.get_alloc, if_pos rfl]⟩⟩) (fun b hb => by simp [OwnE.blk] at hb; omega)
theorem WJ.nw (sz : Nat) (h : WJ P n B0 B (own ++ [⟨none, 0, sz, []⟩]) k Q x) : WJ P n B0 B own k Q x := fun ids H fr => h ids H (fr.addNil sz)

/-- A literal. -/
theorem WJ.bs {a : Array Oper} {m i : Nat} {o : Oper} {l : VEnv} {cl : Bool} {kB t len sz : Nat} {parts : Array (Nat × Operand)} {pl : List (Nat × Value)} {cs : List Value} (hs : vSym P n N k x = .hard a m i k' ⟨l, loc, cl, kB⟩) (ho : a[i]? = some o) (hg : gdV a l o = some true) (hd : notDefer o.op = true)
    (hop : o.op = .buildSlice t len parts) (hpl : ∀ ids H, partsD (evS P (VS.ss ⟨l, loc, cl, kB⟩ ids n H)) parts.toList = some pl) (hbs : ∀ H, buildSliceD P H t len pl = some (.slice (some ⟨H.next, 0, none⟩) len len, H.alloc (.cells .fix cs))) (hsz : len * sz = cs.length) (hlt : Nat.blt len LOOSE = true)
    (hk : ∀ b, ∃ x'', putV ⟨l, loc, true, 0⟩ n o.dst (.v (.slice (some ⟨b, 0, none⟩) len len)) = some x'' ∧ WJ P n B0 B (own ++ [⟨some ⟨b, 0, none⟩, len, sz, cs⟩]) (.ops a m (i + 1) :: k') Q x'') : WJ P n B0 B own k Q x := by
  refine WJ.sn (R := fun v e' => ∃ b, v = .slice (some ⟨b, 0, none⟩) len len ∧ e' = ⟨some ⟨b, 0, none⟩, len, sz, cs⟩) N hs ho hg hd (fun ids H fr => ?_) ?_
  · refine ⟨_, ⟨some ⟨H.next, 0, none⟩, len, sz, cs⟩, _, opD_buildSlice hop (hpl ids H) (hbs H), fr.addFix cs len sz hsz (by rw [Nat.blt_eq] at hlt; exact hlt), H.next, rfl, rfl⟩
  · rintro v e' ⟨b, rfl, rfl⟩
    exact hk b

theorem WF.append {c : Call} {t et by_ j len m : Nat} {e : OwnE} {sv : Value} {new : List Value} (fr : WF B0 B own loc ids H) (hj : own[j]? = some e) (E : Elem P c t et e.sz by_) (hcs : e.cs.length = len * e.sz) (hl : lenD sv = some m) (hs : srcD H e.sz sv m = some new) (hnew : new.length = m * e.sz)
    (hone : (new.all fun v => v.oneCell') = true) (hb : (len + m) * by_ ≤ 140737488355328) (hm : len + m ≤ 140737488355328) :
    ∃ a' cap' H', appendD P H c.argTypes (.slice e.a len e.cap) sv = some (.slice a' (len + m) cap', H') ∧ WF B0 B (own.set j ⟨a', cap', e.sz, e.cs ++ new⟩) loc ids H' := by
  have hsp := E.pos
  have hL : LOOSE = 18446744073709551616 := rfl
  by_cases h0 : m = 0
  · subst h0
    have hn0 : new = [] := List.length_eq_zero_iff.1 (by simpa using hnew)
    subst hn0
    have hset : own.set j ⟨e.a, e.cap, e.sz, e.cs ++ []⟩ = own := by
      rw [List.append_nil]
      obtain ⟨h1, h2⟩ := List.getElem?_eq_some_iff.1 hj
      subst h2
      exact List.set_getElem_self h1
    refine ⟨e.a, e.cap, H, ?_, by rw [hset]; exact fr⟩
    obtain ⟨u, d, hu, hd, hk⟩ := E.a1
    obtain ⟨z, hz, hzs⟩ := E.zero
    have hcap : e.a ≠ none → len ≤ e.cap := by
      intro hne
      rcases fr.mine j e hj with ⟨q, _, _⟩ | ⟨b, _, _, _, h4⟩
      · exact absurd q hne
      · rcases h4 with ⟨q, _, _⟩ | ⟨q, r, _⟩
        · omega
        · rw [hcs] at r; exact Nat.le_of_mul_le_mul_right (by omega) hsp
    have hnil : e.a = none → len = 0 ∧ e.cap = 0 := by
      intro q
      rcases fr.mine j e hj with ⟨_, r, s⟩ | ⟨b, r, _⟩
      · rw [s] at hcs
        refine ⟨?_, r⟩
        rcases Nat.mul_eq_zero.1 hcs.symm with w | w <;> omega
      · rw [q] at r; cases r
    unfold appendD
    simp only [E.a0, hu, E.ut, hd]
    cases d <;> first | exact absurd rfl (hk _) | skip
    all_goals
      simp only [E.size, E.byt, hz, hl]
      rw [if_pos ⟨hsp, hzs⟩]
      simp only [hs]
      cases ha : e.a with
      | none =>
        obtain ⟨r1, r2⟩ := hnil ha
        rw [r1, r2]; rfl
      | some ad =>
        have : ad.spot = none := by
          rcases fr.mine j e hj with ⟨q, _, _⟩ | ⟨b, q, _⟩
          · rw [ha] at q; cases q
          · rw [ha] at q; cases q; rfl
        obtain ⟨b, o, s⟩ := ad
        simp only at this
        subst this
        simp only [if_true]
        rw [if_pos (hcap (by simp [ha]))]; rfl
  · have h0 : 0 < m := by omega
    rcases fr.mine j e hj with ⟨q1, q2, q3⟩ | ⟨b, q1, q2, q3, q4⟩
    · have hlen : len = 0 := by
        rw [q3] at hcs
        rcases Nat.mul_eq_zero.1 hcs.symm with w | w <;> omega
      subst hlen
      rw [q1, q2, q3]
      refine ⟨_, _, _, by rw [append_nil E hl hs h0 (by simpa using hb) (by simpa using hm), Nat.zero_add], ?_⟩
      refine fr.setOwn hj (Nat.le_succ _) (fun c hc _ => by rw [Hp.get_alloc, if_neg (by omega)]) ?_ (fun c hc => .inl (by simp [OwnE.blk] at hc; omega))
      refine .inr ⟨H.next, rfl, fr.ext0.next, by rw [Hp.next_alloc]; omega, .inl ⟨rfl, ?_, by rw [Hp.get_alloc, if_pos rfl]; rfl⟩⟩
      intro q
      have := congrArg List.length q
      simp only [List.nil_append, List.length_nil, hnew] at this
      rcases Nat.mul_eq_zero.1 this with w | w <;> omega
    · have hne : ∀ (cs : List Value), cs ++ new ≠ [] := by
        intro cs q
        have := congrArg List.length q
        simp only [List.length_append, List.length_nil, hnew] at this
        have w : m * e.sz = 0 := by omega
        rcases Nat.mul_eq_zero.1 w with w | w <;> omega
      rw [q1]
      rcases q4 with ⟨r1, r2, r3⟩ | ⟨r1, r2, r3⟩
      · rw [r1]
        have hpos : 0 < len := by
          rcases Nat.eq_zero_or_pos len with w | w
          · subst w; exact absurd (List.length_eq_zero_iff.1 (by simpa using hcs)) r2
          · exact w
        refine ⟨_, _, _, append_more E hl hs h0 r3 hpos hb hm (by omega) hone, ?_⟩
        have hbl : e.blk = some b := by simp [OwnE.blk, q1]
        refine fr.setOwn hj (Nat.le_succ _) (fun c hc hcb => ?_) ?_ (fun c hc => .inl (by simp [OwnE.blk] at hc; subst hc; exact Nat.le_refl _))
        · rw [Hp.get_alloc, if_neg (by show c ≠ H.next; omega), Hp.get_kill, if_neg (fun w => hcb (by rw [hbl, w]))]
        · refine .inr ⟨H.next, rfl, fr.ext0.next, by rw [Hp.next_alloc]; show H.next < H.next + 1; omega, .inl ⟨rfl, hne _, ?_⟩⟩
          rw [Hp.get_alloc, if_pos (show H.next = (H.kill b).next from rfl)]; simp
      · have hcap : e.cap = len := by
          rw [hcs] at r2; exact Nat.eq_of_mul_eq_mul_right hsp r2
        refine ⟨_, _, _, append_fix E hl hs h0 r3 (by omega) (by omega) hb hm (by omega), ?_⟩
        refine fr.setOwn hj (Nat.le_succ _) (fun c hc _ => by rw [Hp.get_alloc, if_neg (by omega)]) ?_ (fun c hc => .inl (by simp [OwnE.blk] at hc; omega))
        refine .inr ⟨H.next, rfl, fr.ext0.next, by rw [Hp.next_alloc]; omega, .inl ⟨rfl, hne _, ?_⟩⟩
        rw [Hp.get_alloc, if_pos rfl]
        simp only [List.drop_zero]
        rw [List.take_of_length_le (by omega)]

section flat
variable {α : Type} {enc : α → List Value}
theorem encL_append (l l' : List α) : encL enc (l ++ l') = encL enc l ++ encL enc l' := by simp [encL]
theorem encL_length {sz : Nat} (he : ∀ x, (enc x).length = sz) : ∀ l : List α, (encL enc l).length = l.length * sz
  | [] => by simp [encL]
  | x :: l => by
    have := encL_length he l
    simp only [encL, List.flatMap_cons, List.length_append, List.length_cons] at *
    rw [this, he, Nat.succ_mul]; omega
theorem encL_all {p : Value → Bool} (h : ∀ x, (enc x).all p = true) : ∀ l : List α, (encL enc l).all p = true
  | [] => rfl
  | x :: l => by
    have := encL_all h l
    simp only [encL, List.flatMap_cons, List.all_append, Bool.and_eq_true] at *
    exact ⟨h x, this⟩
/-- What append gives, or nothing beyond a bound of the model's. -/
def apd (by_ : Nat) (l l' : List α) : Option (List α) := if (l.length + l'.length) * by_ ≤ 140737488355328 then some (l ++ l') else none
theorem apd_some {by_ : Nat} {l l' r : List α} (h : apd by_ l l' = some r) : (l.length + l'.length) * by_ ≤ 140737488355328 ∧ l ++ l' = r := by
  unfold apd at h
  split at h
  · rename_i q; exact ⟨q, Option.some.inj h⟩
  · cases h

theorem WJ.ap {a : Array Oper} {m i : Nat} {o : Oper} {l : VEnv} {cl : Bool} {kB t et sz by_ : Nat} {c : Call} {ad : Option Addr} {cap : Nat} {sv : Value} {L L2 : List α} (j : Nat) (hs : vSym P n N k x = .hard a m i k' ⟨l, loc, cl, kB⟩) (ho : a[i]? = some o) (hg : gdV a l o = some true) (hd : notDefer o.op = true)
    (hop : o.op = .call c) (hcal : c.callee = .builtin .append) (hargs : argsV P l c.args.toList = some [.v (.slice ad L.length cap), .v sv]) (hj : own[j]? = some ⟨ad, cap, sz, encL enc L⟩) (E : Elem P c t et sz by_) (hby : Nat.blt 0 by_ = true) (he : ∀ x, (enc x).length = sz) (h1 : ∀ x, ((enc x).all fun v => v.oneCell') = true)
    (hl : lenD sv = some L2.length) (hsrc : ∀ ids H, WF B0 B own loc ids H → srcD H sz sv L2.length = some (encL enc L2)) (hb : (L.length + L2.length) * by_ ≤ 140737488355328)
    (hk : ∀ a' cap', ∃ x'', putV ⟨l, loc, true, 0⟩ n o.dst (.v (.slice a' (L ++ L2).length cap')) = some x'' ∧ WJ P n B0 B (own.set j ⟨a', cap', sz, encL enc (L ++ L2)⟩) (.ops a m (i + 1) :: k') Q x'') : WJ P n B0 B own k Q x := by
  rw [Nat.blt_eq] at hby
  have hm : L.length + L2.length ≤ 140737488355328 := Nat.le_trans (Nat.le_mul_of_pos_right _ hby) hb
  refine WJ.so (j := j) (R := fun v e' => ∃ a' cap', v = .slice a' (L ++ L2).length cap' ∧ e' = ⟨a', cap', sz, encL enc (L ++ L2)⟩) N hs ho hg hd (fun ids H fr => ?_) ?_
  · obtain ⟨a', cap', H', g1, g2⟩ := fr.append hj E (encL_length he L) hl (hsrc ids H fr) (encL_length he L2) (encL_all h1 L2) hb hm
    refine ⟨_, _, H', opD_append hop hcal (show argsD (evS P (VS.ss ⟨l, loc, cl, kB⟩ ids n H)) c.args.toList = some [.slice ad L.length cap, sv] from argsV_eq (x := ⟨l, loc, cl, kB⟩) hargs) g1, g2, a', cap', by rw [List.length_append], by simp only [encL_append]⟩
  · rintro v e' ⟨a', cap', rfl, rfl⟩
    exact hk a' cap'

theorem WF.srcOwn (fr : WF B0 B own loc ids H) {sz j cap : Nat} {ad : Option Addr} {L : List α} (he : ∀ x, (enc x).length = sz) (hp : 0 < sz) (hj : own[j]? = some ⟨ad, cap, sz, encL enc L⟩) : srcD H sz (.slice ad L.length cap) L.length = some (encL enc L) := by
  have := (fr.mine j _ hj).slF (c := .flat sz enc he) (l := L) rfl (repL_flat.2 rfl) (Nat.le_refl _) hp
  obtain ⟨cs, h1, h2⟩ := this.src
  rw [repL_flat] at h2
  subst h2; exact h1
theorem SlF.srcF {sz cap m : Nat} {he : ∀ x, (enc x).length = sz} {ad : Option Addr} {L : List α} (h : SlF m H (.flat sz enc he) ad cap L) : srcD H sz (.slice ad L.length cap) L.length = some (encL enc L) := by
  obtain ⟨cs, h1, h2⟩ := h.src
  rw [repL_flat] at h2
  subst h2; exact h1
theorem WF.slOwn (fr : WF B0 B own loc ids H) {sz j cap m : Nat} {ad : Option Addr} {L : List α} {he : ∀ x, (enc x).length = sz} (hp : Nat.blt 0 sz = true) (hj : own[j]? = some ⟨ad, cap, sz, encL enc L⟩) (hm : m ≤ B0.next) : SlF m H (.flat sz enc he) ad cap L := by
  rw [Nat.blt_eq] at hp
  exact (fr.mine j _ hj).slF (c := .flat sz enc he) (l := L) rfl (repL_flat.2 rfl) hm hp

theorem WJ.ownAddr {sz cap : Nat} {ad : Option Addr} {L : List α} {i : Int} {y : α} (j : Nat) (he : ∀ x, (enc x).length = sz) (hp : Nat.blt 0 sz = true) (hj : own[j]? = some ⟨ad, cap, sz, encL enc L⟩) (hi : rd L i = some y) (h : ∀ b, ad = some ⟨b, 0, none⟩ → WJ P n B0 B own k Q x) : WJ P n B0 B own k Q x := by
  rw [Nat.blt_eq] at hp
  intro ids H fr
  rcases fr.mine j _ hj with ⟨h1, h2, h3⟩ | ⟨b, h1, _⟩
  · exfalso
    have := encL_length he L
    simp only at h3
    rw [h3] at this
    have h4 := (rd_some hi).2.1
    rcases Nat.mul_eq_zero.1 this.symm with w | w <;> omega
  · exact h b h1 ids H fr
theorem ownIdx {t et sz cap b : Nat} {ad : Option Addr} {L : List α} {i : Int} {y : α} {kd : IntKind} (ha : ad = some ⟨b, 0, none⟩) (hi : rd L i = some y) (ht : P.underlying t = some (.slice et)) (hs : sizeD P et = some sz) : indexAddrD P t (.slice ad L.length cap) (.int kd i) = some (.pointer (some ⟨b, i.toNat * sz, none⟩)) := by
  obtain ⟨h1, h2, _⟩ := rd_some hi
  subst ha
  simp only [indexAddrD, ht, hs]
  rw [if_pos ⟨h1, by omega⟩, Nat.zero_add]
theorem WF.ownEl (fr : WF B0 B own loc ids H) {sz j cap b : Nat} {ad : Option Addr} {L : List α} {i : Int} {y : α} (he : ∀ x, (enc x).length = sz) (hj : own[j]? = some ⟨ad, cap, sz, encL enc L⟩) (ha : ad = some ⟨b, 0, none⟩) (hi : rd L i = some y) : At B0.next H b (i.toNat * sz) (enc y) := by
  obtain ⟨h1, h2, h3⟩ := rd_some hi
  have hr : RepL (.flat sz enc he) 0 H (encL enc L) L := repL_flat.2 rfl
  obtain ⟨c1, p, q, e1, e2, e3⟩ := hr.get h3
  have e3 : c1 = enc y := e3
  subst e3
  have key : At B0.next H b 0 (encL enc L) := by
    rcases fr.mine j _ hj with ⟨g1, _⟩ | ⟨b', g1, g2, g3, g4⟩
    · simp only at g1; rw [g1] at ha; cases ha
    · simp only at g1; rw [g1] at ha; cases ha
      refine ⟨g2, g3, ?_⟩
      rcases g4 with ⟨_, _, g⟩ | ⟨_, _, g⟩ <;> exact ⟨_, _, g, by simp, by simp⟩
  rw [e1] at key
  have := key.part
  rw [e2, Nat.zero_add] at this
  exact this
end flat
end ops
end Go.Det

set_option linter.unusedSimpArgs false
set_option linter.unusedVariables false
namespace Go.Det
open Go Go.RowKit

/-! ## 35. Regions that draw, with slices of the function's own -/
structure WFD (B0 B D : Hp) (kD : Nat) (own : List OwnE) (loc : List (List Value)) (ids : Nat → Nat) (H : Hp) : Prop where
  fr : WF B0 B own loc ids H
  extD : Ext D H
  newD : ∀ k, k < loc.length → kD ≤ k → D.next ≤ ids k
  oldD : ∀ k, k < loc.length → k < kD → ids k < D.next
  kle : kD ≤ loc.length
theorem WFD.frD {B0 B D : Hp} {kD : Nat} {own : List OwnE} {loc : List (List Value)} {ids : Nat → Nat} {H : Hp} (f : WFD B0 B D kD own loc ids H) (cl : Bool) (kB : Nat) : FrD B0 noHp D kD cl kB loc ids H :=
  ⟨f.fr.fr0 cl kB, f.extD, f.newD, f.oldD, f.kle⟩
theorem WFD.start {B0 B : Hp} {own : List OwnE} {loc : List (List Value)} {ids : Nat → Nat} {H : Hp} (fr : WF B0 B own loc ids H) : WFD B0 B H loc.length own loc ids H :=
  ⟨fr, Ext.refl H, fun k h1 h2 => by omega, fun k h1 _ => fr.ids_lt h1, Nat.le_refl _⟩
theorem WFD.alloc {B0 B D : Hp} {kD : Nat} {own : List OwnE} {loc : List (List Value)} {ids : Nat → Nat} {H : Hp} (f : WFD B0 B D kD own loc ids H) (cs : List Value) :
    WFD B0 B D kD own (loc ++ [cs]) (fun k => if k = loc.length then H.next else ids k) (H.alloc (.cells .fix cs)) := by
  refine ⟨f.fr.alloc cs, f.extD.alloc _, ?_, ?_, ?_⟩
  · intro k h1 h2
    simp only [List.length_append, List.length_cons, List.length_nil] at h1
    by_cases e : k = loc.length
    · subst e; simp only [if_true]; exact f.extD.next
    · simp only [if_neg e]; exact f.newD k (by omega) h2
  · intro k h1 h2
    have := f.kle
    simp only [if_neg (show ¬ k = loc.length by omega)]
    exact f.oldD k (by omega) h2
  · have := f.kle
    simp; omega
theorem WFD.store {B0 B D : Hp} {kD : Nat} {own : List OwnE} {loc : List (List Value)} {ids : Nat → Nat} {H : Hp} (f : WFD B0 B D kD own loc ids H) {k : Nat} {cs cs' : List Value} (hk : loc[k]? = some cs) (hD : kD ≤ k) :
    WFD B0 B D kD own (loc.set k cs') ids (H.put (ids k) (.cells .fix cs')) := by
  have hlt := (List.getElem?_eq_some_iff.1 hk).1
  refine ⟨f.fr.store hk, f.extD.put _ (f.newD k hlt hD), ?_, ?_, ?_⟩
  · intro j h1; rw [List.length_set] at h1; exact f.newD j h1
  · intro j h1; rw [List.length_set] at h1; exact f.oldD j h1
  · rw [List.length_set]; exact f.kle

/-- The rest of a region, in its row's order. -/
def WD (P : Program) (n : NN) (B0 B D : Hp) (kD : Nat) (own : List OwnE) (a : Array Oper) (fl : Bool) (m i : Nat) (k : KK) (Q : Ex → SS → Prop) (x : VS) : Prop :=
  ∀ ids H s0, s0.H = D → WFD B0 B D kD own x.loc ids H → JD P a fl s0 m i (fun s' => (fl = true → Ext s0.H s'.H) ∧ JK P k Q s') (x.ss ids n H)

section rules
variable {P : Program} {Q : Ex → SS → Prop} {n : NN} {B0 B D : Hp} {kD : Nat} {own : List OwnE} {k : KK} {a : Array Oper} {fl : Bool}

def DOut.okW (P : Program) (n : NN) (B0 B D : Hp) (kD : Nat) (own : List OwnE) (a : Array Oper) (fl : Bool) (k : KK) (Q : Ex → SS → Prop) : DOut → Prop
  | .done x => WJ P n B0 B own k Q x
  | .hard m i x => WD P n B0 B D kD own a fl (m + 1) i k Q x
  | .cmp m i x => WD P n B0 B D kD own a fl (m + 1) i k Q x
  | .call f args d m i x => ∀ ids H s0, s0.H = D → WFD B0 B D kD own x.loc ids H → SCall P f (args.map (den ids)) H fun
      | .ret v, H' => ∃ s', putS (x.ss ids n H) d v H' = some s' ∧ JD P a fl s0 m (i + 1) (fun s' => (fl = true → Ext s0.H s'.H) ∧ JK P k Q s') s'
      | .panic _, _ => False
  | .stuck => False

theorem eSym_ok : ∀ (m i : Nat) {x : VS}, (dSym P n a fl kD m i x).okW P n B0 B D kD own a fl k Q → WD P n B0 B D kD own a fl m i k Q x
  | 0, i, x, h => fun ids H s0 h0 f => JD.nil ⟨fun _ => by show Ext s0.H H; rw [h0]; exact f.extD, h ids H f.fr⟩
  | m + 1, i, x, h => by
    unfold dSym at h
    split at h
    · exact h.elim
    · rename_i o ho
      split at h
      · rename_i hsd hwf
        split at h
        · exact h.elim
        · rename_i hg
          split at h
          · rename_i x' hp
            intro ids H s0 h0 f
            obtain ⟨p1, p2, p3, p4⟩ := putV_eq ids H H hp
            refine JD.val (s' := x'.ss ids n H) (by unfold doOp; simp only [ho, gdV_eq ids n H hg]; rw [show (x.ss ids n H).H = H from rfl, show (undef : Value) = den ids (.v undef) from rfl, p1]) (sideV_ok h0 ho (f.frD x.cl x.kB) (wfV_ok hwf) hsd) (eSym_ok m (i + 1) h ids H s0 h0 ?_)
            rw [p2]; exact f
          · exact h.elim
        · rename_i hg
          split at h
          · exact h
          · exact h
          · exact h.elim
          · rename_i v he
            split at h
            · rename_i hd
              split at h
              · rename_i x' hp
                intro ids H s0 h0 f
                obtain ⟨p1, p2, p3, p4⟩ := putV_eq ids H H hp
                refine JD.val (s' := x'.ss ids n H) ?_ (sideV_ok h0 ho (f.frD x.cl x.kB) (wfV_ok hwf) hsd) (eSym_ok m (i + 1) h ids H s0 h0 (by rw [p2]; exact f))
                unfold doOp
                simp only [ho, gdV_eq ids n H hg, hd]
                rw [show (x.ss ids n H).H = H from rfl, opV_val (n := n) he (f.fr.fr0 _ _)]
                simp only; rw [p1]
              · exact h.elim
            · exact h.elim
          · rename_i cs he
            split at h
            · rename_i hd
              rename_i l loc cl kB
              split at h
              · rename_i x' hp
                intro ids H s0 h0 f
                obtain ⟨e1, e2⟩ := opV_new (n := n) (H := H) (ids := ids) he
                have hden : denE (fun k => if k = loc.length then H.next else ids k) l = denE ids l := denE_apart (k := loc.length) (fun j hj => by simp [hj]) e2
                obtain ⟨p1, p2, p3, p4⟩ := putV_eq (fun k => if k = loc.length then H.next else ids k) (H.alloc (.cells .fix cs)) (H.alloc (.cells .fix cs)) hp
                refine JD.val (s' := x'.ss (fun k => if k = loc.length then H.next else ids k) n (H.alloc (.cells .fix cs))) ?_ (sideV_ok h0 ho (f.frD cl kB) (wfV_ok hwf) hsd) (eSym_ok m (i + 1) h _ _ s0 h0 (by rw [p2]; exact f.alloc cs))
                unfold doOp
                have hg' := gdV_eq ids n H hg
                simp only [ho, hg', hd]
                rw [show (VS.ss ⟨l, loc, cl, kB⟩ ids n H).H = H from rfl, e1]
                simp only [newD]
                have p1' : putS (VS.ss ⟨l, loc, cl, kB⟩ ids n H) o.dst (.pointer (some ⟨H.next, 0, none⟩)) (H.alloc (.cells .fix cs)) = some (x'.ss (fun k => if k = loc.length then H.next else ids k) n (H.alloc (.cells .fix cs))) := by
                  rw [← p1]
                  simp only [VS.ss, hden, den, if_true]
                  cases o.dst <;> rfl
                rw [p1']
              · exact h.elim
            · exact h.elim
          · rename_i j cs he
            split at h
            · rename_i hd hkd
              rename_i l loc cl kB
              split at h
              · rename_i x' hp
                intro ids H s0 h0 f
                obtain ⟨cs0, e0, e1⟩ := opV_upd (n := n) he (f.fr.fr0 cl kB)
                obtain ⟨p1, p2, p3, p4⟩ := putV_eq ids (H.put (ids j) (.cells .fix cs)) (H.put (ids j) (.cells .fix cs)) hp
                refine JD.val (s' := x'.ss ids n (H.put (ids j) (.cells .fix cs))) ?_ (sideV_ok h0 ho (f.frD cl kB) (wfV_ok hwf) hsd) (eSym_ok m (i + 1) h _ _ s0 h0 (by rw [p2]; exact f.store e0 (Nat.le_of_ble_eq_true hkd)))
                unfold doOp
                have hg' := gdV_eq ids n H hg
                simp only [ho, hg', hd]
                rw [show (VS.ss ⟨l, loc, cl, kB⟩ ids n H).H = H from rfl, e1]
                simp only
                have p1' : putS (VS.ss ⟨l, loc, cl, kB⟩ ids n H) o.dst undef (H.put (ids j) (.cells .fix cs)) = some (x'.ss ids n (H.put (ids j) (.cells .fix cs))) := by
                  rw [← p1]
                  cases o.dst <;> rfl
                rw [p1']
              · exact h.elim
            · exact h.elim
          · rename_i f' args he
            split at h
            · rename_i hd
              split at h
              · rename_i x' hp
                intro ids H s0 h0 f
                obtain ⟨p1, _⟩ := putV_eq ids H H hp
                refine JD.call (f := f') (args := args.map (den ids)) (d := o.dst) ?_ (sideV_ok h0 ho (f.frD x.cl x.kB) (wfV_ok hwf) hsd) (h ids H s0 h0 f)
                unfold doOp
                simp only [ho, gdV_eq ids n H hg, hd]
                rw [show (x.ss ids n H).H = H from rfl, opV_enter (n := n) (H := H) (ids := ids) he]
                simp only
                rw [show (undef : Value) = den ids (.v undef) from rfl, p1]
              · exact h.elim
            · exact h.elim
      · exact h


/-- A region that draws, no reading of which floats. -/
theorem WJ.dr {k' : KK} {x x' : VS} {id m : Nat} (N : Nat) (hs : vSym P n N k x = .draw id a k' x') (hmix : P.follows .mixedOrders = true) (hok : okDraw P a = true) (hfl : flOf P a = false) (hm : a.size = m)
    (h : WD P n B0 B B0 0 own a false m 0 k' Q x') : WJ P n B0 B own k Q x := by
  refine WJ.sym N hs fun ids H fr => ?_
  refine J.draw hmix hm hok hfl ?_
  have := h ids H { x'.ss ids n H with H := B0 } rfl ⟨fr, fr.ext0, fun j h1 _ => (fr.here j x'.loc[j] (List.getElem?_eq_getElem h1)).2.2, fun j _ h2 => by omega, Nat.zero_le _⟩
  exact JD.any (fun s h => ⟨fun q => (by cases q), h.2⟩) this
/-- A region that draws, some readings of which float. -/
theorem WJ.drF {k' : KK} {x : VS} {id m : Nat} {l : VEnv} {loc : List (List Value)} {cl : Bool} {kB : Nat} (N : Nat) (hs : vSym P n N k x = .draw id a k' ⟨l, loc, cl, kB⟩) (hmix : P.follows .mixedOrders = true) (hok : okDraw P a = true) (hfl : flOf P a = true) (hm : a.size = m)
    (h : ∀ D, Ext B0 D → Abv 0 B D → WD P n B0 B D loc.length own a true m 0 k' Q ⟨l, loc, cl, kB⟩) : WJ P n B0 B own k Q x := by
  refine WJ.sym N hs fun ids H fr => ?_
  refine J.draw hmix hm hok hfl ?_
  exact h H fr.ext0 fr.abv ids H _ rfl (WFD.start fr)

theorem WD.sym {m i : Nat} {x : VS} {o : DOut} (hs : dSym P n a fl kD m i x = o) (h : o.okW P n B0 B D kD own a fl k Q) : WD P n B0 B D kD own a fl m i k Q x := eSym_ok m i (by rw [hs]; exact h)
theorem WD.done {m i : Nat} {x x' : VS} (hs : dSym P n a fl kD m i x = .done x') (h : WJ P n B0 B own k Q x') : WD P n B0 B D kD own a fl m i k Q x := WD.sym hs h
theorem WFD.call {loc : List (List Value)} {ids : Nat → Nat} {H H' : Hp} (f : WFD B0 B D kD own loc ids H) (e : Ext H H') : ∃ B', WFD B0 B' D kD own loc ids H' ∧ Abv 0 B B' ∧ Abv H.next H' B' ∧ H.next ≤ B'.next ∧ Itv B B' := by
  obtain ⟨B', h1, h2, h3, h4⟩ := f.fr.call e
  exact ⟨B', ⟨h1, f.extD.trans e, f.newD, f.oldD, f.kle⟩, h2, h3, h4⟩
/-- A call that returns. -/
theorem WD.cl {m m' i i' : Nat} {x : VS} {f : FuncId} {args : List SV} {d : Option Tmp} {R : Nat → Hp → Value → Prop} {l : VEnv} {loc : List (List Value)} {cl : Bool} {kB : Nat} (hR : ∀ {m n : Nat} {H B : Hp} {v : Value}, m ≤ n → Abv n H B → R n H v → R m B v) (hs : dSym P n a fl kD m i x = .call f args d m' i' ⟨l, loc, cl, kB⟩)
    (hc : ∀ ids H, WF B0 B own loc ids H → SCall P f (args.map (den ids)) H (Ret fun v H' => Ext H H' ∧ R H.next H' v))
    (hk : ∀ v B', Abv 0 B B' ∧ Itv B B' → R B0.next B' v → ∃ x'', putV ⟨l, loc, true, 0⟩ n d (.v v) = some x'' ∧ WD P n B0 B' D kD own a fl m' (i' + 1) k Q x'') : WD P n B0 B D kD own a fl m i k Q x := by
  refine WD.sym hs fun ids H s0 h0 f => ?_
  refine (hc ids H f.fr).mono fun e H' ⟨v, h1, h2, h3⟩ => ?_
  subst h1
  obtain ⟨B', g1, g2, g3, g4⟩ := f.call h2
  obtain ⟨y, hp, h⟩ := hk v B' ⟨g2, g4.2⟩ (hR f.fr.ext0.next g3 h3)
  obtain ⟨p1, p2, p3, p4⟩ := putV_eq ids H H' hp
  refine ⟨y.ss ids n H', ?_, h ids H' s0 h0 (by rw [p2]; exact g1)⟩
  rw [← p1]; cases d <;> rfl
/-- An operation that gives a value and leaves memory as it is. -/
theorem WD.hd {m m' i i' : Nat} {x x' x'' : VS} {o : Oper} {v : Value} (hs : dSym P n a fl kD m i x = .hard m' i' x') (ho : a[i']? = some o) (hg : gdV a x'.l o = some true) (hd : notDefer o.op = true)
    (hsd : ∀ ids H (s0 : SS), s0.H = D → WFD B0 B D kD own x'.loc ids H → side P a fl s0.st i' (x'.ss ids n H).st)
    (he : ∀ ids H, WF B0 B own x'.loc ids H → opD P H (evS P (x'.ss ids n H)) o = some (.val v H)) (hp : putV x' n o.dst (.v v) = some x'') (h : WD P n B0 B D kD own a fl m' (i' + 1) k Q x'') : WD P n B0 B D kD own a fl m i k Q x := by
  refine WD.sym hs fun ids H s0 h0 f => ?_
  obtain ⟨p1, p2, p3, p4⟩ := putV_eq ids H H hp
  refine JD.val (s' := x''.ss ids n H) ?_ (hsd ids H s0 h0 f) (h ids H s0 h0 (by rw [p2]; exact f))
  unfold doOp
  simp only [ho, gdV_eq ids n H hg, hd]
  rw [show (x'.ss ids n H).H = H from rfl, he ids H f.fr]
  simp only; rw [show v = den ids (.v v) from rfl, p1]
/-- A load from a place that was there when the region began. -/
theorem side_load {i b off : Nat} {o : Oper} {t : TypeId} {z : Operand} {s : SS} {x : VS} {loc : List (List Value)} {ids : Nat → Nat} {H : Hp} (ho : a[i]? = some o) (hop : o.op = .load t z) (hz : evV P x.l z = some (.v (.pointer (some ⟨b, off, none⟩)))) (hb : b < D.next) (h0 : s.H = D) (f : WFD B0 B D kD own loc ids H) : side P a fl s.st i (x.ss ids n H).st := by
  intro hfl
  refine ⟨by show Ext s.H H; rw [h0]; exact f.extD, fun hf o' ho' b' hb' => ?_⟩
  rw [ho] at ho'; cases ho'
  rw [hop] at hb'
  simp only [readBlk] at hb'
  rw [evS_eq, evV_eq P x ids n H hz] at hb'
  simp only [den, blkOf, Option.some.injEq] at hb'
  subst hb'
  show b < s.H.next
  rw [h0]; exact hb
/-- An operation that reads no memory. -/
theorem side_pure {i : Nat} {o : Oper} {s : SS} {x : VS} {loc : List (List Value)} {ids : Nat → Nat} {H : Hp} (ho : a[i]? = some o) (hr : isRead P o = false) (h0 : s.H = D) (f : WFD B0 B D kD own loc ids H) : side P a fl s.st i (x.ss ids n H).st := by
  intro hfl
  refine ⟨by show Ext s.H H; rw [h0]; exact f.extD, fun hf => ?_⟩
  unfold floating at hf
  rw [ho] at hf
  simp [hr] at hf
/-- A comparison of plain values. -/
theorem WD.cv {m m' i i' : Nat} {x x' x1 : VS} {o : Oper} {b : Bool} {H0 : Hp} (hs : dSym P n a fl kD m i x = .cmp m' i' x') (ho : a[i']? = some o) (hg : gdV a x'.l o = some true) (hd : notDefer o.op = true) (hp : o.op.operands.toList.all (isPlain P x'.l) = true) (hc : cls P o.op = some .pure)
    (he : opD P ⟨.nil, 0, 0⟩ (evPlain P x'.l) o = some (.val (.bool b) H0)) (hp1 : putV x' n o.dst (.v (.bool b)) = some x1)
    (h1 : WD P n B0 B D kD own a fl m' (i' + 1) k Q x1) : WD P n B0 B D kD own a fl m i k Q x := by
  refine WD.sym hs fun ids H s0 h0 f => ?_
  have hgen : genV P x' o = .val (.v (.bool b)) := by unfold genV; simp only [hp, hc, he]
  have e1 := genV_ok (ids := ids) (n := n) (H := H) hgen
  obtain ⟨p1, p2, p3, p4⟩ := putV_eq ids H H hp1
  refine JD.val (s' := x1.ss ids n H) ?_ (side_bin ho hc h0 (f.frD x'.cl x'.kB)) (h1 ids H s0 h0 (by rw [p2]; exact f))
  unfold doOp
  simp only [ho, gdV_eq ids n H hg, hd]
  rw [show (x'.ss ids n H).H = H from rfl, e1]
  simp only; rw [p1]
theorem WD.ci {m m' i i' : Nat} {x x' x1 x2 : VS} {o : Oper} {H0 : Hp} {α ρ : Type} {r : ρ} {c : Prop} [Decidable c] {X Y : Option α} {K : α → Option ρ} (hr : Option.bind (if c then X else Y) K = some r) (hs : dSym P n a fl kD m i x = .cmp m' i' x') (ho : a[i']? = some o) (hg : gdV a x'.l o = some true) (hd : notDefer o.op = true) (hp : o.op.operands.toList.all (isPlain P x'.l) = true) (hc : cls P o.op = some .pure)
    (he : opD P ⟨.nil, 0, 0⟩ (evPlain P x'.l) o = some (.val (.bool (decide c)) H0)) (hp1 : putV x' n o.dst (.v (.bool true)) = some x1) (hp2 : putV x' n o.dst (.v (.bool false)) = some x2)
    (h1 : c → Option.bind X K = some r → WD P n B0 B D kD own a fl m' (i' + 1) k Q x1) (h2 : ¬c → Option.bind Y K = some r → WD P n B0 B D kD own a fl m' (i' + 1) k Q x2) : WD P n B0 B D kD own a fl m i k Q x := by
  by_cases q : c
  · rw [if_pos q] at hr
    exact WD.cv hs ho hg hd hp hc he (by rw [decide_eq_true q]; exact hp1) (h1 q hr)
  · rw [if_neg q] at hr
    exact WD.cv hs ho hg hd hp hc he (by rw [decide_eq_false q]; exact hp2) (h2 q hr)
theorem WD.cn {m m' i i' : Nat} {x x' x1 x2 : VS} {o : Oper} {H0 : Hp} {α ρ : Type} {r : ρ} {c : Prop} [Decidable c] {X Y : Option α} {K : α → Option ρ} (hr : Option.bind (if c then Y else X) K = some r) (hs : dSym P n a fl kD m i x = .cmp m' i' x') (ho : a[i']? = some o) (hg : gdV a x'.l o = some true) (hd : notDefer o.op = true) (hp : o.op.operands.toList.all (isPlain P x'.l) = true) (hc : cls P o.op = some .pure)
    (he : opD P ⟨.nil, 0, 0⟩ (evPlain P x'.l) o = some (.val (.bool (!decide c)) H0)) (hp1 : putV x' n o.dst (.v (.bool true)) = some x1) (hp2 : putV x' n o.dst (.v (.bool false)) = some x2)
    (h1 : ¬c → Option.bind X K = some r → WD P n B0 B D kD own a fl m' (i' + 1) k Q x1) (h2 : c → Option.bind Y K = some r → WD P n B0 B D kD own a fl m' (i' + 1) k Q x2) : WD P n B0 B D kD own a fl m i k Q x := by
  by_cases q : c
  · rw [if_pos q] at hr
    exact WD.cv hs ho hg hd hp hc he (by rw [decide_eq_true q]; exact hp2) (h2 q hr)
  · rw [if_neg q] at hr
    exact WD.cv hs ho hg hd hp hc he (by rw [decide_eq_false q]; exact hp1) (h1 q hr)
end rules
end Go.Det

set_option linter.unusedSimpArgs false
set_option linter.unusedVariables false
namespace Go.Det
open Go Go.RowKit

/-! ## 36. Equality of structs; greatest and least numbers -/
theorem pureRun_bind {α β : Type} (P : Program) (f : α → Sem β) : ∀ s : Sem α, pureRun P (s >>= f) = (pureRun P s).bind fun a => pureRun P (f a)
  | .pure a => rfl
  | .program k => by
    show pureRun P (Sem.program fun p => Sem.bind (k p) f) = _
    simp only [pureRun]
    exact pureRun_bind P f (k P)
  | .load _ _ _ | .store _ _ _ _ | .new _ _ | .shape _ _ | .freeze _ _ _ | .frozen _ _ | .getObj _ _ | .setObj _ _ _ | .choose _ _ | .sys _ _ | .mark _ _ | .halt _ => rfl

/-- Equality as one Bool, by the parts. -/
def eqL {α : Type} (h : α → Option Bool) : List α → Option Bool
  | [] => some true
  | x :: l => match h x, eqL h l with
    | some a, some b => some (a && b)
    | _, _ => none
def part2 (P : Program) (t : TypeId) (xs ys : Array Value) (off : Nat) : Option (Value × Value) :=
  match pureRun P (part t xs off), pureRun P (part t ys off) with
  | some x, some y => some (x, y)
  | _, _ => none
def eqT (P : Program) : Nat → TypeId → Value → Value → Option Bool
  | 0, _, _, _ => none
  | d + 1, t, x, y =>
    match P.underlying t, x, y with
    | some .bool, .bool a, .bool b => some (a == b)
    | some (.int _), .int k a, .int k' b => if k = k' then some (a == b) else none
    | some .string, .string a, .string b => some (a == b)
    | some (.struct fields), .agg xs, .agg ys =>
      if P.stoodInHeld t = true then none else
      if (fields.toList.all fun f => f.name != "_") = true then eqL (fun f : Field => match part2 P f.type xs ys f.offset with | some (x, y) => eqT P d f.type x y | none => none) fields.toList else none
    | some (.array len elem), .agg xs, .agg ys =>
      match pureRun P (sizeOf elem) with
      | some n => eqL (fun i : Nat => match part2 P elem xs ys (i * n) with | some (x, y) => eqT P d elem x y | none => none) (List.range' 0 len 1)
      | none => none
    | _, _, _ => none

theorem pureRun_underlying {P : Program} {t : TypeId} {d : TypeDesc} (h : P.underlying t = some d) : pureRun P (underlying t) = some d := by
  show pureRun P (Sem.program fun p => Sem.bind (Sem.pure p) _) = _
  simp only [pureRun, Sem.bind, h]; rfl

theorem loopF {P : Program} {α : Type} (g : α → Sem Bool) (h : α → Option Bool) (hg : ∀ x b, h x = some b → pureRun P (g x) = some b) (nm : α → Prop) :
    ∀ (l : List α) (hn : ∀ x ∈ l, nm x) (b : Bool), eqL h l = some b →
    ∀ (B : α → (Option Bool × Unit) → Sem (ForInStep (Option Bool × Unit))) (hB : ∀ x s, nm x → pureRun P (B x s) = (pureRun P (g x)).bind fun r => some (bif r then ForInStep.yield (none, ()) else ForInStep.done (some false, ()))) (F : (Option Bool × Unit) → Sem Bool) (hF1 : F (none, ()) = pure true) (hF2 : ∀ r, F (some r, ()) = pure r),
    pureRun P (forIn l (none, ()) B >>= F) = some b := by
  intro l
  induction l with
  | nil =>
    intro hn b hb B hB F hF1 hF2
    cases hb
    show pureRun P (F (none, ())) = _
    rw [hF1]; rfl
  | cons x l ih =>
    intro hn b hb B hB F hF1 hF2
    unfold eqL at hb
    split at hb
    · rename_i a c h1 h2
      cases hb
      have hx := hg x a h1
      rw [List.forIn_cons]
      simp only [pureRun_bind, hB x _ (hn x (List.mem_cons_self ..)), hx, Option.bind_some]
      cases a with
      | false =>
        show pureRun P (F (some false, ())) = _
        rw [hF2]; rfl
      | true =>
        have := ih (fun y hy => hn y (List.mem_cons_of_mem _ hy)) c h2 B hB F hF1 hF2
        simp only [pureRun_bind] at this
        simp only [cond_true, Bool.true_and]
        exact this
    · cases hb

theorem eqT_ok {P : Program} : ∀ (d : Nat) {t : TypeId} {x y : Value} {b : Bool}, eqT P d t x y = some b → ∀ D, d ≤ D → pureRun P (Op.equalIn D t x y) = some b
  | 0, _, _, _, _, h, _, _ => by simp [eqT] at h
  | d + 1, t, x, y, b, h, 0, hD => by omega
  | d + 1, t, x, y, b, h, D + 1, hD => by
    have hd : d ≤ D := by omega
    have pk : ∀ (e : TypeId) (xs ys : Array Value) (off : Nat) (b : Bool), (match part2 P e xs ys off with | some (x, y) => eqT P d e x y | none => none) = some b →
        pureRun P (do let a ← part e xs off; let b ← part e ys off; Op.equalIn D e a b) = some b := by
      intro e xs ys off b hb
      simp only [pureRun_bind]
      split at hb
      · rename_i x y hp
        unfold part2 at hp
        split at hp
        · rename_i x' y' h1 h2
          cases hp
          simp only [h1, h2, Option.bind_some]
          exact eqT_ok d hb D hd
        · cases hp
      · cases hb
    unfold eqT at h
    unfold Op.equalIn
    simp only [pureRun_bind]
    split at h
    · rename_i hu; rw [pureRun_underlying hu]; exact h
    · rename_i hu; rw [pureRun_underlying hu]
      simp only [Option.bind_some]
      split at h
      · rename_i hk; rw [if_pos hk]; exact h
      · cases h
    · rename_i hu; rw [pureRun_underlying hu]; exact h
    · rename_i fields xs ys hu
      rw [pureRun_underlying hu]
      simp only [Option.bind_some]
      split at h
      · cases h
      · rename_i hst
        split at h
        · rename_i hn
          rw [pureRun_bind]
          show pureRun P (if P.stoodInHeld t = true then _ else _) = _
          rw [if_neg hst]
          rw [← Array.forIn_toList]
          refine loopF (P := P) (fun f : Field => do
              let a ← part f.type xs f.offset
              let b ← part f.type ys f.offset
              Op.equalIn D f.type a b) _ (fun f b hb => pk f.type xs ys f.offset b hb) (fun f => f.name ≠ "_") fields.toList
            (fun f hf => by
              have := List.all_eq_true.1 hn f hf
              simpa using this) b h _ ?_ _ rfl (fun _ => rfl)
          intro f s hf
          rw [if_pos hf]
          simp only [pureRun_bind, Option.bind_assoc]
          congr 1; funext a; congr 1; funext b; congr 1; funext r
          cases r <;> rfl
        · cases h
    · rename_i len elem xs ys hu
      rw [pureRun_underlying hu]
      simp only [Option.bind_some]
      rw [pureRun_bind]
      split at h
      · rename_i n hn
        rw [hn, Option.bind_some]
        rw [Std.Legacy.Range.forIn_eq_forIn_range']
        refine loopF (P := P) (fun i : Nat => do
            let a ← part elem xs (i * n)
            let b ← part elem ys (i * n)
            Op.equalIn D elem a b) _ (fun i b hb => pk elem xs ys (i * n) b hb) (fun _ => True) _ (fun _ _ => trivial) b ?_ _ ?_ _ rfl (fun _ => rfl)
        · simpa [Std.Legacy.Range.size] using h
        intro f s hf
        simp only [pureRun_bind, Option.bind_assoc]
        congr 1; funext a; congr 1; funext b; congr 1; funext r
        cases r <;> rfl
      · cases h
    · cases h

section ops
variable {P : Program} {H : Hp} {ev : Ev} {o : Oper}
theorem nilEq_agg {d : TypeDesc} {xs ys : Array Value} : nilEq d (.agg xs) (.agg ys) = none := by cases d <;> rfl
/-- '==' of structs and arrays. -/
theorem opD_eqS {t u : TypeId} {x y : Operand} {xs ys : List Value} {b : Bool} (ho : o.op = .binOp .eql t x y u) (hx : ev x = some (.agg ⟨xs⟩)) (hy : ev y = some (.agg ⟨ys⟩)) (hf : (flat (.agg ⟨xs⟩) && flat (.agg ⟨ys⟩)) = true) (hg : P.eqGuardType P.depth t = false) (h : eqT P 20 t (.agg ⟨xs⟩) (.agg ⟨ys⟩) = some b) : opD P H ev o = some (.val (.bool b) H) := by
  simp only [Bool.and_eq_true] at hf
  have he := eqT_ok 20 h Op.maxDepth (by decide)
  have hr : pureRun P (execOp (fun x => (ev x).getD undef) o) = some (.value (.bool b)) := by
    unfold execOp
    simp only [ho, hx, hy, Option.getD_some]
    have hq : pureRun P (eqGuard .eql t x y (.agg ⟨xs⟩) (.agg ⟨ys⟩)) = some () := by
      show pureRun P (if (!(P.eqGuardType P.depth t)) = true then _ else _) = _
      rw [hg]; rfl
    have hb : pureRun P (binOp .eql t (.agg ⟨xs⟩) (.agg ⟨ys⟩)) = some (.bool b) := by
      show pureRun P (Op.equalIn Op.maxDepth t (.agg ⟨xs⟩) (.agg ⟨ys⟩) >>= fun r => pure (Value.bool r)) = _
      rw [pureRun_bind, he]; rfl
    simp only [pureRun_bind, hq, hb, Option.bind_some]; rfl
  have hn : nilD P .eql t (.agg ⟨xs⟩) (.agg ⟨ys⟩) = none := by
    unfold nilD
    split
    · rw [nilEq_agg]
    · rfl
  have hgd : genD P ev o = some (.bool b) := by
    unfold genD
    rw [if_pos (by simp only [ho, Op.operands]; simp [hx, hy, hf.1, hf.2])]
    simp only [hr]
    rfl
  unfold opD
  simp only [ho, hx, hy]
  unfold binD
  simp only [hn, hgd]
theorem opD_neS {t u : TypeId} {x y : Operand} {xs ys : List Value} {b : Bool} (ho : o.op = .binOp .neq t x y u) (hx : ev x = some (.agg ⟨xs⟩)) (hy : ev y = some (.agg ⟨ys⟩)) (hf : (flat (.agg ⟨xs⟩) && flat (.agg ⟨ys⟩)) = true) (hg : P.eqGuardType P.depth t = false) (h : eqT P 20 t (.agg ⟨xs⟩) (.agg ⟨ys⟩) = some b) : opD P H ev o = some (.val (.bool (!b)) H) := by
  simp only [Bool.and_eq_true] at hf
  have he := eqT_ok 20 h Op.maxDepth (by decide)
  have hr : pureRun P (execOp (fun x => (ev x).getD undef) o) = some (.value (.bool (!b))) := by
    unfold execOp
    simp only [ho, hx, hy, Option.getD_some]
    have hq : pureRun P (eqGuard .neq t x y (.agg ⟨xs⟩) (.agg ⟨ys⟩)) = some () := by
      show pureRun P (if (!(P.eqGuardType P.depth t)) = true then _ else _) = _
      rw [hg]; rfl
    have hb : pureRun P (binOp .neq t (.agg ⟨xs⟩) (.agg ⟨ys⟩)) = some (.bool (!b)) := by
      show pureRun P (Op.equalIn Op.maxDepth t (.agg ⟨xs⟩) (.agg ⟨ys⟩) >>= fun r => pure (Value.bool (!r))) = _
      rw [pureRun_bind, he]; rfl
    simp only [pureRun_bind, hq, hb, Option.bind_some]; rfl
  have hn : nilD P .neq t (.agg ⟨xs⟩) (.agg ⟨ys⟩) = none := by
    unfold nilD
    split
    · rw [nilEq_agg]
    · rfl
  have hgd : genD P ev o = some (.bool (!b)) := by
    unfold genD
    rw [if_pos (by simp only [ho, Op.operands]; simp [hx, hy, hf.1, hf.2])]
    simp only [hr]
    rfl
  unfold opD
  simp only [ho, hx, hy]
  unfold binD
  simp only [hn, hgd]

def gmax (a b : Int) : Int := if b > a then b else a
def gmin (a b : Int) : Int := if b < a then b else a
theorem gmax_eq (a b : Int) : gmax a b = max a b := by unfold gmax; omega
theorem gmin_eq (a b : Int) : gmin a b = min a b := by unfold gmin; omega
theorem opD_max {c : Call} {x y : Operand} {k : IntKind} {a b : Int} (ho : o.op = .call c) (hc : c.callee = .builtin .max) (ha : c.args = #[x, y]) (hx : ev x = some (.int k a)) (hy : ev y = some (.int k b)) : opD P H ev o = some (.val (.int k (gmax a b)) H) := by
  obtain ⟨cal, args, at_⟩ := c
  simp only at hc ha
  subst hc ha
  have hr : pureRun P (execOp (fun x => (ev x).getD undef) o) = some (.value (.int k (gmax a b))) := by
    unfold execOp
    simp only [ho]
    unfold resolve
    simp only [List.map_toArray, List.map_cons, List.map_nil, hx, hy, Option.getD_some]
    rfl
  have hgd : genD P ev o = some (.int k (gmax a b)) := by
    unfold genD
    rw [if_pos (by simp only [ho, Op.operands]; simp [Call.operands, hx, hy, flat])]
    simp only [hr]
    rfl
  unfold opD
  simp only [ho]
  unfold callD
  simp only [argsD, hx, hy, hgd]
  rfl
theorem opD_min {c : Call} {x y : Operand} {k : IntKind} {a b : Int} (ho : o.op = .call c) (hc : c.callee = .builtin .min) (ha : c.args = #[x, y]) (hx : ev x = some (.int k a)) (hy : ev y = some (.int k b)) : opD P H ev o = some (.val (.int k (gmin a b)) H) := by
  obtain ⟨cal, args, at_⟩ := c
  simp only at hc ha
  subst hc ha
  have hr : pureRun P (execOp (fun x => (ev x).getD undef) o) = some (.value (.int k (gmin a b))) := by
    unfold execOp
    simp only [ho]
    unfold resolve
    simp only [List.map_toArray, List.map_cons, List.map_nil, hx, hy, Option.getD_some]
    rfl
  have hgd : genD P ev o = some (.int k (gmin a b)) := by
    unfold genD
    rw [if_pos (by simp only [ho, Op.operands]; simp [Call.operands, hx, hy, flat])]
    simp only [hr]
    rfl
  unfold opD
  simp only [ho]
  unfold callD
  simp only [argsD, hx, hy, hgd]
  rfl
end ops
end Go.Det

set_option linter.unusedSimpArgs false
set_option linter.unusedVariables false
namespace Go.Det
open Go Go.RowKit

/-! ## 37. More rules for printed proofs -/
abbrev Sum3.b {α β γ : Type} (x : β) : α ⊕ (β ⊕ γ) := .inr (.inl x)
abbrev Sum3.c {α β γ : Type} (x : γ) : α ⊕ (β ⊕ γ) := .inr (.inr x)
section codes
variable {α : Type}
/-- A slice as a cell. -/
def slC (c : Cod α) : Cod (List α) :=
  { sz := 1, rep := fun n H cs l => ∃ a cap, cs = [.slice a l.length cap] ∧ SlF n H c a cap l
    len := by rintro n H cs x ⟨a, cap, e, _⟩; rw [e]; rfl
    mono := by rintro m n H H' cs x hm h ⟨a, cap, e, f⟩; exact ⟨a, cap, e, f.mono hm h⟩ }
end codes
section rules
variable {P : Program} {Q : Ex → SS → Prop} {n : NN} {B0 B D : Hp} {kD : Nat} {own : List OwnE} {k k' : KK} {x x' x'' : VS} {a : Array Oper} {fl : Bool} (N : Nat)
theorem WJ.adv (hs : vSym P n N k x = .go k' x') (h : WJ P n B0 B own k' Q x') : WJ P n B0 B own k Q x := WJ.sym N hs h
end rules
end Go.Det

set_option linter.unusedSimpArgs false
set_option linter.unusedVariables false
namespace Go.Det
open Go Go.RowKit

/-! ## 38. Slices of the function's own in regions that draw -/
section rules
variable {P : Program} {Q : Ex → SS → Prop} {n : NN} {B0 B D : Hp} {kD : Nat} {own : List OwnE} {k k' : KK} {x x' x'' : VS} {a : Array Oper} {fl : Bool} {m i : Nat} {loc : List (List Value)}

theorem WD.own' {own' : List OwnE} (h0 : ∀ ids H, WF B0 B own x.loc ids H → WF B0 B own' x.loc ids H) (h : WD P n B0 B D kD own' a fl m i k Q x) : WD P n B0 B D kD own a fl m i k Q x :=
  fun ids H s0 hs f => h ids H s0 hs ⟨h0 ids H f.fr, f.extD, f.newD, f.oldD, f.kle⟩
theorem WD.nw (sz : Nat) (h : WD P n B0 B D kD (own ++ [⟨none, 0, sz, []⟩]) a fl m i k Q x) : WD P n B0 B D kD own a fl m i k Q x := WD.own' (fun _ _ fr => fr.addNil sz) h
theorem WD.pop (O : List OwnE) (hO : own.take O.length = O) (h : WD P n B0 B D kD O a fl m i k Q x) : WD P n B0 B D kD own a fl m i k Q x := WD.own' (fun _ _ fr => fr.firsts (by simp) hO) h
theorem WD.ownAddr {α : Type} {enc : α → List Value} {sz cap : Nat} {ad : Option Addr} {L : List α} {ix : Int} {y : α} (j : Nat) (he : ∀ x, (enc x).length = sz) (hp : Nat.blt 0 sz = true) (hj : own[j]? = some ⟨ad, cap, sz, encL enc L⟩) (hi : rd L ix = some y) (h : ∀ b, ad = some ⟨b, 0, none⟩ → WD P n B0 B D kD own a fl m i k Q x) : WD P n B0 B D kD own a fl m i k Q x := by
  rw [Nat.blt_eq] at hp
  intro ids H s0 hs f
  rcases f.fr.mine j _ hj with ⟨h1, h2, h3⟩ | ⟨b, h1, _⟩
  · exfalso
    have := encL_length he L
    simp only at h3
    rw [h3] at this
    have h4 := (rd_some hi).2.1
    rcases Nat.mul_eq_zero.1 this.symm with w | w <;> omega
  · exact h b h1 ids H s0 hs f

/-- A literal. -/
theorem WD.bs {m' i' : Nat} {o : Oper} {l : VEnv} {cl : Bool} {kB t len sz : Nat} {parts : Array (Nat × Operand)} {pl : List (Nat × Value)} {cs : List Value} (hs : dSym P n a fl kD m i x = .hard m' i' ⟨l, loc, cl, kB⟩) (ho : a[i']? = some o) (hg : gdV a l o = some true) (hd : notDefer o.op = true)
    (hop : o.op = .buildSlice t len parts) (hpl : ∀ ids H, partsD (evS P (VS.ss ⟨l, loc, cl, kB⟩ ids n H)) parts.toList = some pl) (hbs : ∀ H, buildSliceD P H t len pl = some (.slice (some ⟨H.next, 0, none⟩) len len, H.alloc (.cells .fix cs))) (hsz : len * sz = cs.length) (hlt : Nat.blt len LOOSE = true)
    (hk : ∀ b, ∃ x'', putV ⟨l, loc, true, 0⟩ n o.dst (.v (.slice (some ⟨b, 0, none⟩) len len)) = some x'' ∧ WD P n B0 B D kD (own ++ [⟨some ⟨b, 0, none⟩, len, sz, cs⟩]) a fl m' (i' + 1) k Q x'') : WD P n B0 B D kD own a fl m i k Q x := by
  refine WD.sym hs fun ids H s0 h0 f => ?_
  obtain ⟨y, hp, h⟩ := hk H.next
  obtain ⟨p1, p2, p3, p4⟩ := putV_eq ids H (H.alloc (.cells .fix cs)) hp
  have hr : isRead P o = false := by unfold isRead; rw [hop]; rfl
  refine JD.val (s' := y.ss ids n (H.alloc (.cells .fix cs))) ?_ (side_pure ho hr h0 f) (h ids _ s0 h0 ?_)
  · unfold doOp
    have hg' := gdV_eq (x := ⟨l, loc, cl, kB⟩) ids n H hg
    simp only [ho, hg', hd]
    rw [show (VS.ss ⟨l, loc, cl, kB⟩ ids n H).H = H from rfl, opD_buildSlice hop (hpl ids H) (hbs H)]
    simp only
    have p1' : putS (VS.ss ⟨l, loc, cl, kB⟩ ids n H) o.dst (.slice (some ⟨H.next, 0, none⟩) len len) (H.alloc (.cells .fix cs)) = some (y.ss ids n (H.alloc (.cells .fix cs))) := by rw [← p1]; cases o.dst <;> rfl
    rw [p1']
  · rw [p2]
    exact ⟨f.fr.addFix cs len sz hsz (by rw [Nat.blt_eq] at hlt; exact hlt), f.extD.alloc _, f.newD, f.oldD, f.kle⟩

section flat
variable {α : Type} {enc : α → List Value}
theorem WD.ap {m' i' : Nat} {o : Oper} {l : VEnv} {cl : Bool} {kB t et sz by_ : Nat} {c : Call} {ad : Option Addr} {cap : Nat} {sv : Value} {L L2 : List α} (j : Nat) (hs : dSym P n a false 0 m i x = .hard m' i' ⟨l, loc, cl, kB⟩) (ho : a[i']? = some o) (hg : gdV a l o = some true) (hd : notDefer o.op = true)
    (hop : o.op = .call c) (hcal : c.callee = .builtin .append) (hargs : argsV P l c.args.toList = some [.v (.slice ad L.length cap), .v sv]) (hj : own[j]? = some ⟨ad, cap, sz, encL enc L⟩) (E : Elem P c t et sz by_) (hby : Nat.blt 0 by_ = true) (he : ∀ x, (enc x).length = sz) (h1 : ∀ x, ((enc x).all fun v => v.oneCell') = true)
    (hl : lenD sv = some L2.length) (hsrc : ∀ ids H, WF B0 B own loc ids H → srcD H sz sv L2.length = some (encL enc L2)) (hb : (L.length + L2.length) * by_ ≤ 140737488355328)
    (hk : ∀ a' cap', ∃ x'', putV ⟨l, loc, true, 0⟩ n o.dst (.v (.slice a' (L ++ L2).length cap')) = some x'' ∧ WD P n B0 B B0 0 (own.set j ⟨a', cap', sz, encL enc (L ++ L2)⟩) a false m' (i' + 1) k Q x'') : WD P n B0 B B0 0 own a false m i k Q x := by
  rw [Nat.blt_eq] at hby
  have hm : L.length + L2.length ≤ 140737488355328 := Nat.le_trans (Nat.le_mul_of_pos_right _ hby) hb
  refine WD.sym hs fun ids H s0 h0 f => ?_
  obtain ⟨a', cap', H', g1, g2⟩ := f.fr.append hj E (encL_length he L) hl (hsrc ids H f.fr) (encL_length he L2) (encL_all h1 L2) hb hm
  obtain ⟨y, hp, h⟩ := hk a' cap'
  obtain ⟨p1, p2, p3, p4⟩ := putV_eq ids H H' hp
  have he := opD_append hop hcal (show argsD (evS P (VS.ss ⟨l, loc, cl, kB⟩ ids n H)) c.args.toList = some [.slice ad L.length cap, sv] from argsV_eq (x := ⟨l, loc, cl, kB⟩) hargs) g1
  refine JD.val (s' := y.ss ids n H') ?_ side_no (h ids _ s0 h0 ?_)
  · unfold doOp
    have hg' := gdV_eq (x := ⟨l, loc, cl, kB⟩) ids n H hg
    simp only [ho, hg', hd]
    rw [show (VS.ss ⟨l, loc, cl, kB⟩ ids n H).H = H from rfl, he]
    simp only
    have p1' : putS (VS.ss ⟨l, loc, cl, kB⟩ ids n H) o.dst (.slice a' (L.length + L2.length) cap') H' = some (y.ss ids n H') := by rw [← p1, ← List.length_append]; cases o.dst <;> rfl
    rw [p1']
  · rw [p2]
    refine ⟨?_, ?_, f.newD, f.oldD, f.kle⟩
    · rw [encL_append]; exact g2
    · exact g2.ext0
end flat
end rules
end Go.Det

set_option linter.unusedSimpArgs false
set_option linter.unusedVariables false
namespace Go.Det
open Go Go.RowKit

/-! ## 39. A run out of nothing serves everywhere -/
theorem Rel.later {X : Cx} {w w' : World} {R : Ren} {H : Hp} (h : Rel X R H w) (k : Below w.heap.size w w') : Rel X R H w' := by
  have hlt : ∀ b i x, H.get b = some x → R b = some i → i.blk < w.heap.size := by
    intro b i x e r
    obtain ⟨j, r', br⟩ := h.blk b x e
    rw [r] at r'; cases r'
    rcases RI_own_of_BR br with ⟨q, _⟩ | ⟨_, q, _⟩
    · exact h.lt b i r q
    · exact Nat.lt_of_lt_of_le q h.size
  refine ⟨fun b x e => ?_, h.inj, h.free, fun b i r ho => Nat.lt_of_lt_of_le (h.lt b i r ho) k.size, h.below.trans (k.mono h.size), Nat.le_trans h.size k.size, h.glob, h.gle, ?_⟩
  · obtain ⟨i, r, br⟩ := h.blk b x e
    exact ⟨i, r, br.keep (Ren.le_refl R) (k.block _ (hlt b i x e r))⟩
  · intro q o hq
    obtain ⟨h1, h2, h3⟩ := h.kept q o hq
    exact ⟨h1, by rw [k.block q (Array.getElem?_eq_some_iff.1 h2).1]; exact h2, h3⟩

theorem SCall.closed {P : Program} {f : FuncId} {args : List Value} {v : Value} (h : SCall P f args (H0 P.globals.size) fun e _ => e = .ret v) (ha : flats args = true) (hv : flat v = true) (H : Hp) :
    SCall P f args H (Ret fun v' H' => H' = H ∧ v' = v) := by
  obtain ⟨en, H', q, k⟩ := h
  subst q
  refine ⟨.ret v, H, ⟨v, rfl, rfl, rfl⟩, fun X R w args' hG hR hargs cs => ?_⟩
  have he := flats_eq hargs ha
  subst he
  obtain ⟨R', w', en', f', l, r, e, hf, hs, hl⟩ := k ⟨w.heap.size, w, P.globals.size, fun _ => none⟩ (R0 P.globals.size) w args' ⟨rfl, (hG.laid.mono hR.below).le hR.size⟩ (Rel.start P w) (flats_refl ha) cs
  cases e with
  | @ret _ v' hv' =>
    have := flat_eq hv' hv
    subst this
    exact ⟨R, w', .ret v', f', Ren.le_refl R, hR.later r.below, .ret (flat_refl hv), hf, hs, hl⟩
/-- The kit's own contracts. -/
theorem SCall.ofCalls {P : Program} {f : FuncId} {args : List Value} {v : Value} (h : ∀ w, Calls P f ⟨args⟩ w fun e w' => e = .returned v ∧ Below w.heap.size w w') (ha : flats args = true) (hv : flat v = true) (H : Hp) :
    SCall P f args H (Ret fun v' H' => H' = H ∧ v' = v) := by
  refine ⟨.ret v, H, ⟨v, rfl, rfl, rfl⟩, fun X R w args' hG hR hargs cs => ?_⟩
  have he := flats_eq hargs ha
  subst he
  obtain ⟨e, w', fr, ⟨rfl, hb⟩, hc, hf, hl⟩ := h w cs
  exact ⟨R, w', .ret v, fr, Ren.le_refl R, hR.later hb, .ret (flat_refl hv), hf, hc, hl⟩
end Go.Det

set_option linter.unusedSimpArgs false
set_option linter.unusedVariables false
namespace Go.Det
open Go Go.RowKit

/-! ## 40. Functions that append to what they are handed -/
theorem WF.ext {B0 B : Hp} {own : List OwnE} {loc : List (List Value)} {ids : Nat → Nat} {H H' : Hp} (fr : WF B0 B own loc ids H) (e : Ext H H') : WF B0 B own loc ids H' :=
  ⟨fr.ext0.trans e, Nat.le_trans fr.nextB e.next, fr.trim, fun b x h => by rw [e.same b (Nat.lt_of_lt_of_le (fr.trim b x h) fr.nextB)]; exact fr.sub b x h,
    fun k cs h => by obtain ⟨h1, h2, h3⟩ := fr.here k cs h; exact ⟨by rw [e.same _ h2]; exact h1, Nat.lt_of_lt_of_le h2 e.next, h3⟩, fr.apart, fr.inj,
    fun j f h => (fr.mine j f h).keep (Nat.le_refl _) e.next fun b x hb hx => by rw [e.same b ((fr.mine j f h).blk_lt hb).2]; exact hx, fr.mineB, fr.mineI⟩
/-- In every frame the one slice has turned, and nothing else. -/
def Turns (H H' : Hp) (e e' : OwnE) : Prop := ∀ (B0 B : Hp) (own : List OwnE) (loc : List (List Value)) (ids : Nat → Nat) (j : Nat), WF B0 B own loc ids H → own[j]? = some e → WF B0 B (own.set j e') loc ids H'
theorem Turns.refl {H H' : Hp} (x : Ext H H') (e : OwnE) : Turns H H' e e := fun B0 B own loc ids j fr hj => by
  have : own.set j e = own := by
    obtain ⟨h1, h2⟩ := List.getElem?_eq_some_iff.1 hj
    subst h2
    exact List.set_getElem_self h1
  rw [this]; exact fr.ext x
theorem Turns.extL {A H H' : Hp} {e e' : OwnE} (x : Ext A H) (h : Turns H H' e e') : Turns A H' e e' := fun B0 B own loc ids j fr hj => h B0 B own loc ids j (fr.ext x) hj
theorem Turns.extR {A H H' : Hp} {e e' : OwnE} (h : Turns A H e e') (x : Ext H H') : Turns A H' e e' := fun B0 B own loc ids j fr hj => (h B0 B own loc ids j fr hj).ext x
theorem appendD_next {P : Program} {H H' : Hp} {ts : Array TypeId} {s x v : Value} (h1 : appendD P H ts s x = some (v, H')) : H.next ≤ H'.next := (appendD_lox h1).next
theorem Turns.append {P : Program} {H : Hp} {c : Call} {t et by_ len m : Nat} {e : OwnE} {sv : Value} {new : List Value} (he : e.ok 0 H) (E : Elem P c t et e.sz by_) (hcs : e.cs.length = len * e.sz) (hl : lenD sv = some m) (hs : srcD H e.sz sv m = some new) (hnew : new.length = m * e.sz)
    (hone : (new.all fun v => v.oneCell') = true) (hb : (len + m) * by_ ≤ 140737488355328) (hm : len + m ≤ 140737488355328) :
    ∃ a' cap' H', appendD P H c.argTypes (.slice e.a len e.cap) sv = some (.slice a' (len + m) cap', H') ∧ Turns H H' e ⟨a', cap', e.sz, e.cs ++ new⟩ ∧ H.next ≤ H'.next := by
  have fr0 : WF noHp noHp [e] [] (fun _ => 0) H := by
    refine ⟨noHp_ext H, Nat.zero_le _, fun b x h => (by cases h), fun b x h => (by cases h), fun k cs h => by simp at h, fun k h => by simp at h, fun j k h => by simp at h, ?_, ?_, ?_⟩
    · intro j f h
      cases j with
      | zero => simp at h; subst h; exact he
      | succ j => simp at h
    · intro j f b h hb
      exact ⟨rfl, fun k hk => by simp at hk⟩
    · intro i j f g b hi hj _ _
      have := lt_of_get hi; have := lt_of_get hj
      simp at *; omega
  obtain ⟨a', cap', H', h1, h2⟩ := fr0.append (j := 0) rfl E hcs hl hs hnew hone hb hm
  have hn := appendD_next h1
  refine ⟨a', cap', H', h1, fun B0 B own loc ids j fr hj => ?_, hn⟩
  obtain ⟨a2, c2, H2, g1, g2⟩ := fr.append hj E hcs hl hs hnew hone hb hm
  rw [h1] at g1
  cases g1
  exact g2

section rules
variable {P : Program} {Q : Ex → SS → Prop} {n : NN} {B0 B : Hp} {own : List OwnE} {k k' : KK} {x : VS}
/-- A call that may append to a slice of the function's own. -/
theorem WJ.co (N : Nat) {j : Nat} {e : OwnE} {f : FuncId} {args : List SV} {d : Option Tmp} {R : Value → OwnE → Prop} {l : VEnv} {loc : List (List Value)} {cl : Bool} {kB : Nat} (hs : vSym P n N k x = .call f args d k' ⟨l, loc, cl, kB⟩) (hj : own[j]? = some e)
    (hc : ∀ ids H, WF B0 B own loc ids H → e.ok 0 H → SCall P f (args.map (den ids)) H (Ret fun v H' => ∃ e', Turns H H' e e' ∧ R v e'))
    (hk : ∀ v e', R v e' → ∃ x'', putV ⟨l, loc, true, 0⟩ n d (.v v) = some x'' ∧ WJ P n B0 B (own.set j e') k' Q x'') : WJ P n B0 B own k Q x := by
  refine WJ.sym N hs fun ids H fr => ?_
  refine (hc ids H fr ((fr.mine j e hj).keep (Nat.zero_le _) (Nat.le_refl _) fun _ _ _ h => h)).mono fun en H' ⟨v, h1, e', h2, h3⟩ => ?_
  subst h1
  obtain ⟨y, hp, h⟩ := hk v e' h3
  obtain ⟨p1, p2, p3, p4⟩ := putV_eq ids H H' hp
  refine ⟨y.ss ids n H', ?_, h ids H' (by rw [p2]; exact h2 _ _ _ _ _ _ fr hj)⟩
  rw [← p1]; cases d <;> rfl
end rules
end Go.Det

set_option linter.unusedSimpArgs false
set_option linter.unusedVariables false
namespace Go.Det
open Go Go.RowKit

/-! ## 41. What a law is handed -/
def okI (k : IntKind) (n : Int) : Prop := (Lit.int k n).wf = true
section
variable {P : Program} {H : Hp} {t e : TypeId} {α : Type}
theorem Rd.int_inv {k : IntKind} {cs : List Value} (hu : P.underlying t = some (.int k)) (h : Rd P H t cs) : ∃ n, cs = [.int k n] ∧ okI k n := by
  cases h with
  | int n h hw => rw [hu] at h; cases h; exact ⟨n, rfl, hw⟩
  | bool b h => rw [hu] at h; cases h
  | str s h hw => rw [hu] at h; cases h
  | nilS h => rw [hu] at h; cases h
  | empty h => rw [hu] at h; cases h
  | slice b len cs h => rw [hu] at h; cases h
  | struct h => rw [hu] at h; cases h
  | array h => rw [hu] at h; cases h
theorem Rd.bool_inv {cs : List Value} (hu : P.underlying t = some .bool) (h : Rd P H t cs) : ∃ b, cs = [.bool b] := by
  cases h with
  | bool b h => exact ⟨b, rfl⟩
  | int n h hw => rw [hu] at h; cases h
  | str s h hw => rw [hu] at h; cases h
  | nilS h => rw [hu] at h; cases h
  | empty h => rw [hu] at h; cases h
  | slice b len cs h => rw [hu] at h; cases h
  | struct h => rw [hu] at h; cases h
  | array h => rw [hu] at h; cases h
theorem Rd.str_inv {cs : List Value} (hu : P.underlying t = some .string) (h : Rd P H t cs) : ∃ s : List UInt8, cs = [.string (bs s)] ∧ s.length ≤ reachBytes := by
  cases h with
  | str s h hw => exact ⟨s.data.toList, rfl, hw⟩
  | bool b h => rw [hu] at h; cases h
  | int n h hw => rw [hu] at h; cases h
  | nilS h => rw [hu] at h; cases h
  | empty h => rw [hu] at h; cases h
  | slice b len cs h => rw [hu] at h; cases h
  | struct h => rw [hu] at h; cases h
  | array h => rw [hu] at h; cases h
theorem Rd.struct_inv {fs : Array Field} {cs : List Value} (hu : P.underlying t = some (.struct fs)) (h : Rd P H t cs) : RdF P H fs.toList cs := by
  cases h with
  | struct h hcs => rw [hu] at h; cases h; exact hcs
  | bool b h => rw [hu] at h; cases h
  | int n h hw => rw [hu] at h; cases h
  | str s h hw => rw [hu] at h; cases h
  | nilS h => rw [hu] at h; cases h
  | empty h => rw [hu] at h; cases h
  | slice b len cs h => rw [hu] at h; cases h
  | array h => rw [hu] at h; cases h
theorem Rd.array_inv {n : Nat} {cs : List Value} (hu : P.underlying t = some (.array n e)) (h : Rd P H t cs) : RdN P H e n cs := by
  cases h with
  | array h hcs => rw [hu] at h; cases h; exact hcs
  | struct h hcs => rw [hu] at h; cases h
  | bool b h => rw [hu] at h; cases h
  | int n h hw => rw [hu] at h; cases h
  | str s h hw => rw [hu] at h; cases h
  | nilS h => rw [hu] at h; cases h
  | empty h => rw [hu] at h; cases h
  | slice b len cs h => rw [hu] at h; cases h
theorem RdF.cons_inv {f : Field} {fs : List Field} {cs : List Value} (h : RdF P H (f :: fs) cs) : ∃ c d, cs = c ++ d ∧ Rd P H f.type c ∧ RdF P H fs d := by
  cases h with
  | cons h hs => exact ⟨_, _, rfl, h, hs⟩
theorem RdF.nil_inv {cs : List Value} (h : RdF P H [] cs) : cs = [] := by cases h; rfl
theorem RdN.succ_inv {n : Nat} {cs : List Value} (h : RdN P H e (n + 1) cs) : ∃ c d, cs = c ++ d ∧ Rd P H e c ∧ RdN P H e n d := by
  cases h with
  | cons h hs => exact ⟨_, _, rfl, h, hs⟩
theorem RdN.zero_inv {cs : List Value} (h : RdN P H e 0 cs) : cs = [] := by cases h; rfl
theorem RdN.rep {c : Cod α} {ok : α → Prop} (he : ∀ cs, Rd P H e cs → ∃ x, c.rep 0 H cs x ∧ ok x) : ∀ {n : Nat} {cs : List Value}, RdN P H e n cs → ∃ l : List α, l.length = n ∧ RepL c 0 H cs l ∧ ∀ x ∈ l, ok x
  | 0, cs, h => by cases h; exact ⟨[], rfl, rfl, fun x h => by cases h⟩
  | n + 1, cs, h => by
    obtain ⟨c1, d, rfl, h1, h2⟩ := h.succ_inv
    obtain ⟨x, k1, k2⟩ := he c1 h1
    obtain ⟨l, l1, l2, l3⟩ := RdN.rep he h2
    refine ⟨x :: l, by simp [l1], ⟨c1, d, rfl, k1, l2⟩, fun y hy => ?_⟩
    rcases List.mem_cons.1 hy with rfl | hy
    · exact k2
    · exact l3 y hy
theorem Rd.sl_inv {c : Cod α} {ok : α → Prop} {cs : List Value} (hu : P.underlying t = some (.slice e)) (he : ∀ cs, Rd P H e cs → ∃ x, c.rep 0 H cs x ∧ ok x) (h : Rd P H t cs) :
    ∃ (l : List α) (a : Option Addr) (cap : Nat), cs = [.slice a l.length cap] ∧ SlF 0 H c a cap l ∧ (∀ x ∈ l, ok x) ∧ l.length * P.bytesOf e ≤ reachBytes ∧ l.length ≤ maxLen := by
  cases h with
  | nilS h => exact ⟨[], none, 0, rfl, SlF.nil, fun x h => (by cases h), by simp, Nat.zero_le _⟩
  | empty h => exact ⟨[], some ⟨0, 0, none⟩, EMPTY, rfl, .inr ⟨0, 0, [], rfl, rfl, .inl rfl⟩, fun x h => (by cases h), by simp, Nat.zero_le _⟩
  | slice b len cs h h0 hb hlt hcs hw hl =>
    rw [hu] at h; cases h
    obtain ⟨l, l1, l2, l3⟩ := RdN.rep he hcs
    subst l1
    exact ⟨l, some ⟨b, 0, none⟩, LOOSE, rfl, .inr ⟨b, 0, cs, rfl, l2, .inr ⟨Nat.zero_le _, hlt, .old, cs, hb, by simp, by simp⟩⟩, l3, hw, hl⟩
  | bool b h => rw [hu] at h; cases h
  | int n h hw => rw [hu] at h; cases h
  | str s h hw => rw [hu] at h; cases h
  | struct h hcs => rw [hu] at h; cases h
  | array h hcs => rw [hu] at h; cases h
theorem RdArgs.cons_inv {ts : List TypeId} {args : List Value} (h : RdArgs P H (t :: ts) args) : ∃ v vs, args = v :: vs ∧ Rd P H t v.cells.toList ∧ (match isAggD P t with | some true => ∃ cs, v = .agg cs | _ => v.cells.toList = [v]) ∧ RdArgs P H ts vs := by
  cases h with
  | cons h hv hs => exact ⟨_, _, rfl, h, hv, hs⟩
theorem RdArgs.nil_inv {args : List Value} (h : RdArgs P H [] args) : args = [] := by cases h; rfl
theorem RdArgs.scal {ts : List TypeId} {args : List Value} (h : RdArgs P H (t :: ts) args) (ht : isAggD P t = some false) : ∃ v vs, args = v :: vs ∧ Rd P H t [v] ∧ RdArgs P H ts vs := by
  obtain ⟨v, vs, h1, h2, h3, h4⟩ := h.cons_inv
  rw [ht] at h3
  simp only at h3
  rw [h3] at h2
  exact ⟨v, vs, h1, h2, h4⟩
theorem RdArgs.aggr {ts : List TypeId} {args : List Value} (h : RdArgs P H (t :: ts) args) (ht : isAggD P t = some true) : ∃ cs vs, args = .agg ⟨cs⟩ :: vs ∧ Rd P H t cs ∧ RdArgs P H ts vs := by
  obtain ⟨v, vs, h1, h2, h3, h4⟩ := h.cons_inv
  rw [ht] at h3
  obtain ⟨cs, rfl⟩ := h3
  exact ⟨cs.toList, vs, h1, h2, h4⟩
theorem okI64 {n : Int} (h : okI .i64 n) : -9223372036854775808 ≤ n ∧ n ≤ 9223372036854775807 := by
  simp [okI, Lit.wf, IntKind.min, IntKind.max, IntKind.signed, IntKind.bits] at h
  omega
end
end Go.Det
