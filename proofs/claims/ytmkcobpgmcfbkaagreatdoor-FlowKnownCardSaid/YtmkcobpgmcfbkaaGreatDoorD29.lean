import Derived.Test.YtmkcobpgmcfbkaaGreatDoorD28
set_option linter.unusedSimpArgs false
set_option linter.unusedVariables false
namespace Go.Det
open Go Go.RowKit
inductive SV0 where
  | v (x : Value)
  | p (k off : Nat)
inductive SV where
  | v (x : Value)
  | p (k off : Nat)
  | fn (f : FuncId) (caps : List SV0)
def den0 (ids : Nat → Nat) : SV0 → Value
  | .v x => x
  | .p k off => .pointer (some ⟨ids k, off, none⟩)
def den (ids : Nat → Nat) : SV → Value
  | .v x => x
  | .p k off => .pointer (some ⟨ids k, off, none⟩)
  | .fn f caps => .func (.func f) ⟨[]⟩ ⟨caps.map (den0 ids)⟩
abbrev VEnv := List (Nat × SV)
def lookV : VEnv → Nat → Option SV
  | [], _ => none
  | (t, v) :: r, u => match Nat.beq u t with | true => some v | false => lookV r u
def denE (ids : Nat → Nat) (l : VEnv) : Env := l.map fun x => (x.1, den ids x.2)
theorem look_denE (ids : Nat → Nat) : ∀ (l : VEnv) (t : Nat), look (denE ids l) t = (lookV l t).map (den ids)
  | [], _ => rfl
  | (t, v) :: r, u => by
    simp only [denE, List.map_cons, look, lookV]
    cases hb : Nat.beq u t with
    | true => rw [if_pos (Nat.eq_of_beq_eq_true hb)]; rfl
    | false => rw [if_neg (Nat.ne_of_beq_eq_false hb)]; exact look_denE ids r u
def apart0 (k : Nat) : SV0 → Bool
  | .v _ => true
  | .p j _ => !(Nat.beq j k)
def apartV (k : Nat) : SV → Bool
  | .v _ => true
  | .p j _ => !(Nat.beq j k)
  | .fn _ caps => caps.all (apart0 k)
def apartE (k : Nat) (l : VEnv) : Bool := l.all fun x => apartV k x.2
theorem den0_apart {k : Nat} {ids ids' : Nat → Nat} (h : ∀ j, j ≠ k → ids' j = ids j) : ∀ {x : SV0}, apart0 k x = true → den0 ids' x = den0 ids x
  | .v _, _ => rfl
  | .p j off, hx => by
    simp only [apart0, Bool.not_eq_true'] at hx
    simp only [den0, h j (Nat.ne_of_beq_eq_false hx)]
theorem den_apart {k : Nat} {ids ids' : Nat → Nat} (h : ∀ j, j ≠ k → ids' j = ids j) : ∀ {x : SV}, apartV k x = true → den ids' x = den ids x
  | .v _, _ => rfl
  | .p j off, hx => by
    simp only [apartV, Bool.not_eq_true'] at hx
    simp only [den, h j (Nat.ne_of_beq_eq_false hx)]
  | .fn f caps, hx => by
    simp only [apartV] at hx
    simp only [den]
    have : caps.map (den0 ids') = caps.map (den0 ids) := List.map_congr_left fun x hm => den0_apart h (List.all_eq_true.1 hx x hm)
    rw [this]
theorem denE_apart {k : Nat} {ids ids' : Nat → Nat} (h : ∀ j, j ≠ k → ids' j = ids j) {l : VEnv} (hl : apartE k l = true) : denE ids' l = denE ids l := by
  unfold denE
  refine List.map_congr_left fun x hm => ?_
  rw [den_apart h (List.all_eq_true.1 hl x hm)]
structure Fr (B0 B : Hp) (cl : Bool) (kB : Nat) (loc : List (List Value)) (ids : Nat → Nat) (H : Hp) : Prop where
  ext0 : Ext B0 H
  nextB : B.next ≤ H.next
  extB : cl = true → Ext B H
  here : ∀ k cs, loc[k]? = some cs → H.get (ids k) = some (.cells .fix cs) ∧ ids k < H.next ∧ B0.next ≤ ids k
  old : ∀ k, k < loc.length → kB ≤ k → B.next ≤ ids k
  inj : ∀ j k, j < loc.length → k < loc.length → ids j = ids k → j = k
def evV (P : Program) (l : VEnv) : Operand → Option SV
  | .tmp t => lookV l t
  | .const v => match flat v with | true => some (.v v) | false => none
  | .global g => match Nat.blt g P.globals.size with | true => some (.v (.pointer (some ⟨g, 0, none⟩))) | false => none
  | .func f => some (.v (.func (.func f) ⟨[]⟩ ⟨[]⟩))
structure VS where
  l : VEnv
  loc : List (List Value)
  cl : Bool
  kB : Nat
structure NN where
  num : Nat
  dok : Bool
def VS.ss (x : VS) (ids : Nat → Nat) (n : NN) (H : Hp) : SS := { l := denE ids x.l, n := n.num, H := H, defs := [], dok := n.dok }
theorem evV_eq (P : Program) (x : VS) (ids : Nat → Nat) (n : NN) (H : Hp) {o : Operand} {v : SV} (h : evV P x.l o = some v) : evS P (x.ss ids n H) o = some (den ids v) := by
  cases o with
  | tmp t => simp only [evV] at h; simp only [evS, VS.ss, look_denE, h, Option.map_some]
  | const c =>
    simp only [evV] at h
    split at h
    · rename_i hf; cases h; simp [evS, hf, den]
    · cases h
  | global g =>
    simp only [evV] at h
    split at h
    · rename_i hf; cases h
      rw [Nat.blt_eq] at hf
      simp [evS, hf, den]
    · cases h
  | func f => simp only [evV] at h; cases h; rfl
def gdV (a : Array Oper) (l : VEnv) (o : Oper) : Option Bool :=
  match o.guard with
  | none => some true
  | some (j, want) =>
    match a[j]? with
    | some oj =>
      match oj.dst with
      | some t =>
        match lookV l t with
        | some (.v (.bool true)) => some want
        | some (.v (.bool false)) => some !want
        | some (.v (.tuple ⟨[]⟩)) => some false
        | _ => none
      | none => none
    | none => none
theorem gdV_eq {a : Array Oper} {x : VS} {o : Oper} {b : Bool} (ids : Nat → Nat) (n : NN) (H : Hp) (h : gdV a x.l o = some b) : gdS a (x.ss ids n H) o = some b := by
  unfold gdV at h
  unfold gdS
  split at h
  · rename_i hg; rw [hg]; exact h
  · rename_i j want hg
    rw [hg]
    simp only
    split at h
    · rename_i oj hj
      rw [hj]; simp only
      split at h
      · rename_i t ht
        rw [ht]; simp only
        have : look (x.ss ids n H).l t = (lookV x.l t).map (den ids) := look_denE ids x.l t
        rw [this]
        split at h <;> rename_i hl <;> first | (rw [hl, ← h]; cases want <;> rfl) | cases h
      · cases h
    · cases h
def putV (x : VS) (n : NN) (d : Option Tmp) (v : SV) : Option VS :=
  match x, d with
  | x, none => some x
  | ⟨l, loc, cl, kB⟩, some t => match Nat.blt t n.num with
    | true => some ⟨(t, v) :: l, loc, cl, kB⟩
    | false => none
theorem putV_eq {x x' : VS} {n : NN} {d : Option Tmp} {v : SV} (ids : Nat → Nat) (H H' : Hp) (h : putV x n d v = some x') : putS (x.ss ids n H) d (den ids v) H' = some (x'.ss ids n H') ∧ x'.loc = x.loc ∧ x'.cl = x.cl ∧ x'.kB = x.kB := by
  obtain ⟨l, loc, cl, kB⟩ := x
  cases d with
  | none => simp only [putV, Option.some.injEq] at h; subst h; exact ⟨rfl, rfl, rfl, rfl⟩
  | some t =>
    simp only [putV] at h
    split at h
    · rename_i hb
      cases h
      refine ⟨?_, rfl, rfl, rfl⟩
      simp only [putS, VS.ss, hb]
      rfl
    · cases h
end Go.Det
