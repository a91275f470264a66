import Derived.Test.YtmkcobpgmcfbkaaGreatDoorD33
set_option linter.unusedSimpArgs false
set_option linter.unusedVariables false
namespace Go.Det
open Go Go.RowKit
structure FrD (B0 B D : Hp) (kD : Nat) (cl : Bool) (kB : Nat) (loc : List (List Value)) (ids : Nat → Nat) (H : Hp) : Prop where
  fr : Fr B0 B cl kB loc ids H
  extD : Ext D H
  newD : ∀ k, k < loc.length → kD ≤ k → D.next ≤ ids k
  oldD : ∀ k, k < loc.length → k < kD → ids k < D.next
  kle : kD ≤ loc.length
theorem FrD.start {B0 B : Hp} {cl : Bool} {kB : Nat} {loc : List (List Value)} {ids : Nat → Nat} {H : Hp} (fr : Fr B0 B cl kB loc ids H) : FrD B0 B H loc.length cl kB loc ids H :=
  ⟨fr, Ext.refl H, fun k h1 h2 => by omega, fun k h1 _ => (fr.here k loc[k] (List.getElem?_eq_getElem h1)).2.1, Nat.le_refl _⟩
theorem FrD.alloc {B0 B D : Hp} {kD : Nat} {cl : Bool} {kB : Nat} {loc : List (List Value)} {ids : Nat → Nat} {H : Hp} (f : FrD B0 B D kD cl kB loc ids H) (cs : List Value) :
    FrD B0 B D kD cl kB (loc ++ [cs]) (fun k => if k = loc.length then H.next else ids k) (H.alloc (.cells .fix cs)) := by
  refine ⟨f.fr.alloc cs, f.extD.alloc _, ?_, ?_, ?_⟩
  · intro k h1 h2
    simp only [List.length_append, List.length_cons, List.length_nil] at h1
    by_cases e : k = loc.length
    · subst e; simp only [if_true]; exact f.extD.next
    · simp only [if_neg e]; exact f.newD k (by omega) h2
  · intro k h1 h2
    have := f.kle
    simp only [if_neg (show ¬ k = loc.length by omega)]
    exact f.oldD k (by omega) h2
  · have := f.kle
    simp; omega
theorem FrD.store {B0 B D : Hp} {kD : Nat} {cl : Bool} {kB : Nat} {loc : List (List Value)} {ids : Nat → Nat} {H : Hp} (f : FrD B0 B D kD cl kB loc ids H) {k : Nat} {cs cs' : List Value} (hk : loc[k]? = some cs) (hD : kD ≤ k) :
    FrD B0 B D kD (match Nat.ble kB k with | true => cl | false => false) kB (loc.set k cs') ids (H.put (ids k) (.cells .fix cs')) := by
  have hlt := (List.getElem?_eq_some_iff.1 hk).1
  refine ⟨f.fr.store hk, f.extD.put _ (f.newD k hlt hD), ?_, ?_, ?_⟩
  · intro j h1; rw [List.length_set] at h1; exact f.newD j h1
  · intro j h1; rw [List.length_set] at h1; exact f.oldD j h1
  · rw [List.length_set]; exact f.kle
theorem FrD.call {B0 B D : Hp} {kD : Nat} {cl : Bool} {kB : Nat} {loc : List (List Value)} {ids : Nat → Nat} {H H' : Hp} (f : FrD B0 B D kD cl kB loc ids H) (e : Ext H H') : FrD B0 H' D kD true loc.length loc ids H' :=
  ⟨f.fr.upd (f.fr.updExt e), f.extD.trans e, f.newD, f.oldD, f.kle⟩
def VD (P : Program) (n : NN) (B0 B D : Hp) (kD : Nat) (a : Array Oper) (fl : Bool) (m i : Nat) (k : KK) (Q : Ex → SS → Prop) (x : VS) : Prop :=
  ∀ ids H s0, s0.H = D → FrD B0 B D kD x.cl x.kB x.loc ids H → JD P a fl s0 m i (fun s' => (fl = true → Ext s0.H s'.H) ∧ JK P k Q s') (x.ss ids n H)
def readV (P : Program) (l : VEnv) : Op → Option (Option SV)
  | .load _ a => some (evV P l a)
  | .slice _ x _ _ _ => some (evV P l x)
  | .convert _ _ x => some (evV P l x)
  | .call c => match c.args.toList with
    | x :: _ => some (evV P l x)
    | [] => none
  | _ => none
def sideR (kD : Nat) : Option (Option SV) → Bool
  | none => true
  | some (some (.p k _)) => Nat.blt k kD
  | some (some (.fn ..)) => true
  | some (some (.v v)) => match blkOf (some v) with
    | none => true
    | some _ => false
  | some none => false
def sideV (P : Program) (a : Array Oper) (fl : Bool) (kD : Nat) (i : Nat) (l : VEnv) (o : Oper) : Bool :=
  match fl with
  | false => true
  | true => match floating P a (masks a.toList []) i with
    | false => true
    | true => sideR kD (readV P l o.op)
theorem sideV_ok {P : Program} {a : Array Oper} {fl : Bool} {n : NN} {i kD : Nat} {x : VS} {o : Oper} {B0 B D : Hp} {ids : Nat → Nat} {H : Hp} {s0 : SS} (h0 : s0.H = D) (ho : a[i]? = some o) (f : FrD B0 B D kD x.cl x.kB x.loc ids H)
    (hw : ∀ k off, readV P x.l o.op = some (some (.p k off)) → k < x.loc.length) (h : sideV P a fl kD i x.l o = true) : side P a fl s0.st i (x.ss ids n H).st := by
  intro hfl
  subst hfl
  refine ⟨by show Ext s0.H H; rw [h0]; exact f.extD, fun hf o' ho' b hb => ?_⟩
  rw [ho] at ho'; cases ho'
  unfold sideV at h
  simp only [hf] at h
  have key : ∀ (y : Operand), blkOf (evOf P (x.ss ids n H).st y) = some b → sideR kD (some (evV P x.l y)) = true → (∀ k off, evV P x.l y = some (.p k off) → k < x.loc.length) → b < s0.st.H.next := by
    intro y hy hc hk
    rw [evS_eq] at hy
    cases he : evV P x.l y with
    | none => rw [he] at hc; cases hc
    | some sv =>
      rw [evV_eq P x ids n H he] at hy
      rw [he] at hc
      cases sv with
      | v v =>
        simp only [den] at hy
        simp only [sideR, hy] at hc
        cases hc
      | p k off =>
        simp only [den, blkOf, Option.some.injEq] at hy
        simp only [sideR] at hc
        rw [Nat.blt_eq] at hc
        subst hy
        show ids k < s0.H.next
        rw [h0]
        exact f.oldD k (hk k off he) hc
      | fn g c => simp only [den, blkOf] at hy; cases hy
  cases hop : o.op
  all_goals rw [hop] at h hb hw
  case load t y => exact key y hb h (fun k off e => hw k off (by simp [readV, e]))
  case slice t y lo hi mx => exact key y (slBlk_le hb) h (fun k off e => hw k off (by simp [readV, e]))
  case convert s t y => exact key y hb h (fun k off e => hw k off (by simp [readV, e]))
  case call c =>
    simp only [readBlk] at hb
    simp only [readV] at h hw
    cases hl : c.args.toList with
    | nil => rw [hl] at hb; cases hb
    | cons y r =>
      rw [hl] at hb h hw
      exact key y hb h (fun k off e => hw k off (by simp [e]))
  all_goals simp [readBlk] at hb
end Go.Det
