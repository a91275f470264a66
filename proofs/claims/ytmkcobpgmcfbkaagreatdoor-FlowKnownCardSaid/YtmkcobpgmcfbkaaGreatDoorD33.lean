import Derived.Test.YtmkcobpgmcfbkaaGreatDoorD32
set_option linter.unusedSimpArgs false
set_option linter.unusedVariables false
namespace Go.Det
open Go Go.RowKit
theorem Fr.weak {B0 B : Hp} {cl cl' : Bool} {kB kB' : Nat} {loc : List (List Value)} {ids : Nat → Nat} {H : Hp} (fr : Fr B0 B cl kB loc ids H) (hc : cl' = true → cl = true) (hk : kB ≤ kB') : Fr B0 B cl' kB' loc ids H :=
  ⟨fr.ext0, fr.nextB, fun h => fr.extB (hc h), fr.here, fun k h1 h2 => fr.old k h1 (Nat.le_trans hk h2), fr.inj⟩
structure Upd (B0 : Hp) (loc : List (List Value)) (ids : Nat → Nat) (H H' : Hp) : Prop where
  ext0 : Ext B0 H'
  next : H.next ≤ H'.next
  own : ∀ k, k < loc.length → H'.get (ids k) = H.get (ids k)
theorem Fr.upd {B0 B : Hp} {cl : Bool} {kB : Nat} {loc : List (List Value)} {ids : Nat → Nat} {H H' : Hp} (fr : Fr B0 B cl kB loc ids H) (u : Upd B0 loc ids H H') : Fr B0 H' true loc.length loc ids H' :=
  ⟨u.ext0, Nat.le_refl _, fun _ => Ext.refl _, fun k cs h => by
    obtain ⟨h1, h2, h3⟩ := fr.here k cs h
    have hk := (List.getElem?_eq_some_iff.1 h).1
    exact ⟨(u.own k hk).trans h1, Nat.lt_of_lt_of_le h2 u.next, h3⟩, fun k h1 h2 => by omega, fr.inj⟩
theorem Fr.updExt {B0 B : Hp} {cl : Bool} {kB : Nat} {loc : List (List Value)} {ids : Nat → Nat} {H H' : Hp} (fr : Fr B0 B cl kB loc ids H) (e : Ext H H') : Upd B0 loc ids H H' :=
  ⟨fr.ext0.trans e, e.next, fun k hk => e.same _ (fr.here k loc[k] (List.getElem?_eq_getElem hk)).2.1⟩
def lessV : VEnv → VEnv → Prop
  | [], _ => True
  | (t, v) :: r, l' => lookV l' t = some v ∧ lessV r l'
theorem lessV_ok (ids : Nat → Nat) : ∀ {l l' : VEnv}, lessV l l' → lessB (denE ids l) (denE ids l')
  | [], _, _ => trivial
  | (t, v) :: r, l', h => ⟨by rw [look_denE, h.1]; rfl, lessV_ok ids h.2⟩
def resV (P : Program) (x : VS) : ResultVar → Option Value
  | .tmp t => match lookV x.l t with
    | some (.v v) => some v
    | _ => none
  | .cell a t => match lookV x.l a with
    | some (.p k off) => match x.loc[k]? with
      | some cs => loadC P t cs off
      | none => none
    | _ => none
def ressV (P : Program) (x : VS) : List ResultVar → Option (List Value)
  | [] => some []
  | r :: l => match resV P x r with
    | some v => match ressV P x l with
      | some vs => some (v :: vs)
      | none => none
    | none => none
section rules
variable {P : Program} {Q : Ex → SS → Prop} {n : NN} {B0 B : Hp} {k k' : KK} {x x' x'' : VS}
theorem loadC_ok {t : TypeId} {cs : List Value} {off b : Nat} {v : Value} {H : Hp} (hg : H.get b = some (.cells .fix cs)) (h : loadC P t cs off = some v) : loadD P H t (.pointer (some ⟨b, off, none⟩)) = some v := by
  unfold loadC at h
  simp only [loadD, hg]
  split at h
  · rename_i hg
    split at h
    · rename_i m hm
      split at h
      · rename_i hb; cases h
        simp only [hg, hm]
        rw [if_pos (Nat.le_of_ble_eq_true hb)]
      · cases h
    · cases h
  · rename_i hg; simp only [hg]; exact h
  · cases h
theorem ressV_ok {ids : Nat → Nat} {H : Hp} (fr : Fr B0 B x.cl x.kB x.loc ids H) : ∀ {l : List ResultVar} {vs : List Value}, ressV P x l = some vs → ressS P (x.ss ids n H) l = some vs
  | [], vs, h => by simp only [ressV, Option.some.injEq] at h; subst h; rfl
  | r :: l, vs, h => by
    simp only [ressV] at h
    split at h
    · rename_i v hv
      split at h
      · rename_i us hu
        cases h
        have h1 : resS P (x.ss ids n H) r = some v := by
          cases r with
          | tmp t =>
            simp only [resV] at hv
            simp only [resS]
            rw [show (x.ss ids n H).l = denE ids x.l from rfl, look_denE]
            split at hv
            · rename_i w hw; cases hv; rw [hw]; rfl
            · cases hv
          | cell a t =>
            simp only [resV] at hv
            simp only [resS]
            rw [show (x.ss ids n H).l = denE ids x.l from rfl, look_denE]
            split at hv
            · rename_i k off hk
              split at hv
              · rename_i cs hcs
                rw [hk]
                exact loadC_ok (fr.here k cs hcs).1 hv
              · cases hv
            · cases hv
        simp only [ressS, h1, ressV_ok fr hu]
      · cases h
    · cases h
variable (N : Nat)
theorem VJ.sym {o : VOut} (hs : vSym P n N k x = o) (h : o.ok P n B0 B Q) : VJ P n B0 B k Q x := vSym_ok N (by rw [hs]; exact h)
theorem SCall.v {f : FuncId} {fn : Func} {c : Code} {args : List Value} {H : Hp} {Q : En → Hp → Prop} (hf : P.funcs[f]? = some fn) (hb : fn.body = some c) {m : Nat} (hn : fn.ntmps = m) {g : Nat} (hg : args.length = g) (hl : Nat.ble g m = true)
    {res : List ResultVar} (hr : fn.results.toList = res) {l : VEnv} (he : ∀ ids, denE ids l = envOf args) (h : VJ P ⟨m, true⟩ H H [.code c] (bodyS P res Q) ⟨l, [], true, 0⟩) : SCall P f args H Q :=
  SCall.body hf hb hn (by rw [hg]; exact Nat.le_of_ble_eq_true hl) hr (by
    have := h (fun _ => 0) H ⟨Ext.refl H, Nat.le_refl _, fun _ => Ext.refl H, fun k cs h => by simp at h, fun k h => by simp at h, fun j k h => by simp at h⟩
    simp only [VS.ss, he] at this
    exact this)
theorem VJ.rt {R : Value → Hp → Prop} {res : List ResultVar} {vs : List Value} {v : Value} (hs : vSym P n N k x = .fin .ret x') (hr : ressV P x' res = some vs) (hv : oneD vs = v) (h : ∀ ids H, Fr B0 B x'.cl x'.kB x'.loc ids H → R v H) : VJ P n B0 B k (bodyS P res (Ret R)) x :=
  VJ.sym N hs (fun ids H fr => ⟨rfl, vs, ressV_ok fr hr, v, by rw [hv], h ids H fr⟩)
theorem VJ.hd {a : Array Oper} {m i : Nat} {o : Oper} {v : Value} (hs : vSym P n N k x = .hard a m i k' x') (ho : a[i]? = some o) (hg : gdV a x'.l o = some true) (hd : notDefer o.op = true)
    (he : ∀ ids H, Fr B0 B x'.cl x'.kB x'.loc ids H → opD P H (evS P (x'.ss ids n H)) o = some (.val v H)) (hp : putV x' n o.dst (.v v) = some x'') (h : VJ P n B0 B (.ops a m (i + 1) :: k') Q x'') : VJ P n B0 B k Q x := by
  refine VJ.sym N hs fun ids H fr => ?_
  obtain ⟨p1, p2, p3, p4⟩ := putV_eq ids H H hp
  refine JK.ops (s' := x''.ss ids n H) ?_ (h ids H (by rw [p2, p3, p4]; exact fr))
  unfold doOp
  simp only [ho, gdV_eq ids n H hg, hd]
  rw [show (x'.ss ids n H).H = H from rfl, he ids H fr]
  simp only; rw [show v = den ids (.v v) from rfl, p1]
theorem Fr.after {B0 B : Hp} {y : VS} {ids : Nat → Nat} {H' : Hp} (f : Fr B0 H' true y.loc.length y.loc ids H') (p2 : x''.loc = y.loc) (p3 : x''.cl = true) (p4 : x''.kB = y.loc.length) : Fr B0 H' x''.cl x''.kB x''.loc ids H' := by
  rw [p2, p3, p4]; exact f
theorem VJ.hn {a : Array Oper} {m i : Nat} {o : Oper} {R : Value → Hp → Prop} {l : VEnv} {loc : List (List Value)} {cl : Bool} {kB : Nat} (hs : vSym P n N k x = .hard a m i k' ⟨l, loc, cl, kB⟩) (ho : a[i]? = some o) (hg : gdV a l o = some true) (hd : notDefer o.op = true)
    (he : ∀ ids H, Fr B0 B cl kB loc ids H → ∃ v H', opD P H (evS P (VS.ss ⟨l, loc, cl, kB⟩ ids n H)) o = some (.val v H') ∧ Upd B0 loc ids H H' ∧ R v H')
    (hk : ∀ v H', Ext B0 H' → R v H' → ∃ x'', putV ⟨l, loc, true, loc.length⟩ n o.dst (.v v) = some x'' ∧ VJ P n B0 H' (.ops a m (i + 1) :: k') Q x'') : VJ P n B0 B k Q x := by
  refine VJ.sym N hs fun ids H fr => ?_
  obtain ⟨v, H', h1, h2, h3⟩ := he ids H fr
  obtain ⟨y, hp, h⟩ := hk v H' h2.ext0 h3
  obtain ⟨p1, p2, p3, p4⟩ := putV_eq ids H H' hp
  refine JK.ops (s' := y.ss ids n H') ?_ (h ids H' (by rw [p2, p3, p4]; exact fr.upd h2))
  unfold doOp
  have hg' := gdV_eq (x := ⟨l, loc, cl, kB⟩) ids n H hg
  simp only [ho, hg', hd]
  rw [show (VS.ss ⟨l, loc, cl, kB⟩ ids n H).H = H from rfl, h1]
  simp only
  have p1' : putS (VS.ss ⟨l, loc, cl, kB⟩ ids n H) o.dst v H' = some (y.ss ids n H') := by rw [← p1]; cases o.dst <;> rfl
  rw [p1']
theorem VJ.cl {f : FuncId} {args : List SV} {d : Option Tmp} {R : Value → Hp → Prop} {l : VEnv} {loc : List (List Value)} {cl : Bool} {kB : Nat} (hs : vSym P n N k x = .call f args d k' ⟨l, loc, cl, kB⟩)
    (hc : ∀ ids H, Fr B0 B cl kB loc ids H → SCall P f (args.map (den ids)) H (Ret fun v H' => Ext H H' ∧ R v H'))
    (hk : ∀ v H', Ext B0 H' → (cl = true → Ext B H') → R v H' → ∃ x'', putV ⟨l, loc, true, loc.length⟩ n d (.v v) = some x'' ∧ VJ P n B0 H' k' Q x'') : VJ P n B0 B k Q x := by
  refine VJ.sym N hs fun ids H fr => ?_
  refine (hc ids H fr).mono fun e H' ⟨v, h1, h2, h3⟩ => ?_
  subst h1
  obtain ⟨y, hp, h⟩ := hk v H' (fr.ext0.trans h2) (fun h => (fr.extB h).trans h2) h3
  obtain ⟨p1, p2, p3, p4⟩ := putV_eq ids H H' hp
  refine ⟨y.ss ids n H', ?_, h ids H' (by rw [p2, p3, p4]; exact fr.upd (fr.updExt h2))⟩
  rw [← p1]; cases d <;> rfl
theorem VJ.lp {α : Type} {c : Code} (kb : Nat) (cb : Bool) (I : α → VEnv) (L : α → List (List Value)) (M : α → Hp) (μ : α → Nat) (ok : α → Prop) (x0 : α) {l : VEnv} {loc : List (List Value)} {cl : Bool} {kB : Nat} (hs : vSym P n N k x = .loop c k' ⟨l, loc, cl, kB⟩) (hx : ok x0) (hl : lessV (I x0) l) (hL : loc = L x0) (hB : B = M x0)
    (hcl : cb = true → cl = true) (hkB : Nat.ble kB kb = true)
    (h : ∀ y, ok y → (∀ z, ok z → μ z < μ y → VJ P n B0 (M z) (.inLoop c :: k') Q ⟨I z, L z, cb, kb⟩) → VJ P n B0 (M y) (.code c :: .inLoop c :: k') Q ⟨I y, L y, cb, kb⟩) : VJ P n B0 B k Q x := by
  subst hL hB
  have key : ∀ m z, ok z → μ z = m → VJ P n B0 (M z) (.inLoop c :: k') Q ⟨I z, L z, cb, kb⟩ := by
    intro m
    induction m using Nat.strongRecOn with
    | _ m ih => intro z hz hm ids H fr; exact JK.round (h z hz (fun y hy hlt => ih _ (by omega) y hy rfl) ids H fr)
  refine VJ.sym N hs fun ids H fr => ?_
  have := h x0 hx (fun y hy _ => key _ y hy rfl) ids H (fr.weak hcl (Nat.le_of_ble_eq_true hkB))
  exact JK.less (denE ids (I x0)) (lessV_ok ids hl) (.inl ⟨_, rfl⟩) (JK.loop this)
end rules
end Go.Det
