import Derived.Test.YtmkcobpgmcfbkaaGreatDoorD34
set_option linter.unusedSimpArgs false
set_option linter.unusedVariables false
namespace Go.Det
open Go Go.RowKit
inductive DOut where
  | done (x : VS)
  | hard (m i : Nat) (x : VS)
  | cmp (m i : Nat) (x : VS)
  | call (f : FuncId) (args : List SV) (d : Option Tmp) (m i : Nat) (x : VS)
  | stuck
def wfV (P : Program) (x : VS) (o : Oper) : Bool :=
  match readV P x.l o.op with
  | some (some (.p k _)) => Nat.blt k x.loc.length
  | _ => true
def dSym (P : Program) (n : NN) (a : Array Oper) (fl : Bool) (kD : Nat) : Nat → Nat → VS → DOut
  | 0, _, x => .done x
  | m + 1, i, x =>
    match a[i]? with
    | none => .stuck
    | some o =>
      match sideV P a fl kD i x.l o, wfV P x o with
      | true, true =>
        match gdV a x.l o with
        | none => .stuck
        | some false => match putV x n o.dst (.v undef) with
          | some x' => dSym P n a fl kD m (i + 1) x'
          | none => .stuck
        | some true =>
          match opV P x o with
          | .hard => .hard m i x
          | .cmp => .cmp m i x
          | .stuck => .stuck
          | .val v => match notDefer o.op with
            | true => match putV x n o.dst v with
              | some x' => dSym P n a fl kD m (i + 1) x'
              | none => .stuck
            | false => .stuck
          | .new cs => match notDefer o.op, x with
            | true, ⟨l, loc, cl, kB⟩ => match putV ⟨l, loc ++ [cs], cl, kB⟩ n o.dst (.p loc.length 0) with
              | some x' => dSym P n a fl kD m (i + 1) x'
              | none => .stuck
            | false, _ => .stuck
          | .upd j cs => match notDefer o.op, Nat.ble kD j, x with
            | true, true, ⟨l, loc, cl, kB⟩ => match putV ⟨l, loc.set j cs, (match Nat.ble kB j with | true => cl | false => false), kB⟩ n o.dst (.v undef) with
              | some x' => dSym P n a fl kD m (i + 1) x'
              | none => .stuck
            | _, _, _ => .stuck
          | .enter f args => match notDefer o.op with
            | true => match putV x n o.dst (.v undef) with
              | some _ => .call f args o.dst m i x
              | none => .stuck
            | false => .stuck
      | _, _ => .hard m i x
section rules
variable {P : Program} {Q : Ex → SS → Prop} {n : NN} {B0 B D : Hp} {kD : Nat} {k : KK} {a : Array Oper} {fl : Bool}
def DOut.ok (P : Program) (n : NN) (B0 B D : Hp) (kD : Nat) (a : Array Oper) (fl : Bool) (k : KK) (Q : Ex → SS → Prop) : DOut → Prop
  | .done x => VJ P n B0 B k Q x
  | .hard m i x => VD P n B0 B D kD a fl (m + 1) i k Q x
  | .cmp m i x => VD P n B0 B D kD a fl (m + 1) i k Q x
  | .call f args d m i x => ∀ ids H s0, s0.H = D → FrD B0 B D kD x.cl x.kB x.loc ids H → SCall P f (args.map (den ids)) H fun
      | .ret v, H' => ∃ s', putS (x.ss ids n H) d v H' = some s' ∧ JD P a fl s0 m (i + 1) (fun s' => (fl = true → Ext s0.H s'.H) ∧ JK P k Q s') s'
      | .panic _, _ => False
  | .stuck => False
theorem wfV_ok {x : VS} {o : Oper} (h : wfV P x o = true) : ∀ j off, readV P x.l o.op = some (some (.p j off)) → j < x.loc.length := by
  intro j off e
  unfold wfV at h
  rw [e] at h
  rw [Nat.blt_eq] at h
  exact h
theorem dSym_ok : ∀ (m i : Nat) {x : VS}, (dSym P n a fl kD m i x).ok P n B0 B D kD a fl k Q → VD P n B0 B D kD a fl m i k Q x
  | 0, i, x, h => fun ids H s0 h0 f => JD.nil ⟨fun _ => by show Ext s0.H H; rw [h0]; exact f.extD, h ids H f.fr⟩
  | m + 1, i, x, h => by
    unfold dSym at h
    split at h
    · exact h.elim
    · rename_i o ho
      split at h
      · rename_i hsd hwf
        split at h
        · exact h.elim
        · rename_i hg
          split at h
          · rename_i x' hp
            intro ids H s0 h0 f
            obtain ⟨p1, p2, p3, p4⟩ := putV_eq ids H H hp
            refine JD.val (s' := x'.ss ids n H) (by unfold doOp; simp only [ho, gdV_eq ids n H hg]; rw [show (x.ss ids n H).H = H from rfl, show (undef : Value) = den ids (.v undef) from rfl, p1]) (sideV_ok h0 ho f (wfV_ok hwf) hsd) (dSym_ok m (i + 1) h ids H s0 h0 ?_)
            rw [p2, p3, p4]; exact f
          · exact h.elim
        · rename_i hg
          split at h
          · exact h
          · exact h
          · exact h.elim
          · rename_i v he
            split at h
            · rename_i hd
              split at h
              · rename_i x' hp
                intro ids H s0 h0 f
                obtain ⟨p1, p2, p3, p4⟩ := putV_eq ids H H hp
                refine JD.val (s' := x'.ss ids n H) ?_ (sideV_ok h0 ho f (wfV_ok hwf) hsd) (dSym_ok m (i + 1) h ids H s0 h0 (by rw [p2, p3, p4]; exact f))
                unfold doOp
                simp only [ho, gdV_eq ids n H hg, hd]
                rw [show (x.ss ids n H).H = H from rfl, opV_val (n := n) he f.fr]
                simp only; rw [p1]
              · exact h.elim
            · exact h.elim
          · rename_i cs he
            split at h
            · rename_i hd
              rename_i l loc cl kB
              split at h
              · rename_i x' hp
                intro ids H s0 h0 f
                obtain ⟨e1, e2⟩ := opV_new (n := n) (H := H) (ids := ids) he
                have hden : denE (fun k => if k = loc.length then H.next else ids k) l = denE ids l := denE_apart (k := loc.length) (fun j hj => by simp [hj]) e2
                obtain ⟨p1, p2, p3, p4⟩ := putV_eq (fun k => if k = loc.length then H.next else ids k) (H.alloc (.cells .fix cs)) (H.alloc (.cells .fix cs)) hp
                refine JD.val (s' := x'.ss (fun k => if k = loc.length then H.next else ids k) n (H.alloc (.cells .fix cs))) ?_ (sideV_ok h0 ho f (wfV_ok hwf) hsd) (dSym_ok m (i + 1) h _ _ s0 h0 (by rw [p2, p3, p4]; exact f.alloc cs))
                unfold doOp
                have hg' := gdV_eq ids n H hg
                simp only [ho, hg', hd]
                rw [show (VS.ss ⟨l, loc, cl, kB⟩ ids n H).H = H from rfl, e1]
                simp only [newD]
                have p1' : putS (VS.ss ⟨l, loc, cl, kB⟩ ids n H) o.dst (.pointer (some ⟨H.next, 0, none⟩)) (H.alloc (.cells .fix cs)) = some (x'.ss (fun k => if k = loc.length then H.next else ids k) n (H.alloc (.cells .fix cs))) := by
                  rw [← p1]
                  simp only [VS.ss, hden, den, if_true]
                  cases o.dst <;> rfl
                rw [p1']
              · exact h.elim
            · exact h.elim
          · rename_i j cs he
            split at h
            · rename_i hd hkd
              rename_i l loc cl kB
              split at h
              · rename_i x' hp
                intro ids H s0 h0 f
                obtain ⟨cs0, e0, e1⟩ := opV_upd (n := n) he f.fr
                obtain ⟨p1, p2, p3, p4⟩ := putV_eq ids (H.put (ids j) (.cells .fix cs)) (H.put (ids j) (.cells .fix cs)) hp
                refine JD.val (s' := x'.ss ids n (H.put (ids j) (.cells .fix cs))) ?_ (sideV_ok h0 ho f (wfV_ok hwf) hsd) (dSym_ok m (i + 1) h _ _ s0 h0 (by rw [p2, p3, p4]; exact f.store e0 (Nat.le_of_ble_eq_true hkd)))
                unfold doOp
                have hg' := gdV_eq ids n H hg
                simp only [ho, hg', hd]
                rw [show (VS.ss ⟨l, loc, cl, kB⟩ ids n H).H = H from rfl, e1]
                simp only
                have p1' : putS (VS.ss ⟨l, loc, cl, kB⟩ ids n H) o.dst undef (H.put (ids j) (.cells .fix cs)) = some (x'.ss ids n (H.put (ids j) (.cells .fix cs))) := by
                  rw [← p1]
                  cases o.dst <;> rfl
                rw [p1']
              · exact h.elim
            · exact h.elim
          · rename_i f' args he
            split at h
            · rename_i hd
              split at h
              · rename_i x' hp
                intro ids H s0 h0 f
                obtain ⟨p1, _⟩ := putV_eq ids H H hp
                refine JD.call (f := f') (args := args.map (den ids)) (d := o.dst) ?_ (sideV_ok h0 ho f (wfV_ok hwf) hsd) (h ids H s0 h0 f)
                unfold doOp
                simp only [ho, gdV_eq ids n H hg, hd]
                rw [show (x.ss ids n H).H = H from rfl, opV_enter (n := n) (H := H) (ids := ids) he]
                simp only
                rw [show (undef : Value) = den ids (.v undef) from rfl, p1]
              · exact h.elim
            · exact h.elim
      · exact h
theorem JD.any {s0 s1 s : SS} {m i : Nat} {Q Q' : SS → Prop} (hq : ∀ s, Q s → Q' s) (h : JD P a false s0 m i Q s) : JD P a false s1 m i Q' s := by
  obtain ⟨f, h1, h2, s', h3, h4⟩ := h
  exact ⟨f, h1, fun j a b => ⟨(h2 j a b).1, fun q => by cases q⟩, s', h3, hq _ h4⟩
theorem VD.sym {m i : Nat} {x : VS} {o : DOut} (hs : dSym P n a fl kD m i x = o) (h : o.ok P n B0 B D kD a fl k Q) : VD P n B0 B D kD a fl m i k Q x := dSym_ok m i (by rw [hs]; exact h)
theorem VD.done {m i : Nat} {x x' : VS} (hs : dSym P n a fl kD m i x = .done x') (h : VJ P n B0 B k Q x') : VD P n B0 B D kD a fl m i k Q x := VD.sym hs h
theorem VD.cl {m m' i i' : Nat} {x : VS} {f : FuncId} {args : List SV} {d : Option Tmp} {R : Value → Hp → Prop} {l : VEnv} {loc : List (List Value)} {cl : Bool} {kB : Nat} (hs : dSym P n a fl kD m i x = .call f args d m' i' ⟨l, loc, cl, kB⟩)
    (hc : ∀ ids H, FrD B0 B D kD cl kB loc ids H → SCall P f (args.map (den ids)) H (Ret fun v H' => Ext H H' ∧ R v H'))
    (hk : ∀ v H', Ext B0 H' → (cl = true → Ext B H') → R v H' → ∃ x'', putV ⟨l, loc, true, loc.length⟩ n d (.v v) = some x'' ∧ VD P n B0 H' D kD a fl m' (i' + 1) k Q x'') : VD P n B0 B D kD a fl m i k Q x := by
  refine VD.sym hs fun ids H s0 h0 f => ?_
  refine (hc ids H f).mono fun e H' ⟨v, h1, h2, h3⟩ => ?_
  subst h1
  obtain ⟨y, hp, h⟩ := hk v H' (f.fr.ext0.trans h2) (fun h => (f.fr.extB h).trans h2) h3
  obtain ⟨p1, p2, p3, p4⟩ := putV_eq ids H H' hp
  refine ⟨y.ss ids n H', ?_, h ids H' s0 h0 (by rw [p2, p3, p4]; exact f.call h2)⟩
  rw [← p1]; cases d <;> rfl
theorem VD.hd {m m' i i' : Nat} {x x' x'' : VS} {o : Oper} {v : Value} (hs : dSym P n a fl kD m i x = .hard m' i' x') (ho : a[i']? = some o) (hg : gdV a x'.l o = some true) (hd : notDefer o.op = true)
    (hsd : ∀ ids H (s0 : SS), s0.H = D → FrD B0 B D kD x'.cl x'.kB x'.loc ids H → side P a fl s0.st i' (x'.ss ids n H).st)
    (he : ∀ ids H, FrD B0 B D kD x'.cl x'.kB x'.loc ids H → opD P H (evS P (x'.ss ids n H)) o = some (.val v H)) (hp : putV x' n o.dst (.v v) = some x'') (h : VD P n B0 B D kD a fl m' (i' + 1) k Q x'') : VD P n B0 B D kD a fl m i k Q x := by
  refine VD.sym hs fun ids H s0 h0 f => ?_
  obtain ⟨p1, p2, p3, p4⟩ := putV_eq ids H H hp
  refine JD.val (s' := x''.ss ids n H) ?_ (hsd ids H s0 h0 f) (h ids H s0 h0 (by rw [p2, p3, p4]; exact f))
  unfold doOp
  simp only [ho, gdV_eq ids n H hg, hd]
  rw [show (x'.ss ids n H).H = H from rfl, he ids H f]
  simp only; rw [show v = den ids (.v v) from rfl, p1]
end rules
end Go.Det
