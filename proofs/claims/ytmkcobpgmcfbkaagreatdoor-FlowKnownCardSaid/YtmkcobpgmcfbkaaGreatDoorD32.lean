import Derived.Test.YtmkcobpgmcfbkaaGreatDoorD31
set_option linter.unusedSimpArgs false
set_option linter.unusedVariables false
namespace Go.Det
open Go Go.RowKit
def VJ (P : Program) (n : NN) (B0 B : Hp) (k : KK) (Q : Ex → SS → Prop) (x : VS) : Prop := ∀ ids H, Fr B0 B x.cl x.kB x.loc ids H → JK P k Q (x.ss ids n H)
inductive VOut where
  | fin (e : Ex) (x : VS)
  | loop (c : Code) (k : KK) (x : VS)
  | again (c : Code) (k : KK) (x : VS)
  | call (f : FuncId) (args : List SV) (d : Option Tmp) (k : KK) (x : VS)
  | hard (a : Array Oper) (m i : Nat) (k : KK) (x : VS)
  | cmp (a : Array Oper) (m i : Nat) (k : KK) (x : VS)
  | draw (id : Nat) (a : Array Oper) (k : KK) (x : VS)
  | stuck
  | go (k : KK) (x : VS)
def vStep (P : Program) (n : NN) (k : KK) (x : VS) : VOut :=
  match k with
  | [] => .fin .normal x
  | .inBlock _ :: k => .go k x
  | .inLoop c :: k => .again c k x
  | .ops a 0 i :: k => .go k x
  | .ops a (m + 1) i :: k =>
    match a[i]? with
    | none => .stuck
    | some o =>
      match gdV a x.l o with
      | none => .stuck
      | some false => match putV x n o.dst (.v undef) with
        | some x' => .go (.ops a m (i + 1) :: k) x'
        | none => .stuck
      | some true =>
        match opV P x o with
        | .hard => .hard a m i k x
        | .cmp => .cmp a m i k x
        | .stuck => .stuck
        | .val v => match notDefer o.op with
          | true => match putV x n o.dst v with
            | some x' => .go (.ops a m (i + 1) :: k) x'
            | none => .stuck
          | false => .stuck
        | .new cs => match notDefer o.op, x with
          | true, ⟨l, loc, cl, kB⟩ => match putV ⟨l, loc ++ [cs], cl, kB⟩ n o.dst (.p loc.length 0) with
            | some x' => .go (.ops a m (i + 1) :: k) x'
            | none => .stuck
          | false, _ => .stuck
        | .upd j cs => match notDefer o.op, x with
          | true, ⟨l, loc, cl, kB⟩ => match putV ⟨l, loc.set j cs, (match Nat.ble kB j with | true => cl | false => false), kB⟩ n o.dst (.v undef) with
            | some x' => .go (.ops a m (i + 1) :: k) x'
            | none => .stuck
          | false, _ => .stuck
        | .enter f args => match notDefer o.op with
          | true => match putV x n o.dst (.v undef) with
            | some _ => .call f args o.dst (.ops a m (i + 1) :: k) x
            | none => .stuck
          | false => .stuck
  | .code c :: k =>
    match c with
    | .skip => .go k x
    | .label _ => .go k x
    | .exit id => match unwS id k with
      | some k' => .go k' x
      | none => .fin (.exit id) x
    | .ret => .fin .ret x
    | .seq a b => .go (.code a :: .code b :: k) x
    | .block id c => .go (.code c :: .inBlock id :: k) x
    | .scope c => .go (.code c :: k) x
    | .cond c a b => match evV P x.l c with
      | some (.v (.bool true)) => .go (.code a :: k) x
      | some (.v (.bool false)) => .go (.code b :: k) x
      | _ => .stuck
    | .loop c => .loop c k x
    | .region _ a false => .go (.ops a a.size 0 :: k) x
    | .region id a true => .draw id a k x
    | _ => .stuck
def vSym (P : Program) (n : NN) : Nat → KK → VS → VOut
  | 0, k, x => .go k x
  | N + 1, k, x => match vStep P n k x with
    | .go k' x' => vSym P n N k' x'
    | o => o
def VOut.ok (P : Program) (n : NN) (B0 B : Hp) (Q : Ex → SS → Prop) : VOut → Prop
  | .fin e x => ∀ ids H, Fr B0 B x.cl x.kB x.loc ids H → Q e (x.ss ids n H)
  | .loop c k x => VJ P n B0 B (.code (.loop c) :: k) Q x
  | .again c k x => VJ P n B0 B (.inLoop c :: k) Q x
  | .call f args d k x => ∀ ids H, Fr B0 B x.cl x.kB x.loc ids H → SCall P f (args.map (den ids)) H fun
      | .ret v, H' => ∃ s', putS (x.ss ids n H) d v H' = some s' ∧ JK P k Q s'
      | .panic v, H' => Q (.panic v) { x.ss ids n H with H := H' }
  | .hard a m i k x => VJ P n B0 B (.ops a (m + 1) i :: k) Q x
  | .cmp a m i k x => VJ P n B0 B (.ops a (m + 1) i :: k) Q x
  | .draw id a k x => VJ P n B0 B (.code (.region id a true) :: k) Q x
  | .go k x => VJ P n B0 B k Q x
  | .stuck => False
section rules
variable {P : Program} {Q : Ex → SS → Prop} {n : NN} {B0 B : Hp}
theorem vStep_ok {k : KK} {x : VS} (h : (vStep P n k x).ok P n B0 B Q) : VJ P n B0 B k Q x := by
  intro ids H fr
  unfold vStep at h
  split at h
  · exact h ids H fr
  · exact h ids H fr
  · exact h ids H fr
  · exact JL.nil (h ids H fr)
  · split at h
    · exact h.elim
    · rename_i o ho
      split at h
      · exact h.elim
      · rename_i hg
        split at h
        · rename_i x' hp
          obtain ⟨p1, p2, p3, p4⟩ := putV_eq ids H H hp
          refine JK.ops (by unfold doOp; simp only [ho, gdV_eq ids n H hg]; rw [show (x.ss ids n H).H = H from rfl, show (undef : Value) = den ids (.v undef) from rfl, p1]) (h ids H ?_)
          rw [p2, p3, p4]; exact fr
        · exact h.elim
      · rename_i hg
        split at h
        · exact h ids H fr
        · exact h ids H fr
        · exact h.elim
        · rename_i v he
          split at h
          · rename_i hd
            split at h
            · rename_i x' hp
              obtain ⟨p1, p2, p3, p4⟩ := putV_eq ids H H hp
              refine JK.ops (s' := x'.ss ids n H) ?_ (h ids H (by rw [p2, p3, p4]; exact fr))
              unfold doOp
              simp only [ho, gdV_eq ids n H hg, hd]
              rw [show (x.ss ids n H).H = H from rfl, opV_val (n := n) he fr]
              simp only; rw [p1]
            · exact h.elim
          · exact h.elim
        · rename_i cs he
          split at h
          · rename_i hd
            rename_i l loc cl kB
            split at h
            · rename_i x' hp
              obtain ⟨e1, e2⟩ := opV_new (n := n) (H := H) (ids := ids) he
              have hden : denE (fun k => if k = loc.length then H.next else ids k) l = denE ids l := denE_apart (k := loc.length) (fun j hj => by simp [hj]) e2
              obtain ⟨p1, p2, p3, p4⟩ := putV_eq (fun k => if k = loc.length then H.next else ids k) (H.alloc (.cells .fix cs)) (H.alloc (.cells .fix cs)) hp
              refine JK.ops (s' := x'.ss (fun k => if k = loc.length then H.next else ids k) n (H.alloc (.cells .fix cs))) ?_ (h _ _ (by rw [p2, p3, p4]; exact fr.alloc cs))
              unfold doOp
              have hg' := gdV_eq ids n H hg
              simp only [ho, hg', hd]
              rw [show (VS.ss ⟨l, loc, cl, kB⟩ ids n H).H = H from rfl, e1]
              simp only [newD]
              have p1' : putS (VS.ss ⟨l, loc, cl, kB⟩ ids n H) o.dst (.pointer (some ⟨H.next, 0, none⟩)) (H.alloc (.cells .fix cs)) = some (x'.ss (fun k => if k = loc.length then H.next else ids k) n (H.alloc (.cells .fix cs))) := by
                rw [← p1]
                simp only [VS.ss, hden, den, if_true]
                cases o.dst <;> rfl
              rw [p1']
            · exact h.elim
          · exact h.elim
        · rename_i j cs he
          split at h
          · rename_i hd
            rename_i l loc cl kB
            split at h
            · rename_i x' hp
              obtain ⟨cs0, e0, e1⟩ := opV_upd (n := n) he fr
              obtain ⟨p1, p2, p3, p4⟩ := putV_eq ids (H.put (ids j) (.cells .fix cs)) (H.put (ids j) (.cells .fix cs)) hp
              refine JK.ops (s' := x'.ss ids n (H.put (ids j) (.cells .fix cs))) ?_ (h _ _ (by rw [p2, p3, p4]; exact fr.store e0))
              unfold doOp
              have hg' := gdV_eq ids n H hg
              simp only [ho, hg', hd]
              rw [show (VS.ss ⟨l, loc, cl, kB⟩ ids n H).H = H from rfl, e1]
              simp only
              have p1' : putS (VS.ss ⟨l, loc, cl, kB⟩ ids n H) o.dst undef (H.put (ids j) (.cells .fix cs)) = some (x'.ss ids n (H.put (ids j) (.cells .fix cs))) := by
                rw [← p1]
                cases o.dst <;> rfl
              rw [p1']
            · exact h.elim
          · exact h.elim
        · rename_i f args he
          split at h
          · rename_i hd
            split at h
            · rename_i x' hp
              obtain ⟨p1, _⟩ := putV_eq ids H H hp
              refine JK.call (f := f) (args := args.map (den ids)) (d := o.dst) ?_ (h ids H fr)
              unfold doOp
              simp only [ho, gdV_eq ids n H hg, hd]
              rw [show (x.ss ids n H).H = H from rfl, opV_enter (n := n) (H := H) (ids := ids) he]
              simp only
              rw [show (undef : Value) = den ids (.v undef) from rfl, p1]
            · exact h.elim
          · exact h.elim
  · split at h
    · exact J.skip (h ids H fr)
    · exact J.label (h ids H fr)
    · rename_i id
      refine J.exit (QK_exit ?_)
      split at h <;> rename_i hu <;> rw [hu] <;> exact h ids H fr
    · refine J.ret ?_
      show QK P _ Q .ret _
      rw [QK_ret]; exact h ids H fr
    · exact JK.seq (h ids H fr)
    · exact JK.block (h ids H fr)
    · exact SC.scope (h ids H fr)
    · split at h
      · rename_i hc; exact JK.cond (evV_eq P x ids n H hc) (fun _ => h ids H fr) (fun q => by cases q)
      · rename_i hc; exact JK.cond (evV_eq P x ids n H hc) (fun q => by cases q) (fun _ => h ids H fr)
      · exact h.elim
    · exact h ids H fr
    · exact J.region rfl (h ids H fr)
    · exact h ids H fr
    · exact h.elim
theorem vSym_ok : ∀ (N : Nat) {k : KK} {x : VS}, (vSym P n N k x).ok P n B0 B Q → VJ P n B0 B k Q x
  | 0, _, _, h => h
  | N + 1, k, x, h => by
    unfold vSym at h
    split at h
    · rename_i k' x' hs
      exact vStep_ok (by rw [hs]; exact vSym_ok N h)
    · exact vStep_ok h
end rules
end Go.Det
