import Derived.Test.YtmkcobpgmcfbkaaGreatDoorD44
set_option linter.unusedSimpArgs false
set_option linter.unusedVariables false
namespace Go.Det
open Go Go.RowKit
structure WFD (B0 B D : Hp) (kD : Nat) (own : List OwnE) (loc : List (List Value)) (ids : Nat → Nat) (H : Hp) : Prop where
  fr : WF B0 B own loc ids H
  extD : Ext D H
  newD : ∀ k, k < loc.length → kD ≤ k → D.next ≤ ids k
  oldD : ∀ k, k < loc.length → k < kD → ids k < D.next
  kle : kD ≤ loc.length
theorem WFD.frD {B0 B D : Hp} {kD : Nat} {own : List OwnE} {loc : List (List Value)} {ids : Nat → Nat} {H : Hp} (f : WFD B0 B D kD own loc ids H) (cl : Bool) (kB : Nat) : FrD B0 noHp D kD cl kB loc ids H :=
  ⟨f.fr.fr0 cl kB, f.extD, f.newD, f.oldD, f.kle⟩
theorem WFD.start {B0 B : Hp} {own : List OwnE} {loc : List (List Value)} {ids : Nat → Nat} {H : Hp} (fr : WF B0 B own loc ids H) : WFD B0 B H loc.length own loc ids H :=
  ⟨fr, Ext.refl H, fun k h1 h2 => by omega, fun k h1 _ => fr.ids_lt h1, Nat.le_refl _⟩
theorem WFD.alloc {B0 B D : Hp} {kD : Nat} {own : List OwnE} {loc : List (List Value)} {ids : Nat → Nat} {H : Hp} (f : WFD B0 B D kD own loc ids H) (cs : List Value) :
    WFD B0 B D kD own (loc ++ [cs]) (fun k => if k = loc.length then H.next else ids k) (H.alloc (.cells .fix cs)) := by
  refine ⟨f.fr.alloc cs, f.extD.alloc _, ?_, ?_, ?_⟩
  · intro k h1 h2
    simp only [List.length_append, List.length_cons, List.length_nil] at h1
    by_cases e : k = loc.length
    · subst e; simp only [if_true]; exact f.extD.next
    · simp only [if_neg e]; exact f.newD k (by omega) h2
  · intro k h1 h2
    have := f.kle
    simp only [if_neg (show ¬ k = loc.length by omega)]
    exact f.oldD k (by omega) h2
  · have := f.kle
    simp; omega
theorem WFD.store {B0 B D : Hp} {kD : Nat} {own : List OwnE} {loc : List (List Value)} {ids : Nat → Nat} {H : Hp} (f : WFD B0 B D kD own loc ids H) {k : Nat} {cs cs' : List Value} (hk : loc[k]? = some cs) (hD : kD ≤ k) :
    WFD B0 B D kD own (loc.set k cs') ids (H.put (ids k) (.cells .fix cs')) := by
  have hlt := (List.getElem?_eq_some_iff.1 hk).1
  refine ⟨f.fr.store hk, f.extD.put _ (f.newD k hlt hD), ?_, ?_, ?_⟩
  · intro j h1; rw [List.length_set] at h1; exact f.newD j h1
  · intro j h1; rw [List.length_set] at h1; exact f.oldD j h1
  · rw [List.length_set]; exact f.kle
def WD (P : Program) (n : NN) (B0 B D : Hp) (kD : Nat) (own : List OwnE) (a : Array Oper) (fl : Bool) (m i : Nat) (k : KK) (Q : Ex → SS → Prop) (x : VS) : Prop :=
  ∀ ids H s0, s0.H = D → WFD B0 B D kD own x.loc ids H → JD P a fl s0 m i (fun s' => (fl = true → Ext s0.H s'.H) ∧ JK P k Q s') (x.ss ids n H)
section rules
variable {P : Program} {Q : Ex → SS → Prop} {n : NN} {B0 B D : Hp} {kD : Nat} {own : List OwnE} {k : KK} {a : Array Oper} {fl : Bool}
def DOut.okW (P : Program) (n : NN) (B0 B D : Hp) (kD : Nat) (own : List OwnE) (a : Array Oper) (fl : Bool) (k : KK) (Q : Ex → SS → Prop) : DOut → Prop
  | .done x => WJ P n B0 B own k Q x
  | .hard m i x => WD P n B0 B D kD own a fl (m + 1) i k Q x
  | .cmp m i x => WD P n B0 B D kD own a fl (m + 1) i k Q x
  | .call f args d m i x => ∀ ids H s0, s0.H = D → WFD B0 B D kD own x.loc ids H → SCall P f (args.map (den ids)) H fun
      | .ret v, H' => ∃ s', putS (x.ss ids n H) d v H' = some s' ∧ JD P a fl s0 m (i + 1) (fun s' => (fl = true → Ext s0.H s'.H) ∧ JK P k Q s') s'
      | .panic _, _ => False
  | .stuck => False
theorem eSym_ok : ∀ (m i : Nat) {x : VS}, (dSym P n a fl kD m i x).okW P n B0 B D kD own a fl k Q → WD P n B0 B D kD own a fl m i k Q x
  | 0, i, x, h => fun ids H s0 h0 f => JD.nil ⟨fun _ => by show Ext s0.H H; rw [h0]; exact f.extD, h ids H f.fr⟩
  | m + 1, i, x, h => by
    unfold dSym at h
    split at h
    · exact h.elim
    · rename_i o ho
      split at h
      · rename_i hsd hwf
        split at h
        · exact h.elim
        · rename_i hg
          split at h
          · rename_i x' hp
            intro ids H s0 h0 f
            obtain ⟨p1, p2, p3, p4⟩ := putV_eq ids H H hp
            refine JD.val (s' := x'.ss ids n H) (by unfold doOp; simp only [ho, gdV_eq ids n H hg]; rw [show (x.ss ids n H).H = H from rfl, show (undef : Value) = den ids (.v undef) from rfl, p1]) (sideV_ok h0 ho (f.frD x.cl x.kB) (wfV_ok hwf) hsd) (eSym_ok m (i + 1) h ids H s0 h0 ?_)
            rw [p2]; exact f
          · exact h.elim
        · rename_i hg
          split at h
          · exact h
          · exact h
          · exact h.elim
          · rename_i v he
            split at h
            · rename_i hd
              split at h
              · rename_i x' hp
                intro ids H s0 h0 f
                obtain ⟨p1, p2, p3, p4⟩ := putV_eq ids H H hp
                refine JD.val (s' := x'.ss ids n H) ?_ (sideV_ok h0 ho (f.frD x.cl x.kB) (wfV_ok hwf) hsd) (eSym_ok m (i + 1) h ids H s0 h0 (by rw [p2]; exact f))
                unfold doOp
                simp only [ho, gdV_eq ids n H hg, hd]
                rw [show (x.ss ids n H).H = H from rfl, opV_val (n := n) he (f.fr.fr0 _ _)]
                simp only; rw [p1]
              · exact h.elim
            · exact h.elim
          · rename_i cs he
            split at h
            · rename_i hd
              rename_i l loc cl kB
              split at h
              · rename_i x' hp
                intro ids H s0 h0 f
                obtain ⟨e1, e2⟩ := opV_new (n := n) (H := H) (ids := ids) he
                have hden : denE (fun k => if k = loc.length then H.next else ids k) l = denE ids l := denE_apart (k := loc.length) (fun j hj => by simp [hj]) e2
                obtain ⟨p1, p2, p3, p4⟩ := putV_eq (fun k => if k = loc.length then H.next else ids k) (H.alloc (.cells .fix cs)) (H.alloc (.cells .fix cs)) hp
                refine JD.val (s' := x'.ss (fun k => if k = loc.length then H.next else ids k) n (H.alloc (.cells .fix cs))) ?_ (sideV_ok h0 ho (f.frD cl kB) (wfV_ok hwf) hsd) (eSym_ok m (i + 1) h _ _ s0 h0 (by rw [p2]; exact f.alloc cs))
                unfold doOp
                have hg' := gdV_eq ids n H hg
                simp only [ho, hg', hd]
                rw [show (VS.ss ⟨l, loc, cl, kB⟩ ids n H).H = H from rfl, e1]
                simp only [newD]
                have p1' : putS (VS.ss ⟨l, loc, cl, kB⟩ ids n H) o.dst (.pointer (some ⟨H.next, 0, none⟩)) (H.alloc (.cells .fix cs)) = some (x'.ss (fun k => if k = loc.length then H.next else ids k) n (H.alloc (.cells .fix cs))) := by
                  rw [← p1]
                  simp only [VS.ss, hden, den, if_true]
                  cases o.dst <;> rfl
                rw [p1']
              · exact h.elim
            · exact h.elim
          · rename_i j cs he
            split at h
            · rename_i hd hkd
              rename_i l loc cl kB
              split at h
              · rename_i x' hp
                intro ids H s0 h0 f
                obtain ⟨cs0, e0, e1⟩ := opV_upd (n := n) he (f.fr.fr0 cl kB)
                obtain ⟨p1, p2, p3, p4⟩ := putV_eq ids (H.put (ids j) (.cells .fix cs)) (H.put (ids j) (.cells .fix cs)) hp
                refine JD.val (s' := x'.ss ids n (H.put (ids j) (.cells .fix cs))) ?_ (sideV_ok h0 ho (f.frD cl kB) (wfV_ok hwf) hsd) (eSym_ok m (i + 1) h _ _ s0 h0 (by rw [p2]; exact f.store e0 (Nat.le_of_ble_eq_true hkd)))
                unfold doOp
                have hg' := gdV_eq ids n H hg
                simp only [ho, hg', hd]
                rw [show (VS.ss ⟨l, loc, cl, kB⟩ ids n H).H = H from rfl, e1]
                simp only
                have p1' : putS (VS.ss ⟨l, loc, cl, kB⟩ ids n H) o.dst undef (H.put (ids j) (.cells .fix cs)) = some (x'.ss ids n (H.put (ids j) (.cells .fix cs))) := by
                  rw [← p1]
                  cases o.dst <;> rfl
                rw [p1']
              · exact h.elim
            · exact h.elim
          · rename_i f' args he
            split at h
            · rename_i hd
              split at h
              · rename_i x' hp
                intro ids H s0 h0 f
                obtain ⟨p1, _⟩ := putV_eq ids H H hp
                refine JD.call (f := f') (args := args.map (den ids)) (d := o.dst) ?_ (sideV_ok h0 ho (f.frD x.cl x.kB) (wfV_ok hwf) hsd) (h ids H s0 h0 f)
                unfold doOp
                simp only [ho, gdV_eq ids n H hg, hd]
                rw [show (x.ss ids n H).H = H from rfl, opV_enter (n := n) (H := H) (ids := ids) he]
                simp only
                rw [show (undef : Value) = den ids (.v undef) from rfl, p1]
              · exact h.elim
            · exact h.elim
      · exact h
theorem WD.sym {m i : Nat} {x : VS} {o : DOut} (hs : dSym P n a fl kD m i x = o) (h : o.okW P n B0 B D kD own a fl k Q) : WD P n B0 B D kD own a fl m i k Q x := eSym_ok m i (by rw [hs]; exact h)
theorem WD.done {m i : Nat} {x x' : VS} (hs : dSym P n a fl kD m i x = .done x') (h : WJ P n B0 B own k Q x') : WD P n B0 B D kD own a fl m i k Q x := WD.sym hs h
theorem WFD.call {loc : List (List Value)} {ids : Nat → Nat} {H H' : Hp} (f : WFD B0 B D kD own loc ids H) (e : Ext H H') : ∃ B', WFD B0 B' D kD own loc ids H' ∧ Abv 0 B B' ∧ Abv H.next H' B' ∧ H.next ≤ B'.next ∧ Itv B B' := by
  obtain ⟨B', h1, h2, h3, h4⟩ := f.fr.call e
  exact ⟨B', ⟨h1, f.extD.trans e, f.newD, f.oldD, f.kle⟩, h2, h3, h4⟩
theorem WD.cl {m m' i i' : Nat} {x : VS} {f : FuncId} {args : List SV} {d : Option Tmp} {R : Nat → Hp → Value → Prop} {l : VEnv} {loc : List (List Value)} {cl : Bool} {kB : Nat} (hR : ∀ {m n : Nat} {H B : Hp} {v : Value}, m ≤ n → Abv n H B → R n H v → R m B v) (hs : dSym P n a fl kD m i x = .call f args d m' i' ⟨l, loc, cl, kB⟩)
    (hc : ∀ ids H, WF B0 B own loc ids H → SCall P f (args.map (den ids)) H (Ret fun v H' => Ext H H' ∧ R H.next H' v))
    (hk : ∀ v B', Abv 0 B B' ∧ Itv B B' → R B0.next B' v → ∃ x'', putV ⟨l, loc, true, 0⟩ n d (.v v) = some x'' ∧ WD P n B0 B' D kD own a fl m' (i' + 1) k Q x'') : WD P n B0 B D kD own a fl m i k Q x := by
  refine WD.sym hs fun ids H s0 h0 f => ?_
  refine (hc ids H f.fr).mono fun e H' ⟨v, h1, h2, h3⟩ => ?_
  subst h1
  obtain ⟨B', g1, g2, g3, g4⟩ := f.call h2
  obtain ⟨y, hp, h⟩ := hk v B' ⟨g2, g4.2⟩ (hR f.fr.ext0.next g3 h3)
  obtain ⟨p1, p2, p3, p4⟩ := putV_eq ids H H' hp
  refine ⟨y.ss ids n H', ?_, h ids H' s0 h0 (by rw [p2]; exact g1)⟩
  rw [← p1]; cases d <;> rfl
theorem WD.hd {m m' i i' : Nat} {x x' x'' : VS} {o : Oper} {v : Value} (hs : dSym P n a fl kD m i x = .hard m' i' x') (ho : a[i']? = some o) (hg : gdV a x'.l o = some true) (hd : notDefer o.op = true)
    (hsd : ∀ ids H (s0 : SS), s0.H = D → WFD B0 B D kD own x'.loc ids H → side P a fl s0.st i' (x'.ss ids n H).st)
    (he : ∀ ids H, WF B0 B own x'.loc ids H → opD P H (evS P (x'.ss ids n H)) o = some (.val v H)) (hp : putV x' n o.dst (.v v) = some x'') (h : WD P n B0 B D kD own a fl m' (i' + 1) k Q x'') : WD P n B0 B D kD own a fl m i k Q x := by
  refine WD.sym hs fun ids H s0 h0 f => ?_
  obtain ⟨p1, p2, p3, p4⟩ := putV_eq ids H H hp
  refine JD.val (s' := x''.ss ids n H) ?_ (hsd ids H s0 h0 f) (h ids H s0 h0 (by rw [p2]; exact f))
  unfold doOp
  simp only [ho, gdV_eq ids n H hg, hd]
  rw [show (x'.ss ids n H).H = H from rfl, he ids H f.fr]
  simp only; rw [show v = den ids (.v v) from rfl, p1]
theorem side_pure {i : Nat} {o : Oper} {s : SS} {x : VS} {loc : List (List Value)} {ids : Nat → Nat} {H : Hp} (ho : a[i]? = some o) (hr : isRead P o = false) (h0 : s.H = D) (f : WFD B0 B D kD own loc ids H) : side P a fl s.st i (x.ss ids n H).st := by
  intro hfl
  refine ⟨by show Ext s.H H; rw [h0]; exact f.extD, fun hf => ?_⟩
  unfold floating at hf
  rw [ho] at hf
  simp [hr] at hf
theorem WD.cv {m m' i i' : Nat} {x x' x1 : VS} {o : Oper} {b : Bool} {H0 : Hp} (hs : dSym P n a fl kD m i x = .cmp m' i' x') (ho : a[i']? = some o) (hg : gdV a x'.l o = some true) (hd : notDefer o.op = true) (hp : o.op.operands.toList.all (isPlain P x'.l) = true) (hc : cls P o.op = some .pure)
    (he : opD P ⟨.nil, 0, 0⟩ (evPlain P x'.l) o = some (.val (.bool b) H0)) (hp1 : putV x' n o.dst (.v (.bool b)) = some x1)
    (h1 : WD P n B0 B D kD own a fl m' (i' + 1) k Q x1) : WD P n B0 B D kD own a fl m i k Q x := by
  refine WD.sym hs fun ids H s0 h0 f => ?_
  have hgen : genV P x' o = .val (.v (.bool b)) := by unfold genV; simp only [hp, hc, he]
  have e1 := genV_ok (ids := ids) (n := n) (H := H) hgen
  obtain ⟨p1, p2, p3, p4⟩ := putV_eq ids H H hp1
  refine JD.val (s' := x1.ss ids n H) ?_ (side_bin ho hc h0 (f.frD x'.cl x'.kB)) (h1 ids H s0 h0 (by rw [p2]; exact f))
  unfold doOp
  simp only [ho, gdV_eq ids n H hg, hd]
  rw [show (x'.ss ids n H).H = H from rfl, e1]
  simp only; rw [p1]
end rules
end Go.Det
