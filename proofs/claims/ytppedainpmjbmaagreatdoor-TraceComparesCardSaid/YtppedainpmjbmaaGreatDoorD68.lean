import Derived.Test.YtppedainpmjbmaaGreatDoorD67
set_option linter.unusedSimpArgs false
set_option linter.unusedVariables false
namespace Go.Det
open Go Go.RowKit
def Ph2 (P : Program) (a : Array Oper) (m c : Nat) (k : KK) (Q : Ex → SS → Prop) : Ex → SS → Prop := fun e s => e = .normal ∧ JD P a false s m c (fun s' => JK P k Q s') s
section rules
variable {P : Program} {Q : Ex → SS → Prop} {n : NN} {B0 B : Hp} {own : List OwnE} {k k' : KK} {a : Array Oper} {x : VS}
theorem J.drawC {id c m : Nat} {s : SS} (hmix : P.follows .mixedOrders = true) (hok : okDraw P a = true) (hc : cutOk P a c = true) (hm : a.size = c + m) (hm0 : 0 < m)
    (h : JD P a true s c 0 (fun s1 => Ext s.H s1.H ∧ JD P a false s1 m c (fun s2 => Q .normal s2) s1) s) : J P (.region id a true) Q s := by
  refine SC.regionDrawT (c := c) (T := fun b => b < s.H.next) hmix hok hc ?_
  obtain ⟨f, h1, h2, s1, h3, h4, g, g1, g2, s2, g3, g4⟩ := h
  have hc' := hc
  simp only [cutOk, Bool.and_eq_true, Nat.ble_eq] at hc'
  have nofl : ∀ j, c ≤ j → floating P a (masks a.toList []) j = true → False := by
    intro j hj hf
    obtain ⟨i, hp⟩ := floating_pair hf
    obtain ⟨l1, l2⟩ := floatPair_lt hp
    have := List.all_eq_true.1 (List.all_eq_true.1 hc'.2 j (List.mem_range.2 l1)) i (List.mem_range.2 l2)
    rw [hp] at this
    simp only [Bool.not_true, Bool.false_or, Bool.and_eq_true, Nat.blt_eq] at this
    omega
  simp only [Nat.zero_add] at h2 h3 h4
  rw [hm]
  refine ⟨fun j => if j < c then f j else g j, ?_, fun j hj1 hj2 => ?_, ?_⟩
  · by_cases q : 0 < c
    · simp only [if_pos q]; exact h1
    · have : c = 0 := by omega
      subst this
      simp only [Nat.lt_irrefl, if_false]
      rw [g1, h3, h1]
  · have hgc : g c = f c := by rw [g1, h3]
    rcases Nat.lt_or_ge j c with q | q
    · obtain ⟨o1, o2⟩ := h2 j (Nat.zero_le _) (by omega)
      have e1 : (if j + 1 < c then f (j + 1) else g (j + 1)) = f (j + 1) := by
        by_cases w : j + 1 < c
        · rw [if_pos w]
        · rw [if_neg w, show j + 1 = c by omega, hgc]
      simp only [if_pos q, e1]
      obtain ⟨w1, w2⟩ := o2 rfl
      exact ⟨o1, fun _ b hb => w1.same b hb, fun hf o ho b hb => w2 hf o ho b hb⟩
    · obtain ⟨o1, o2⟩ := g2 j q (by omega)
      simp only [if_neg (show ¬ j < c by omega), if_neg (show ¬ j + 1 < c by omega)]
      refine ⟨o1, fun hjc b hb => ?_, fun hf => (nofl j q hf).elim⟩
      have : j = c := by omega
      subst this
      rw [g1]
      exact h4.same b hb
  · rw [Nat.zero_add]
    simp only [if_neg (show ¬ c + m < c by omega)]
    exact ⟨fun q => by omega, s2, g3, g4⟩
theorem WJ.ph2 {m c : Nat} {l : VEnv} {loc : List (List Value)} {cl : Bool} {kB : Nat} (h : WD P n B0 B B0 0 own a false m c k Q ⟨l, loc, cl, kB⟩) : WJ P n B0 B own [] (Ph2 P a m c k Q) ⟨l, loc, cl, kB⟩ := by
  intro ids H fr
  refine ⟨rfl, ?_⟩
  have := h ids H { VS.ss ⟨l, loc, cl, kB⟩ ids n H with H := B0 } rfl ⟨fr, fr.ext0, fun j h1 _ => (fr.here j loc[j] (List.getElem?_eq_getElem h1)).2.2, fun j _ h2 => by omega, Nat.zero_le _⟩
  exact JD.any (fun s h => h.2) this
end rules
end Go.Det

set_option linter.unusedSimpArgs false
set_option linter.unusedVariables false
namespace Go.Det
open Go Go.RowKit
section frames
variable {P : Program} {B0 B : Hp} {own : List OwnE} {loc : List (List Value)} {ids : Nat → Nat} {H : Hp}
theorem WF.srcBox (fr : WF B0 B own loc ids H) {j b cap cap' sz sz1 m : Nat} {cs : List Value} (hj : own[j]? = some ⟨some ⟨b, 0, none⟩, cap, sz1, cs⟩) (hl : cs.length = m * sz) (hm : 0 < m) (hz : sz1 ≠ 0 := by decide) : srcD H sz (.slice (some ⟨b, 0, none⟩) m cap') m = some cs := by
  obtain ⟨_, _, md, all, g1, g2, g3⟩ := fr.atOwn hj hz
  simp only [srcD, if_neg (show ¬ m = 0 by omega), g1]
  rw [if_pos ⟨by omega, Nat.le_refl _⟩, ← hl, g3]
theorem WF.slN {α : Type} {c : Cod α} (fr : WF B0 B own loc ids H) {j cap sz m : Nat} {ad : Option Addr} {cs : List Value} {L : List α} (hj : own[j]? = some ⟨ad, cap, sz, cs⟩) (hc : c.sz = sz) (hp : Nat.blt 0 sz = true) (hr : RepL c B0.next B cs L) (hm : m ≤ B0.next) : SlF m H c ad cap L := by
  subst hc
  rw [Nat.blt_eq] at hp
  exact (fr.mine j _ hj).slF rfl (hr.mono hm (fr.abv.le (Nat.zero_le _))) hm hp
end frames
section rules
variable {α : Type} {P : Program} {Q : Ex → SS → Prop} {n : NN} {B0 B D : Hp} {kD : Nat} {own : List OwnE} {k k' : KK} {a : Array Oper} {fl : Bool} {x x' x'' : VS} {loc : List (List Value)} (N : Nat)
theorem WD.fz {c : Cod α} {m i j cap sz : Nat} {ad : Option Addr} {cs : List Value} {L : List α} (hj : own[j]? = some ⟨ad, cap, sz, cs⟩) (hc : c.sz = sz) (hp : Nat.blt 0 sz = true) (hr : RepL c B0.next B cs L)
    (h : ∀ B', Abv 0 B B' ∧ Itv B B' → SlF B0.next B' c ad cap L → WD P n B0 B' D kD (own.set j ⟨none, 0, sz, []⟩) a fl m i k Q x) : WD P n B0 B D kD own a fl m i k Q x := by
  subst hc
  rw [Nat.blt_eq] at hp
  intro ids H s0 h0 f
  obtain ⟨B', h1, h2, h3, h4⟩ := f.fr.freeze hj hp hr
  exact h B' ⟨h2, h3⟩ h4 ids H s0 h0 ⟨h1, f.extD, f.newD, f.oldD, f.kle⟩
theorem WD.apN {m' i' m i : Nat} {o : Oper} {l : VEnv} {cl : Bool} {kB t et sz by_ : Nat} {c : Call} {ad : Option Addr} {cap : Nat} {sv : Value} {cs new : List Value} {L L2 : List α} (j : Nat) (hs : dSym P n a false 0 m i x = .hard m' i' ⟨l, loc, cl, kB⟩) (ho : a[i']? = some o) (hg : gdV a l o = some true) (hd : notDefer o.op = true)
    (hop : o.op = .call c) (hcal : c.callee = .builtin .append) (hargs : argsV P l c.args.toList = some [.v (.slice ad L.length cap), .v sv]) (hj : own[j]? = some ⟨ad, cap, sz, cs⟩) (hcs : cs.length = L.length * sz) (E : Elem P c t et sz by_) (hby : Nat.blt 0 by_ = true)
    (hl : lenD sv = some L2.length) (hsrc : ∀ ids H, WF B0 B own loc ids H → srcD H sz sv L2.length = some new) (hnew : new.length = L2.length * sz) (h1 : (new.all fun v => v.oneCell') = true) (hb : (L.length + L2.length) * by_ ≤ 140737488355328)
    (hk : ∀ a' cap', ∃ x'', putV ⟨l, loc, true, 0⟩ n o.dst (.v (.slice a' (L ++ L2).length cap')) = some x'' ∧ WD P n B0 B B0 0 (own.set j ⟨a', cap', sz, cs ++ new⟩) a false m' (i' + 1) k Q x'') : WD P n B0 B B0 0 own a false m i k Q x := by
  rw [Nat.blt_eq] at hby
  have hm : L.length + L2.length ≤ 140737488355328 := Nat.le_trans (Nat.le_mul_of_pos_right _ hby) hb
  refine WD.sym hs fun ids H s0 h0 f => ?_
  obtain ⟨a', cap', H', g1, g2⟩ := f.fr.append hj E hcs hl (hsrc ids H f.fr) hnew h1 hb hm
  obtain ⟨y, hp, h⟩ := hk a' cap'
  obtain ⟨p1, p2, p3, p4⟩ := putV_eq ids H H' hp
  have he := opD_append hop hcal (show argsD (evS P (VS.ss ⟨l, loc, cl, kB⟩ ids n H)) c.args.toList = some [.slice ad L.length cap, sv] from argsV_eq (x := ⟨l, loc, cl, kB⟩) hargs) g1
  refine JD.val (s' := y.ss ids n H') ?_ side_no (h ids _ s0 h0 ?_)
  · unfold doOp
    have hg' := gdV_eq (x := ⟨l, loc, cl, kB⟩) ids n H hg
    simp only [ho, hg', hd]
    rw [show (VS.ss ⟨l, loc, cl, kB⟩ ids n H).H = H from rfl, he]
    simp only
    have p1' : putS (VS.ss ⟨l, loc, cl, kB⟩ ids n H) o.dst (.slice a' (L.length + L2.length) cap') H' = some (y.ss ids n H') := by rw [← p1, ← List.length_append]; cases o.dst <;> rfl
    rw [p1']
  · rw [p2]
    exact ⟨g2, g2.ext0, f.newD, f.oldD, f.kle⟩
theorem WJ.apN {m i : Nat} {o : Oper} {l : VEnv} {cl : Bool} {kB t et sz by_ : Nat} {c : Call} {ad : Option Addr} {cap : Nat} {sv : Value} {cs new : List Value} {L L2 : List α} (j : Nat) (hs : vSym P n N k x = .hard a m i k' ⟨l, loc, cl, kB⟩) (ho : a[i]? = some o) (hg : gdV a l o = some true) (hd : notDefer o.op = true)
    (hop : o.op = .call c) (hcal : c.callee = .builtin .append) (hargs : argsV P l c.args.toList = some [.v (.slice ad L.length cap), .v sv]) (hj : own[j]? = some ⟨ad, cap, sz, cs⟩) (hcs : cs.length = L.length * sz) (E : Elem P c t et sz by_) (hby : Nat.blt 0 by_ = true)
    (hl : lenD sv = some L2.length) (hsrc : ∀ ids H, WF B0 B own loc ids H → srcD H sz sv L2.length = some new) (hnew : new.length = L2.length * sz) (h1 : (new.all fun v => v.oneCell') = true) (hb : (L.length + L2.length) * by_ ≤ 140737488355328)
    (hk : ∀ a' cap', ∃ x'', putV ⟨l, loc, true, 0⟩ n o.dst (.v (.slice a' (L ++ L2).length cap')) = some x'' ∧ WJ P n B0 B (own.set j ⟨a', cap', sz, cs ++ new⟩) (.ops a m (i + 1) :: k') Q x'') : WJ P n B0 B own k Q x := by
  rw [Nat.blt_eq] at hby
  have hm : L.length + L2.length ≤ 140737488355328 := Nat.le_trans (Nat.le_mul_of_pos_right _ hby) hb
  refine WJ.so (j := j) (R := fun v e' => ∃ a' cap', v = .slice a' (L ++ L2).length cap' ∧ e' = ⟨a', cap', sz, cs ++ new⟩) N hs ho hg hd (fun ids H fr => ?_) ?_
  · obtain ⟨a', cap', H', g1, g2⟩ := fr.append hj E hcs hl (hsrc ids H fr) hnew h1 hb hm
    exact ⟨_, _, H', opD_append hop hcal (show argsD (evS P (VS.ss ⟨l, loc, cl, kB⟩ ids n H)) c.args.toList = some [.slice ad L.length cap, sv] from argsV_eq (x := ⟨l, loc, cl, kB⟩) hargs) g1, g2, a', cap', by rw [List.length_append], rfl⟩
  · rintro v e' ⟨a', cap', rfl, rfl⟩
    exact hk a' cap'
end rules
end Go.Det

set_option linter.unusedSimpArgs false
set_option linter.unusedVariables false
namespace Go.Det
open Go Go.RowKit
theorem RepL.all {α : Type} {c : Cod α} {n : Nat} {B : Hp} {p : Value → Bool} (h : ∀ cs x, c.rep n B cs x → cs.all p = true) : ∀ {l : List α} {cs : List Value}, RepL c n B cs l → cs.all p = true
  | [], _, e => by simp only [RepL] at e; subst e; rfl
  | _ :: _, _, ⟨_, _, e, h1, h2⟩ => by subst e; rw [List.all_append, h _ _ h1, RepL.all h h2]; rfl
end Go.Det

set_option linter.unusedSimpArgs false
set_option linter.unusedVariables false
namespace Go.Det
open Go Go.RowKit
section rules
variable {P : Program} {Q : Ex → SS → Prop} {n : NN} {B0 B : Hp} {own : List OwnE} {k : KK} {a : Array Oper} {x x'' : VS} {loc : List (List Value)}
theorem WD.so {m' i' m i : Nat} {o : Oper} {j : Nat} {l : VEnv} {cl : Bool} {kB : Nat} {R : Value → OwnE → Prop} (hs : dSym P n a false 0 m i x = .hard m' i' ⟨l, loc, cl, kB⟩) (ho : a[i']? = some o) (hg : gdV a l o = some true) (hd : notDefer o.op = true)
    (he : ∀ ids H, WF B0 B own loc ids H → ∃ v e' H', opD P H (evS P (VS.ss ⟨l, loc, cl, kB⟩ ids n H)) o = some (.val v H') ∧ WF B0 B (own.set j e') loc ids H' ∧ R v e')
    (hk : ∀ v e', R v e' → ∃ x'', putV ⟨l, loc, true, 0⟩ n o.dst (.v v) = some x'' ∧ WD P n B0 B B0 0 (own.set j e') a false m' (i' + 1) k Q x'') : WD P n B0 B B0 0 own a false m i k Q x := by
  refine WD.sym hs fun ids H s0 h0 f => ?_
  obtain ⟨v, e', H', g1, g2, g3⟩ := he ids H f.fr
  obtain ⟨y, hp, h⟩ := hk v e' g3
  obtain ⟨p1, p2, p3, p4⟩ := putV_eq ids H H' hp
  refine JD.val (s' := y.ss ids n H') ?_ side_no (h ids _ s0 h0 ?_)
  · unfold doOp
    have hg' := gdV_eq (x := ⟨l, loc, cl, kB⟩) ids n H hg
    simp only [ho, hg', hd]
    rw [show (VS.ss ⟨l, loc, cl, kB⟩ ids n H).H = H from rfl, g1]
    simp only
    have p1' : putS (VS.ss ⟨l, loc, cl, kB⟩ ids n H) o.dst v H' = some (y.ss ids n H') := by rw [← p1]; cases o.dst <;> rfl
    rw [p1']
  · rw [p2]
    exact ⟨g2, g2.ext0, f.newD, f.oldD, f.kle⟩
theorem WD.sb {m' i' m i : Nat} {o : Oper} {l : VEnv} {cl : Bool} {kB j b off cap sz : Nat} {t : TypeId} {pa px : Operand} {v : Value} {cs cs' : List Value} (hs : dSym P n a false 0 m i x = .hard m' i' ⟨l, loc, cl, kB⟩) (ho : a[i']? = some o) (hg : gdV a l o = some true) (hd : notDefer o.op = true)
    (hop : o.op = .store t pa px) (hpa : evV P l pa = some (.v (.pointer (some ⟨b, off, none⟩)))) (hpx : evV P l px = some (.v v)) (hj : own[j]? = some ⟨some ⟨b, 0, none⟩, cap, sz, cs⟩) (hst : storeC P t cs off v = some cs') (hp : putV ⟨l, loc, true, 0⟩ n o.dst (.v undef) = some x'')
    (h : WD P n B0 B B0 0 (own.set j ⟨some ⟨b, 0, none⟩, cap, sz, cs'⟩) a false m' (i' + 1) k Q x'') (hz : sz ≠ 0 := by decide) : WD P n B0 B B0 0 own a false m i k Q x := by
  refine WD.so (j := j) (R := fun v e' => v = undef ∧ e' = ⟨some ⟨b, 0, none⟩, cap, sz, cs'⟩) hs ho hg hd (fun ids H fr => ?_) ?_
  · have hblk := (fr.mine j _ hj).blk_lt (b := b) (by simp [OwnE.blk])
    unfold storeC at hst
    split at hst
    case h_2 => cases hst
    rename_i nn hm
    split at hst
    case h_2 => cases hst
    rename_i h1
    split at hst
    case h_2 => cases hst
    rename_i h2
    split at hst
    case h_2 => cases hst
    rename_i h3
    cases hst
    have hlen : (wr cs off v.cells.toList).length = cs.length := wr_length _ _ _
    rcases fr.mine j _ hj with ⟨q, _, _⟩ | ⟨c, q, _, _, h4⟩
    · cases q
    · cases q
      have hget : ∃ md, md ≠ .old ∧ H.get b = some (.cells md cs) ∧ (⟨some ⟨b, 0, none⟩, cap, sz, wr cs off v.cells.toList⟩ : OwnE).ok B0.next (H.put b (.cells md (wr cs off v.cells.toList))) := by
        rcases h4 with ⟨r1, r2, mt, r3⟩ | ⟨r1, r2, r3⟩ | ⟨r1, _⟩
        rotate_right
        · exact absurd r1 hz
        · exact ⟨.more sz mt, by simp, r3, .inr ⟨b, rfl, hblk.1, hblk.2, .inl ⟨r1, fun q => r2 (List.length_eq_zero_iff.1 (by rw [← hlen, show wr cs off v.cells.toList = [] from q]; rfl)), mt, by rw [Hp.get_put, if_pos rfl]⟩⟩⟩
        · exact ⟨.fix, by simp, r3, .inr ⟨b, rfl, hblk.1, hblk.2, .inr (.inl ⟨r1, by rw [hlen]; exact r2, by rw [Hp.get_put, if_pos rfl]⟩)⟩⟩
      obtain ⟨md, hmd, hgt, hok⟩ := hget
      refine ⟨undef, ⟨some ⟨b, 0, none⟩, cap, sz, wr cs off v.cells.toList⟩, H.put b (.cells md (wr cs off v.cells.toList)), opD_store hop (evV_eq P _ ids n H hpa) (evV_eq P _ ids n H hpx) ?_, ?_, rfl, rfl⟩
      · simp only [den, storeD, hgt]
        exact if_pos ⟨hmd, by rw [hm, Nat.eq_of_beq_eq_true h1], Nat.le_of_ble_eq_true h2, h3⟩
      · refine fr.setOwn hj (Nat.le_refl _) (fun c hc hcb => ?_) hok (fun c hc => .inr ?_)
        · rw [Hp.get_put, if_neg (fun q => hcb (by simp [OwnE.blk, q]))]
        · simpa [OwnE.blk] using hc
  · rintro v' e' ⟨rfl, rfl⟩
    exact ⟨_, hp, h⟩
end rules
end Go.Det

set_option linter.unusedSimpArgs false
set_option linter.unusedVariables false
namespace Go.Det
open Go Go.RowKit
section frames
variable {P : Program} {B0 B : Hp} {own : List OwnE} {loc : List (List Value)} {ids : Nat → Nat} {H : Hp}
theorem WF.ownLt (fr : WF B0 B own loc ids H) : ∀ (j : Nat) (e : OwnE) (b : Nat), own[j]? = some e → e.blk = some b → b < H.next := fun j e b h1 h2 => ((fr.mine j e h1).blk_lt h2).2
end frames
section rules
variable {P : Program} {Q : Ex → SS → Prop} {n : NN} {B0 B : Hp} {own : List OwnE} {k k' : KK} {a : Array Oper} {x : VS}
theorem WJ.drCG {id m c : Nat} {l : VEnv} {loc : List (List Value)} {cl : Bool} {kB : Nat} (N : Nat) (hs : vSym P n N k x = .draw id a k' ⟨l, loc, cl, kB⟩) (hmix : P.follows .mixedOrders = true) (hok : okDraw P a = true) (hc : cutOk P a c = true) (hm : a.size = c + m) (hm0 : Nat.blt 0 m = true)
    (h : ∀ D, Ext B0 D → Abv 0 B D → (∀ (j : Nat) (e : OwnE) (b : Nat), own[j]? = some e → e.blk = some b → b < D.next) → WD P n B0 B D loc.length own a true c 0 [] (Ph2 P a m c k' Q) ⟨l, loc, cl, kB⟩) : WJ P n B0 B own k Q x := by
  rw [Nat.blt_eq] at hm0
  refine WJ.sym N hs fun ids H fr => ?_
  refine J.drawC hmix hok hc hm hm0 ?_
  have := h H fr.ext0 fr.abv fr.ownLt ids H (VS.ss ⟨l, loc, cl, kB⟩ ids n H) rfl (WFD.start fr)
  obtain ⟨f, h1, h2, s', h3, h4, h5⟩ := this
  exact ⟨f, h1, h2, s', h3, h4 rfl, h5.2⟩
end rules
end Go.Det

set_option linter.unusedSimpArgs false
set_option linter.unusedVariables false
namespace Go.Det
open Go Go.RowKit
section rules
variable {P : Program} {Q : Ex → SS → Prop} {n : NN} {B0 B D : Hp} {kD : Nat} {own : List OwnE} {k : KK} {a : Array Oper} {fl : Bool} {x x'' : VS} {loc : List (List Value)}
end rules
end Go.Det

set_option linter.unusedSimpArgs false
set_option linter.unusedVariables false
namespace Go.Det
open Go Go.RowKit
def DOut.dn : DOut → VS
  | .done x => x
  | _ => ⟨[], [], true, 0⟩
section rules
variable {P : Program} {Q : Ex → SS → Prop} {n : NN} {B0 B D : Hp} {kD : Nat} {own : List OwnE} {k : KK} {a : Array Oper} {fl : Bool} {x x'' : VS} {loc : List (List Value)}
theorem WJ.lc {l : VEnv} {loc' : List (List Value)} {cl : Bool} {kB : Nat} (h : WJ P n B0 B own k Q ⟨l, loc', cl, kB⟩) (e : loc = loc') : WJ P n B0 B own k Q ⟨l, loc, cl, kB⟩ := e ▸ h
end rules
end Go.Det

set_option linter.unusedSimpArgs false
set_option linter.unusedVariables false
namespace Go.Det
open Go Go.RowKit

/-! ## 73. A slice held against nil -/
section
variable {P : Program} {H : Hp} {ev : Ev} {o : Oper}
theorem opD_slS {t u : TypeId} {x y : Operand} {el : TypeId} {a : Addr} {l c : Nat} (ho : o.op = .binOp .eql t x y u) (hx : ev x = some (.slice (some a) l c)) (hy : ev y = some (.slice none 0 0)) (hu : P.underlying t = some (.slice el)) : opD P H ev o = some (.val (.bool false) H) :=
  opD_bin ho hx hy (by simp only [binD, nilD, hu, nilEq])
theorem opD_slN {t u : TypeId} {x y : Operand} {el : TypeId} (ho : o.op = .binOp .eql t x y u) (hx : ev x = some (.slice none 0 0)) (hy : ev y = some (.slice none 0 0)) (hu : P.underlying t = some (.slice el)) : opD P H ev o = some (.val (.bool true) H) :=
  opD_bin ho hx hy (by simp only [binD, nilD, hu, nilEq, Option.isNone])
end
theorem SlF.none_inv {α : Type} {c : Cod α} {n : Nat} {H : Hp} {cap : Nat} {l : List α} (h : SlF n H c none cap l) : l = [] ∧ cap = 0 := by
  rcases h with ⟨_, h1, h2⟩ | h
  · first | exact ⟨h1, h2⟩ | exact ⟨h2, h1⟩
  · obtain ⟨b, o, cs, h, _⟩ := h
    cases h
end Go.Det
