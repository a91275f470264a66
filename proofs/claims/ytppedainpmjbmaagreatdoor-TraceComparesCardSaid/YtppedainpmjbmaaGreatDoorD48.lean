import Derived.Test.YtppedainpmjbmaaGreatDoorD47
set_option linter.unusedSimpArgs false
set_option linter.unusedVariables false
namespace Go.Det
open Go Go.RowKit
section rules
variable {P : Program} {Q : Ex → SS → Prop} {n : NN} {B0 B D : Hp} {kD : Nat} {own : List OwnE} {k k' : KK} {x x' x'' : VS} {a : Array Oper} {fl : Bool} {m i : Nat} {loc : List (List Value)}
theorem WD.own' {own' : List OwnE} (h0 : ∀ ids H, WF B0 B own x.loc ids H → WF B0 B own' x.loc ids H) (h : WD P n B0 B D kD own' a fl m i k Q x) : WD P n B0 B D kD own a fl m i k Q x :=
  fun ids H s0 hs f => h ids H s0 hs ⟨h0 ids H f.fr, f.extD, f.newD, f.oldD, f.kle⟩
theorem WD.nw (sz : Nat) (h : WD P n B0 B D kD (own ++ [⟨none, 0, sz, []⟩]) a fl m i k Q x) : WD P n B0 B D kD own a fl m i k Q x := WD.own' (fun _ _ fr => fr.addNil sz) h
theorem WD.pop (O : List OwnE) (hO : own.take O.length = O) (h : WD P n B0 B D kD O a fl m i k Q x) : WD P n B0 B D kD own a fl m i k Q x := WD.own' (fun _ _ fr => fr.firsts (by simp) hO) h
theorem WD.bs {m' i' : Nat} {o : Oper} {l : VEnv} {cl : Bool} {kB t len sz : Nat} {parts : Array (Nat × Operand)} {pl : List (Nat × Value)} {cs : List Value} (hs : dSym P n a fl kD m i x = .hard m' i' ⟨l, loc, cl, kB⟩) (ho : a[i']? = some o) (hg : gdV a l o = some true) (hd : notDefer o.op = true)
    (hop : o.op = .buildSlice t len parts) (hpl : ∀ ids H, partsD (evS P (VS.ss ⟨l, loc, cl, kB⟩ ids n H)) parts.toList = some pl) (hbs : ∀ H, buildSliceD P H t len pl = some (.slice (some ⟨H.next, 0, none⟩) len len, H.alloc (.cells .fix cs))) (hsz : len * sz = cs.length) (hlt : Nat.blt len LOOSE = true)
    (hk : ∀ b, ∃ x'', putV ⟨l, loc, true, 0⟩ n o.dst (.v (.slice (some ⟨b, 0, none⟩) len len)) = some x'' ∧ WD P n B0 B D kD (own ++ [⟨some ⟨b, 0, none⟩, len, sz, cs⟩]) a fl m' (i' + 1) k Q x'') : WD P n B0 B D kD own a fl m i k Q x := by
  refine WD.sym hs fun ids H s0 h0 f => ?_
  obtain ⟨y, hp, h⟩ := hk H.next
  obtain ⟨p1, p2, p3, p4⟩ := putV_eq ids H (H.alloc (.cells .fix cs)) hp
  have hr : isRead P o = false := by unfold isRead; rw [hop]; rfl
  refine JD.val (s' := y.ss ids n (H.alloc (.cells .fix cs))) ?_ (side_pure ho hr h0 f) (h ids _ s0 h0 ?_)
  · unfold doOp
    have hg' := gdV_eq (x := ⟨l, loc, cl, kB⟩) ids n H hg
    simp only [ho, hg', hd]
    rw [show (VS.ss ⟨l, loc, cl, kB⟩ ids n H).H = H from rfl, opD_buildSlice hop (hpl ids H) (hbs H)]
    simp only
    have p1' : putS (VS.ss ⟨l, loc, cl, kB⟩ ids n H) o.dst (.slice (some ⟨H.next, 0, none⟩) len len) (H.alloc (.cells .fix cs)) = some (y.ss ids n (H.alloc (.cells .fix cs))) := by rw [← p1]; cases o.dst <;> rfl
    rw [p1']
  · rw [p2]
    exact ⟨f.fr.addFix cs len sz hsz (by rw [Nat.blt_eq] at hlt; exact hlt), f.extD.alloc _, f.newD, f.oldD, f.kle⟩
section flat
variable {α : Type} {enc : α → List Value}
theorem WD.ap {m' i' : Nat} {o : Oper} {l : VEnv} {cl : Bool} {kB t et sz by_ : Nat} {c : Call} {ad : Option Addr} {cap : Nat} {sv : Value} {L L2 : List α} (j : Nat) (hs : dSym P n a false 0 m i x = .hard m' i' ⟨l, loc, cl, kB⟩) (ho : a[i']? = some o) (hg : gdV a l o = some true) (hd : notDefer o.op = true)
    (hop : o.op = .call c) (hcal : c.callee = .builtin .append) (hargs : argsV P l c.args.toList = some [.v (.slice ad L.length cap), .v sv]) (hj : own[j]? = some ⟨ad, cap, sz, encL enc L⟩) (E : Elem P c t et sz by_) (hby : Nat.blt 0 by_ = true) (he : ∀ x, (enc x).length = sz) (h1 : ∀ x, ((enc x).all fun v => v.oneCell') = true)
    (hl : lenD sv = some L2.length) (hsrc : ∀ ids H, WF B0 B own loc ids H → srcD H sz sv L2.length = some (encL enc L2)) (hb : (L.length + L2.length) * by_ ≤ 140737488355328)
    (hk : ∀ a' cap', ∃ x'', putV ⟨l, loc, true, 0⟩ n o.dst (.v (.slice a' (L ++ L2).length cap')) = some x'' ∧ WD P n B0 B B0 0 (own.set j ⟨a', cap', sz, encL enc (L ++ L2)⟩) a false m' (i' + 1) k Q x'') : WD P n B0 B B0 0 own a false m i k Q x := by
  rw [Nat.blt_eq] at hby
  have hm : L.length + L2.length ≤ 140737488355328 := Nat.le_trans (Nat.le_mul_of_pos_right _ hby) hb
  refine WD.sym hs fun ids H s0 h0 f => ?_
  obtain ⟨a', cap', H', g1, g2⟩ := f.fr.append hj E (encL_length he L) hl (hsrc ids H f.fr) (encL_length he L2) (encL_all h1 L2) hb hm
  obtain ⟨y, hp, h⟩ := hk a' cap'
  obtain ⟨p1, p2, p3, p4⟩ := putV_eq ids H H' hp
  have he := opD_append hop hcal (show argsD (evS P (VS.ss ⟨l, loc, cl, kB⟩ ids n H)) c.args.toList = some [.slice ad L.length cap, sv] from argsV_eq (x := ⟨l, loc, cl, kB⟩) hargs) g1
  refine JD.val (s' := y.ss ids n H') ?_ side_no (h ids _ s0 h0 ?_)
  · unfold doOp
    have hg' := gdV_eq (x := ⟨l, loc, cl, kB⟩) ids n H hg
    simp only [ho, hg', hd]
    rw [show (VS.ss ⟨l, loc, cl, kB⟩ ids n H).H = H from rfl, he]
    simp only
    have p1' : putS (VS.ss ⟨l, loc, cl, kB⟩ ids n H) o.dst (.slice a' (L.length + L2.length) cap') H' = some (y.ss ids n H') := by rw [← p1, ← List.length_append]; cases o.dst <;> rfl
    rw [p1']
  · rw [p2]
    refine ⟨?_, ?_, f.newD, f.oldD, f.kle⟩
    · rw [encL_append]; exact g2
    · exact g2.ext0
end flat
end rules
end Go.Det
