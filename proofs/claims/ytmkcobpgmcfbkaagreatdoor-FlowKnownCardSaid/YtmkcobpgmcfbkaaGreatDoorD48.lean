import Derived.Test.YtmkcobpgmcfbkaaGreatDoorD47
set_option linter.unusedSimpArgs false
set_option linter.unusedVariables false
namespace Go.Det
open Go Go.RowKit
section rules
variable {P : Program} {Q : Ex → SS → Prop} {n : NN} {B0 B D : Hp} {kD : Nat} {own : List OwnE} {k k' : KK} {x x' x'' : VS} {a : Array Oper} {fl : Bool} {m i : Nat} {loc : List (List Value)}
theorem WD.own' {own' : List OwnE} (h0 : ∀ ids H, WF B0 B own x.loc ids H → WF B0 B own' x.loc ids H) (h : WD P n B0 B D kD own' a fl m i k Q x) : WD P n B0 B D kD own a fl m i k Q x :=
  fun ids H s0 hs f => h ids H s0 hs ⟨h0 ids H f.fr, f.extD, f.newD, f.oldD, f.kle⟩
theorem WD.bs {m' i' : Nat} {o : Oper} {l : VEnv} {cl : Bool} {kB t len sz : Nat} {parts : Array (Nat × Operand)} {pl : List (Nat × Value)} {cs : List Value} (hs : dSym P n a fl kD m i x = .hard m' i' ⟨l, loc, cl, kB⟩) (ho : a[i']? = some o) (hg : gdV a l o = some true) (hd : notDefer o.op = true)
    (hop : o.op = .buildSlice t len parts) (hpl : ∀ ids H, partsD (evS P (VS.ss ⟨l, loc, cl, kB⟩ ids n H)) parts.toList = some pl) (hbs : ∀ H, buildSliceD P H t len pl = some (.slice (some ⟨H.next, 0, none⟩) len len, H.alloc (.cells .fix cs))) (hsz : len * sz = cs.length) (hlt : Nat.blt len LOOSE = true)
    (hk : ∀ b, ∃ x'', putV ⟨l, loc, true, 0⟩ n o.dst (.v (.slice (some ⟨b, 0, none⟩) len len)) = some x'' ∧ WD P n B0 B D kD (own ++ [⟨some ⟨b, 0, none⟩, len, sz, cs⟩]) a fl m' (i' + 1) k Q x'') : WD P n B0 B D kD own a fl m i k Q x := by
  refine WD.sym hs fun ids H s0 h0 f => ?_
  obtain ⟨y, hp, h⟩ := hk H.next
  obtain ⟨p1, p2, p3, p4⟩ := putV_eq ids H (H.alloc (.cells .fix cs)) hp
  have hr : isRead P o = false := by unfold isRead; rw [hop]; rfl
  refine JD.val (s' := y.ss ids n (H.alloc (.cells .fix cs))) ?_ (side_pure ho hr h0 f) (h ids _ s0 h0 ?_)
  · unfold doOp
    have hg' := gdV_eq (x := ⟨l, loc, cl, kB⟩) ids n H hg
    simp only [ho, hg', hd]
    rw [show (VS.ss ⟨l, loc, cl, kB⟩ ids n H).H = H from rfl, opD_buildSlice hop (hpl ids H) (hbs H)]
    simp only
    have p1' : putS (VS.ss ⟨l, loc, cl, kB⟩ ids n H) o.dst (.slice (some ⟨H.next, 0, none⟩) len len) (H.alloc (.cells .fix cs)) = some (y.ss ids n (H.alloc (.cells .fix cs))) := by rw [← p1]; cases o.dst <;> rfl
    rw [p1']
  · rw [p2]
    exact ⟨f.fr.addFix cs len sz hsz (by rw [Nat.blt_eq] at hlt; exact hlt), f.extD.alloc _, f.newD, f.oldD, f.kle⟩
section flat
variable {α : Type} {enc : α → List Value}
end flat
end rules
end Go.Det
