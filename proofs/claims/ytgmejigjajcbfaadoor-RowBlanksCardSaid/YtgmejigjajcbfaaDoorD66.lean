import Derived.Test.YtgmejigjajcbfaaDoorD65
set_option linter.unusedSimpArgs false
set_option linter.unusedVariables false
namespace Go.Det
open Go Go.RowKit

/-! ## 59. Appends to nothing in regions that draw -/
theorem appendD_ext0 {P : Program} {H H' : Hp} {ts : Array TypeId} {a : Option Addr} {x v : Value} (e : appendD P H ts (.slice a 0 0) x = some (v, H')) : Ext H H' := by
  unfold appendD at e
  repeat' split at e
  all_goals first
    | (cases e; done)
    | (cases e; exact Ext.refl _)
    | (cases e; exact (Ext.refl _).alloc _)
    | (unfold appendZD at e
       repeat' split at e
       all_goals first
         | (cases e; done)
         | (cases e; exact (Ext.refl _).alloc _))
    | (exfalso
       have hL : LOOSE = 18446744073709551616 := rfl
       simp_all
       done)
    | (exfalso
       have hL : LOOSE = 18446744073709551616 := rfl
       simp_all
       omega)
section
variable {P : Program} {Q : Ex → SS → Prop} {n : NN} {B0 B D : Hp} {kD : Nat} {own : List OwnE} {k k' : KK} {x x' x'' : VS} {a : Array Oper} {fl : Bool} {m i : Nat} {loc : List (List Value)} {α : Type} {enc : α → List Value}
theorem WD.ap0 {m' i' : Nat} {o : Oper} {l : VEnv} {cl : Bool} {kB t et sz by_ : Nat} {c : Call} {ad : Option Addr} {sv : Value} {L2 : List α} (j : Nat) (hs : dSym P n a fl kD m i x = .hard m' i' ⟨l, loc, cl, kB⟩) (ho : a[i']? = some o) (hg : gdV a l o = some true) (hd : notDefer o.op = true)
    (hop : o.op = .call c) (hcal : c.callee = .builtin .append) (hargs : argsV P l c.args.toList = some [.v (.slice ad 0 0), .v sv]) (hj : own[j]? = some ⟨ad, 0, sz, encL enc []⟩) (E : Elem P c t et sz by_) (hby : Nat.blt 0 by_ = true) (he : ∀ x, (enc x).length = sz) (h1 : ∀ x, ((enc x).all fun v => v.oneCell') = true)
    (hl : lenD sv = some L2.length) (hsrc : ∀ ids H, WF B0 B own loc ids H → srcD H sz sv L2.length = some (encL enc L2)) (hb : (([] : List α).length + L2.length) * by_ ≤ 140737488355328)
    (hk : ∀ a' cap', ∃ x'', putV ⟨l, loc, true, 0⟩ n o.dst (.v (.slice a' ([] ++ L2).length cap')) = some x'' ∧ WD P n B0 B D kD (own.set j ⟨a', cap', sz, encL enc ([] ++ L2)⟩) a fl m' (i' + 1) k Q x'') : WD P n B0 B D kD own a fl m i k Q x := by
  rw [Nat.blt_eq] at hby
  have hm : ([] : List α).length + L2.length ≤ 140737488355328 := Nat.le_trans (Nat.le_mul_of_pos_right _ hby) hb
  refine WD.sym hs fun ids H s0 h0 f => ?_
  obtain ⟨a', cap', H', g1, g2⟩ := f.fr.append hj E (encL_length he []) hl (hsrc ids H f.fr) (encL_length he L2) (encL_all h1 L2) hb hm
  obtain ⟨y, hp, h⟩ := hk a' cap'
  obtain ⟨p1, p2, p3, p4⟩ := putV_eq ids H H' hp
  have hext : Ext H H' := appendD_ext0 g1
  have he := opD_append hop hcal (show argsD (evS P (VS.ss ⟨l, loc, cl, kB⟩ ids n H)) c.args.toList = some [.slice ad ([] : List α).length 0, sv] from argsV_eq (x := ⟨l, loc, cl, kB⟩) hargs) g1
  have hr : isRead P o = false := by unfold isRead; rw [hop]; simp only [cls, hcal]; rfl
  refine JD.val (s' := y.ss ids n H') ?_ (side_pure ho hr h0 f) (h ids _ s0 h0 ?_)
  · unfold doOp
    have hg' := gdV_eq (x := ⟨l, loc, cl, kB⟩) ids n H hg
    simp only [ho, hg', hd]
    rw [show (VS.ss ⟨l, loc, cl, kB⟩ ids n H).H = H from rfl, he]
    simp only
    have p1' : putS (VS.ss ⟨l, loc, cl, kB⟩ ids n H) o.dst (.slice a' (([] : List α).length + L2.length) cap') H' = some (y.ss ids n H') := by rw [← p1, ← List.length_append]; cases o.dst <;> rfl
    rw [p1']
  · rw [p2]
    refine ⟨?_, f.extD.trans hext, f.newD, f.oldD, f.kle⟩
    rw [encL_append]; exact g2
end
end Go.Det
