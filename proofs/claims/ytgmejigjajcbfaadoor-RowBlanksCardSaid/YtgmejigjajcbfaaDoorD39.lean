import Derived.Test.YtgmejigjajcbfaaDoorD38
set_option linter.unusedSimpArgs false
set_option linter.unusedVariables false
namespace Go.Det
open Go Go.RowKit
section rules
variable {P : Program} {Q : Ex → SS → Prop} {n : NN} {B0 B D : Hp} {kD : Nat} {k : KK} {a : Array Oper} {fl : Bool}

/-- A comparison reads no memory. -/
theorem side_bin {i : Nat} {o : Oper} {s : SS} {x : VS} {ids : Nat → Nat} {H : Hp} (ho : a[i]? = some o) (hr : cls P o.op = some .pure) (h0 : s.H = D) (f : FrD B0 B D kD x.cl x.kB x.loc ids H) : side P a fl s.st i (x.ss ids n H).st := by
  intro hfl
  refine ⟨by show Ext s.H H; rw [h0]; exact f.extD, fun hf => ?_⟩
  unfold floating at hf
  rw [ho] at hf
  simp [isRead, hr] at hf

/-- A comparison of plain values: both ways. -/
theorem VD.cm {m m' i i' : Nat} {x x' x1 x2 : VS} {o : Oper} {b : Bool} {H0 : Hp} (hs : dSym P n a fl kD m i x = .cmp m' i' x') (ho : a[i']? = some o) (hg : gdV a x'.l o = some true) (hd : notDefer o.op = true) (hp : o.op.operands.toList.all (isPlain P x'.l) = true) (hc : cls P o.op = some .pure)
    (he : opD P ⟨.nil, 0, 0⟩ (evPlain P x'.l) o = some (.val (.bool b) H0)) (hp1 : putV x' n o.dst (.v (.bool true)) = some x1) (hp2 : putV x' n o.dst (.v (.bool false)) = some x2)
    (h1 : b = true → VD P n B0 B D kD a fl m' (i' + 1) k Q x1) (h2 : b = false → VD P n B0 B D kD a fl m' (i' + 1) k Q x2) : VD P n B0 B D kD a fl m i k Q x := by
  refine VD.sym hs fun ids H s0 h0 f => ?_
  have hgen : genV P x' o = .val (.v (.bool b)) := by unfold genV; simp only [hp, hc, he]
  have e1 := genV_ok (ids := ids) (n := n) (H := H) hgen
  cases b with
  | true =>
    obtain ⟨p1, p2, p3, p4⟩ := putV_eq ids H H hp1
    refine JD.val (s' := x1.ss ids n H) ?_ (side_bin ho hc h0 f) (h1 rfl ids H s0 h0 (by rw [p2, p3, p4]; exact f))
    unfold doOp
    simp only [ho, gdV_eq ids n H hg, hd]
    rw [show (x'.ss ids n H).H = H from rfl, e1]
    simp only; rw [p1]
  | false =>
    obtain ⟨p1, p2, p3, p4⟩ := putV_eq ids H H hp2
    refine JD.val (s' := x2.ss ids n H) ?_ (side_bin ho hc h0 f) (h2 rfl ids H s0 h0 (by rw [p2, p3, p4]; exact f))
    unfold doOp
    simp only [ho, gdV_eq ids n H hg, hd]
    rw [show (x'.ss ids n H).H = H from rfl, e1]
    simp only; rw [p1]
end rules
end Go.Det
