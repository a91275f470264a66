import Derived.Test.YtgmejigjajcbfaaDoorD58
import Derived.Lib.CutLaws
set_option linter.unusedSimpArgs false
set_option linter.unusedVariables false
namespace Go.Det
open Go Go.RowKit

/-! ## 47. Parts of strings -/
def sub (s : List UInt8) (lo hi : Int) : Option (List UInt8) := if 0 ≤ lo ∧ lo ≤ hi ∧ hi ≤ (s.length : Int) then some ((s.drop lo.toNat).take (hi.toNat - lo.toNat)) else none
theorem bs_extract (s : List UInt8) (l h : Nat) : (bs s).extract l h = bs ((s.drop l).take (h - l)) := by
  have : ((bs s).extract l h).data.toList = (s.drop l).take (h - l) := by
    simp [bs, ByteArray.data_extract]
  unfold bs at *
  cases hx : ByteArray.extract ⟨s.toArray⟩ l h with
  | mk d => rw [hx] at this; simp only at this; rw [← this]
section
variable {P : Program} {H : Hp} {ev : Ev} {o : Oper}
theorem sliceD_lh {t : TypeId} {s r : List UInt8} {l h : Int} {k k' : IntKind} (hu : P.underlying t = some .string) (e : sub s l h = some r) : sliceD P H t (.string (bs s)) (some (.int k l)) (some (.int k' h)) none = some (.string (bs r)) := by
  unfold sub at e
  split at e
  · rename_i hh
    cases e
    have h1 : optB (some (.int k' h)) (bs s).size (bs s).size = some h.toNat := by
      simp only [optB, boundD]; rw [if_pos ⟨by omega, hh.2.2⟩]
    have h2 : optB (some (.int k l)) h.toNat 0 = some l.toNat := by
      simp only [optB, boundD]; rw [if_pos ⟨by omega, by omega⟩]
    simp only [sliceD, hu, h1, h2, bs_extract]
  · cases e
theorem sliceD_l {t : TypeId} {s r : List UInt8} {l : Int} {k : IntKind} (hu : P.underlying t = some .string) (e : sub s l (s.length : Int) = some r) : sliceD P H t (.string (bs s)) (some (.int k l)) none none = some (.string (bs r)) := by
  unfold sub at e
  split at e
  · rename_i hh
    cases e
    have h1 : optB none (bs s).size (bs s).size = some s.length := rfl
    have h2 : optB (some (.int k l)) s.length 0 = some l.toNat := by
      simp only [optB, boundD]; rw [if_pos ⟨by omega, by omega⟩]
    simp only [sliceD, hu, h1, h2, bs_extract]
    rw [Int.toNat_natCast]
  · cases e
theorem sliceD_h {t : TypeId} {s r : List UInt8} {h : Int} {k' : IntKind} (hu : P.underlying t = some .string) (e : sub s 0 h = some r) : sliceD P H t (.string (bs s)) none (some (.int k' h)) none = some (.string (bs r)) := by
  unfold sub at e
  split at e
  · rename_i hh
    cases e
    have h1 : optB (some (.int k' h)) (bs s).size (bs s).size = some h.toNat := by
      simp only [optB, boundD]; rw [if_pos ⟨by omega, hh.2.2⟩]
    have h2 : optB none h.toNat 0 = some 0 := rfl
    simp only [sliceD, hu, h1, h2, bs_extract]
    rfl
  · cases e
theorem opD_slh {t : TypeId} {x lo hi : Operand} {a l h v : Value} (ho : o.op = .slice t x (some lo) (some hi) none) (hx : ev x = some a) (h1 : ev lo = some l) (h2 : ev hi = some h) (e : sliceD P H t a (some l) (some h) none = some v) : opD P H ev o = some (.val v H) :=
  opD_slice ho hx (by simp [OptEv, h1]) (by simp [OptEv, h2]) rfl e
theorem opD_sl {t : TypeId} {x lo : Operand} {a l v : Value} (ho : o.op = .slice t x (some lo) none none) (hx : ev x = some a) (h1 : ev lo = some l) (e : sliceD P H t a (some l) none none = some v) : opD P H ev o = some (.val v H) :=
  opD_slice ho hx (by simp [OptEv, h1]) rfl rfl e
theorem opD_sh {t : TypeId} {x hi : Operand} {a h v : Value} (ho : o.op = .slice t x none (some hi) none) (hx : ev x = some a) (h2 : ev hi = some h) (e : sliceD P H t a none (some h) none = some v) : opD P H ev o = some (.val v H) :=
  opD_slice ho hx rfl (by simp [OptEv, h2]) rfl e
theorem opD_s {t : TypeId} {x : Operand} {a v : Value} (ho : o.op = .slice t x none none none) (hx : ev x = some a) (e : sliceD P H t a none none none = some v) : opD P H ev o = some (.val v H) :=
  opD_slice ho hx rfl rfl rfl e
/-! Comparisons with nil -/
theorem eq_nilIf {t : TypeId} {w : Array (String × TypeId)} (hu : P.underlying t = some (.interface w)) : ∀ D, 0 < D → pureRun P (Op.equalIn D t .nilIface .nilIface) = some true
  | 0, h => absurd h (by decide)
  | D + 1, _ => by
    unfold Op.equalIn
    simp only [pureRun_bind, pureRun_underlying hu, Option.bind_some]; rfl
theorem opD_ifE {t u : TypeId} {x y : Operand} {e : TypeId} {v : Value} {w : Array (String × TypeId)} (ho : o.op = .binOp .eql t x y u) (hx : ev x = some (.iface e v)) (hy : ev y = some .nilIface) (hu : P.underlying t = some (.interface w)) : opD P H ev o = some (.val (.bool false) H) :=
  opD_bin ho hx hy (by simp only [binD, nilD, hu, nilEq])
theorem opD_ifN {t u : TypeId} {x y : Operand} {e : TypeId} {v : Value} {w : Array (String × TypeId)} (ho : o.op = .binOp .neq t x y u) (hx : ev x = some (.iface e v)) (hy : ev y = some .nilIface) (hu : P.underlying t = some (.interface w)) : opD P H ev o = some (.val (.bool true) H) :=
  opD_bin ho hx hy (by simp only [binD, nilD, hu, nilEq]; rfl)
theorem opD_nnE {t u : TypeId} {x : Operand} {w : Array (String × TypeId)} (ho : o.op = .binOp .eql t x (.const .nilIface) u) (hx : ev x = some .nilIface) (hy : ev (.const .nilIface) = some .nilIface) (hu : P.underlying t = some (.interface w)) : opD P H ev o = some (.val (.bool true) H) := by
  have hr : pureRun P (execOp (fun x => (ev x).getD undef) o) = some (.value (.bool true)) := by
    unfold execOp
    simp only [ho, hx, hy, Option.getD_some]
    have hq : pureRun P (eqGuard .eql t x (.const .nilIface) .nilIface .nilIface) = some () := by
      unfold eqGuard; cases x <;> rfl
    have he := eq_nilIf hu Op.maxDepth (by decide)
    have hb : pureRun P (binOp .eql t .nilIface .nilIface) = some (.bool true) := by
      show pureRun P (Op.equalIn Op.maxDepth t .nilIface .nilIface >>= fun r => pure (Value.bool r)) = _
      rw [pureRun_bind, he]; rfl
    simp only [pureRun_bind, hq, hb, Option.bind_some]; rfl
  have hgd : genD P ev o = some (.bool true) := by
    unfold genD
    rw [if_pos (by simp only [ho, Op.operands]; simp [hx, hy, flat])]
    simp only [hr]
    rfl
  refine opD_bin ho hx hy ?_
  simp only [binD, nilD, hu, nilEq, hgd]
theorem opD_nnN {t u : TypeId} {x : Operand} {w : Array (String × TypeId)} (ho : o.op = .binOp .neq t x (.const .nilIface) u) (hx : ev x = some .nilIface) (hy : ev (.const .nilIface) = some .nilIface) (hu : P.underlying t = some (.interface w)) : opD P H ev o = some (.val (.bool false) H) := by
  have hr : pureRun P (execOp (fun x => (ev x).getD undef) o) = some (.value (.bool false)) := by
    unfold execOp
    simp only [ho, hx, hy, Option.getD_some]
    have hq : pureRun P (eqGuard .neq t x (.const .nilIface) .nilIface .nilIface) = some () := by
      unfold eqGuard; cases x <;> rfl
    have he := eq_nilIf hu Op.maxDepth (by decide)
    have hb : pureRun P (binOp .neq t .nilIface .nilIface) = some (.bool false) := by
      show pureRun P (Op.equalIn Op.maxDepth t .nilIface .nilIface >>= fun r => pure (Value.bool (!r))) = _
      rw [pureRun_bind, he]; rfl
    simp only [pureRun_bind, hq, hb, Option.bind_some]; rfl
  have hgd : genD P ev o = some (.bool false) := by
    unfold genD
    rw [if_pos (by simp only [ho, Op.operands]; simp [hx, hy, flat])]
    simp only [hr]
    rfl
  refine opD_bin ho hx hy ?_
  simp only [binD, nilD, hu, nilEq, hgd]
end
section
variable {P : Program} {a : Array Oper} {fl : Bool} {n : NN} {B0 B D : Hp} {kD : Nat} {own : List OwnE}
/-- A string that is read from. -/
theorem side_str {i : Nat} {o : Oper} {t : TypeId} {z : Operand} {lo hi mx : Option Operand} {y : ByteArray} {s : SS} {x : VS} {loc : List (List Value)} {ids : Nat → Nat} {H : Hp} (ho : a[i]? = some o) (hop : o.op = .slice t z lo hi mx) (hz : evV P x.l z = some (.v (.string y))) (h0 : s.H = D) (f : WFD B0 B D kD own loc ids H) : side P a fl s.st i (x.ss ids n H).st := by
  intro hfl
  refine ⟨by show Ext s.H H; rw [h0]; exact f.extD, fun hf o' ho' b' hb' => ?_⟩
  rw [ho] at ho'; cases ho'
  rw [hop] at hb'
  simp only [readBlk] at hb'
  rw [evS_eq, evV_eq P x ids n H hz] at hb'
  simp only [den, slBlk, noRd, blkOf] at hb'
  cases hb'
end
/-- An error: nil or not. -/
def errR (b : Bool) (y : Value) : Prop := match b with | true => y = .nilIface | false => ∃ t z, y = .iface t z
end Go.Det
