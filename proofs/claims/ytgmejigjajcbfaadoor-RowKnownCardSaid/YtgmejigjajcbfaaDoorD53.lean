import Derived.Test.YtgmejigjajcbfaaDoorD52
import Derived.Laws.Strings
import Derived.Lib.SmallJoins
import Derived.Laws.Shifts
set_option linter.unusedSimpArgs false
set_option linter.unusedVariables false
namespace Go.Det
open Go Go.RowKit

/-! ## 41. Shifts; strings -/
def gshl (k : IntKind) (a b : Int) : Int := k.wrap (a * 2 ^ (min b.toNat k.bits))
def gshr (k : IntKind) (a b : Int) : Int := a.fdiv (2 ^ (min b.toNat k.bits))
def scat (a b : List UInt8) : Option (List UInt8) := if a.length + b.length ≤ 9223372036854775807 then some (a ++ b) else none
theorem scat_some {a b c : List UInt8} (h : scat a b = some c) : a.length + b.length ≤ 9223372036854775807 ∧ c = a ++ b := by
  unfold scat at h
  split at h
  · rename_i q; cases h; exact ⟨q, rfl⟩
  · cases h
section ops
variable {P : Program} {H : Hp} {ev : Ev} {o : Oper}
theorem bin_shl {t : TypeId} {k k' : IntKind} {a b : Int} (hb : 0 ≤ b) : binD P ev o .shl t (.int k a) (.int k' b) = some (.int k (gshl k a b)) := by
  have : ¬ b < 0 := by omega
  simp [binD, shiftD, this, gshl]
theorem bin_shr {t : TypeId} {k k' : IntKind} {a b : Int} (hb : 0 ≤ b) : binD P ev o .shr t (.int k a) (.int k' b) = some (.int k (gshr k a b)) := by
  have : ¬ b < 0 := by omega
  simp [binD, shiftD, this, gshr]
theorem nn_u64 (n : Int) : 0 ≤ IntKind.u64.wrap n := wrap_u64_nonneg n
theorem nn_u32 (n : Int) : 0 ≤ IntKind.u32.wrap n := by simp [IntKind.wrap, IntKind.bits, IntKind.signed]; omega
theorem nn_u16 (n : Int) : 0 ≤ IntKind.u16.wrap n := by simp [IntKind.wrap, IntKind.bits, IntKind.signed]; omega
theorem nn_u8 (n : Int) : 0 ≤ IntKind.u8.wrap n := by simp [IntKind.wrap, IntKind.bits, IntKind.signed]; omega
theorem bs_append (a b : List UInt8) : bs (a ++ b) = bs a ++ bs b := by
  have h : (bs (a ++ b)).data.toList = (bs a ++ bs b).data.toList := by rw [Joins.data_append]
  cases hx : bs a ++ bs b with
  | mk d => rw [hx] at h; simp only at h; rw [← show (⟨d.toList⟩ : Array UInt8) = d from rfl, ← h]
theorem bs_size (a : List UInt8) : (bs a).size = a.length := rfl
theorem bin_sadd {t : TypeId} {a b c : List UInt8} (h : scat a b = some c) : binD P ev o .add t (.string (bs a)) (.string (bs b)) = some (.string (bs c)) := by
  obtain ⟨h1, rfl⟩ := scat_some h
  unfold binD
  simp only [strD]
  rw [if_neg, bs_append]
  rw [bs_size, bs_size]
  have : IntKind.i64.max = 9223372036854775807 := by decide
  rw [this]; omega
theorem toList_bs (a : List UInt8) : (bs a).toList = a := by rw [ByteArray.toList_eq]
theorem opD_streq {t u : TypeId} {x y : Operand} {a b : List UInt8} (ho : o.op = .binOp .eql t x y u) (hx : ev x = some (.string (bs a))) (hy : ev y = some (.string (bs b))) : opD P H ev o = some (.val (.bool (decide (a = b))) H) := by
  have h : binD P ev o .eql t (.string (bs a)) (.string (bs b)) = some (.bool (decide (a = b))) := by
    unfold binD
    simp only [strD, toList_bs]
    congr 2
    rw [Bool.eq_iff_iff]; simp
  exact opD_bin ho hx hy h
theorem opD_strne {t u : TypeId} {x y : Operand} {a b : List UInt8} (ho : o.op = .binOp .neq t x y u) (hx : ev x = some (.string (bs a))) (hy : ev y = some (.string (bs b))) : opD P H ev o = some (.val (.bool (!decide (a = b))) H) := by
  have h : binD P ev o .neq t (.string (bs a)) (.string (bs b)) = some (.bool (!decide (a = b))) := by
    unfold binD
    simp only [strD, toList_bs]
    congr 3
    rw [Bool.eq_iff_iff]; simp
  exact opD_bin ho hx hy h
theorem sidx {t : TypeId} {k : IntKind} {l : List UInt8} {i : Int} {c : UInt8} (hu : P.underlying t = some .string) (h : rd l i = some c) : indexD P t (.string (bs l)) (.int k i) = some (.int .u8 ((c.toNat : Nat) : Int)) := by
  obtain ⟨h1, h2, h3⟩ := rd_some h
  unfold indexD
  simp only [hu]
  rw [if_pos h1]
  have : (bs l)[i.toNat]? = some c := by
    show (if h : i.toNat < l.length then some _ else none) = _
    rw [dif_pos h2]
    rw [List.getElem?_eq_getElem h2] at h3
    exact h3
  simp only [this]
end ops

section rules
variable {P : Program} {Q : Ex → SS → Prop} {n : NN} {B0 B D : Hp} {own : List OwnE} (N : Nat) {k k' : KK} {x x' x'' : VS}
/-- An operation that gives the place of an own variable. -/
theorem WJ.hp {a : Array Oper} {m i : Nat} {o : Oper} {v : SV} (hs : vSym P n N k x = .hard a m i k' x') (ho : a[i]? = some o) (hg : gdV a x'.l o = some true) (hd : notDefer o.op = true)
    (he : ∀ ids H, WF B0 B own x'.loc ids H → opD P H (evS P (x'.ss ids n H)) o = some (.val (den ids v) H)) (hp : putV x' n o.dst v = some x'') (h : WJ P n B0 B own (.ops a m (i + 1) :: k') Q x'') : WJ P n B0 B own k Q x := by
  refine WJ.sym N hs fun ids H fr => ?_
  obtain ⟨p1, p2, p3, p4⟩ := putV_eq ids H H hp
  refine JK.ops (s' := x''.ss ids n H) ?_ (h ids H (by rw [p2]; exact fr))
  unfold doOp
  simp only [ho, gdV_eq ids n H hg, hd]
  rw [show (x'.ss ids n H).H = H from rfl, he ids H fr]
  simp only; rw [p1]
theorem WD.hp {a : Array Oper} {fl : Bool} {kD m m' i i' : Nat} {o : Oper} {v : SV} (hs : dSym P n a fl kD m i x = .hard m' i' x') (ho : a[i']? = some o) (hg : gdV a x'.l o = some true) (hd : notDefer o.op = true)
    (hsd : ∀ ids H (s0 : SS), s0.H = D → WFD B0 B D kD own x'.loc ids H → side P a fl s0.st i' (x'.ss ids n H).st)
    (he : ∀ ids H, WF B0 B own x'.loc ids H → opD P H (evS P (x'.ss ids n H)) o = some (.val (den ids v) H)) (hp : putV x' n o.dst v = some x'') (h : WD P n B0 B D kD own a fl m' (i' + 1) k Q x'') : WD P n B0 B D kD own a fl m i k Q x := by
  refine WD.sym hs fun ids H s0 h0 f => ?_
  obtain ⟨p1, p2, p3, p4⟩ := putV_eq ids H H hp
  refine JD.val (s' := x''.ss ids n H) ?_ (hsd ids H s0 h0 f) (h ids H s0 h0 (by rw [p2]; exact f))
  unfold doOp
  simp only [ho, gdV_eq ids n H hg, hd]
  rw [show (x'.ss ids n H).H = H from rfl, he ids H f.fr]
  simp only; rw [p1]
theorem idxOwn {P : Program} {t e len sz : Nat} {kk : IntKind} {b off : Nat} {i : Int} (hu : P.underlying t = some (.array len e)) (hz : sizeD P e = some sz) (h : 0 ≤ i ∧ i < len) : indexAddrD P t (.pointer (some ⟨b, off, none⟩)) (.int kk i) = some (.pointer (some ⟨b, off + i.toNat * sz, none⟩)) := by
  unfold indexAddrD
  simp only [hu, hz, h, and_self, if_true]
end rules
end Go.Det
