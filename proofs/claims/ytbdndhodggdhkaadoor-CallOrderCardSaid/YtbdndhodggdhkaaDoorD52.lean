import Derived.Test.YtbdndhodggdhkaaDoorD29
import Derived.Lib.LaidTab
import Derived.Lib.LaidU8
import Derived.Laws.Strings
import Derived.Lib.SmallJoins
import Derived.Laws.Shifts
import Derived.Laws.BytesArg
import Derived.Lib.CutLaws
set_option linter.unusedSimpArgs false
set_option linter.unusedVariables false
namespace Go.Det
open Go Go.RowKit

/-! ## 40. Package variables that a row lists -/
theorem laid_tab {P : Program} {W : World} {name : String} {k : IntKind} {zs : List Int} {g : Nat} {t e : TypeId} {n : Nat}
    (hg : P.globalNamed name = some g) (hty : (P.globals[g]?).map (·.type) = some t) (ht : P.underlying t = some (.array n e)) (he : P.underlying e = some (.int k)) (hce : P.cellsOf e = 1) (hct : P.cellsOf t = n)
    (h : Lib.VarReads P W name (Lib.tabData k zs)) : g < W.heap.size ∧ ∃ t fr, W.heap[g]? = some (.cells ⟨zs.map fun z => .int k z⟩ t fr) := by
  obtain ⟨g', t', cs, fuel, p, hg', hty', hv, hd⟩ := h
  rw [hg] at hg'; cases hg'
  rw [hty] at hty'; cases hty'
  have hc := Lib.cells_of_tab ht he hce hct hd
  have hcs : cs = ⟨zs.map fun z => .int k z⟩ := by rw [← hc]
  subst hcs
  unfold World.var? at hv
  rw [hg] at hv
  simp only [Option.bind_some] at hv
  split at hv
  · rename_i c1 t1 f1 hh
    cases hv
    exact ⟨(Array.getElem?_eq_some_iff.1 hh).1, _, _, hh⟩
  · cases hv

theorem Laid.tabIs {P : Program} {w : World} {B : Nat} (h : Laid w B) {g : Nat} {k : IntKind} {zs : List Int} (hm : (g, zs.map fun z => Value.int k z) ∈ seatCells) {name : String} (hg : P.globalNamed name = some g) : Lib.TabIs P w name k zs := by
  obtain ⟨_, t, fr, e⟩ := h.1 _ hm
  unfold Lib.TabIs World.var?
  rw [hg]
  simp only [Option.bind_some, e]
theorem Laid.cell {w : World} {B : Nat} (h : Laid w B) {g : Nat} {cs : List Value} (hm : (g, cs) ∈ seatCells) (j : Nat) (v : Value) (e : cs[j]? = some v) : w.cell? ⟨g, j, none⟩ = some v := by
  obtain ⟨_, t, fr, hh⟩ := h.1 _ hm
  simp [World.cell?, hh, e]
theorem GX.now {P : Program} {X : Cx} (h : GX P X) {R : Ren} {H : Hp} {w : World} (r : Rel X R H w) : Laid w w.heap.size := (h.laid.mono r.below).le r.size

/-- The kit's own contracts, where they ask for what the package's variables hold. -/
theorem SCall.ofCallsL {P : Program} {f : FuncId} {args : List Value} {v : Value} (h : ∀ w, Laid w w.heap.size → Calls P f ⟨args⟩ w fun e w' => e = .returned v ∧ Below w.heap.size w w') (ha : flats args = true) (hv : flat v = true) (H : Hp) :
    SCall P f args H (Ret fun v' H' => H' = H ∧ v' = v) := by
  refine ⟨.ret v, H, ⟨v, rfl, rfl, rfl⟩, fun X R w args' hG hR hargs cs => ?_⟩
  have he := flats_eq hargs ha
  subst he
  obtain ⟨e, w', fr, ⟨rfl, hb⟩, hc, hf, hl⟩ := h w (hG.now hR) cs
  exact ⟨R, w', .ret v, fr, Ren.le_refl R, hR.later hb, .ret (flat_refl hv), hf, hc, hl⟩
end Go.Det

set_option linter.unusedSimpArgs false
set_option linter.unusedVariables false
namespace Go.Det
open Go Go.RowKit

/-! ## 41. Shifts; strings -/
def gshl (k : IntKind) (a b : Int) : Int := k.wrap (a * 2 ^ (min b.toNat k.bits))
def gshr (k : IntKind) (a b : Int) : Int := a.fdiv (2 ^ (min b.toNat k.bits))
def scat (a b : List UInt8) : Option (List UInt8) := if a.length + b.length ≤ 9223372036854775807 then some (a ++ b) else none
theorem scat_some {a b c : List UInt8} (h : scat a b = some c) : a.length + b.length ≤ 9223372036854775807 ∧ c = a ++ b := by
  unfold scat at h
  split at h
  · rename_i q; cases h; exact ⟨q, rfl⟩
  · cases h
section ops
variable {P : Program} {H : Hp} {ev : Ev} {o : Oper}
theorem bin_shl {t : TypeId} {k k' : IntKind} {a b : Int} (hb : 0 ≤ b) : binD P ev o .shl t (.int k a) (.int k' b) = some (.int k (gshl k a b)) := by
  have : ¬ b < 0 := by omega
  simp [binD, shiftD, this, gshl]
theorem bin_shr {t : TypeId} {k k' : IntKind} {a b : Int} (hb : 0 ≤ b) : binD P ev o .shr t (.int k a) (.int k' b) = some (.int k (gshr k a b)) := by
  have : ¬ b < 0 := by omega
  simp [binD, shiftD, this, gshr]
theorem nn_u64 (n : Int) : 0 ≤ IntKind.u64.wrap n := wrap_u64_nonneg n
theorem nn_u32 (n : Int) : 0 ≤ IntKind.u32.wrap n := by simp [IntKind.wrap, IntKind.bits, IntKind.signed]; omega
theorem nn_u16 (n : Int) : 0 ≤ IntKind.u16.wrap n := by simp [IntKind.wrap, IntKind.bits, IntKind.signed]; omega
theorem nn_u8 (n : Int) : 0 ≤ IntKind.u8.wrap n := by simp [IntKind.wrap, IntKind.bits, IntKind.signed]; omega
theorem bs_append (a b : List UInt8) : bs (a ++ b) = bs a ++ bs b := by
  have h : (bs (a ++ b)).data.toList = (bs a ++ bs b).data.toList := by rw [Joins.data_append]
  cases hx : bs a ++ bs b with
  | mk d => rw [hx] at h; simp only at h; rw [← show (⟨d.toList⟩ : Array UInt8) = d from rfl, ← h]
theorem bs_size (a : List UInt8) : (bs a).size = a.length := rfl
theorem bin_sadd {t : TypeId} {a b c : List UInt8} (h : scat a b = some c) : binD P ev o .add t (.string (bs a)) (.string (bs b)) = some (.string (bs c)) := by
  obtain ⟨h1, rfl⟩ := scat_some h
  unfold binD
  simp only [strD]
  rw [if_neg, bs_append]
  rw [bs_size, bs_size]
  have : IntKind.i64.max = 9223372036854775807 := by decide
  rw [this]; omega
theorem toList_bs (a : List UInt8) : (bs a).toList = a := by rw [ByteArray.toList_eq]
theorem opD_streq {t u : TypeId} {x y : Operand} {a b : List UInt8} (ho : o.op = .binOp .eql t x y u) (hx : ev x = some (.string (bs a))) (hy : ev y = some (.string (bs b))) : opD P H ev o = some (.val (.bool (decide (a = b))) H) := by
  have h : binD P ev o .eql t (.string (bs a)) (.string (bs b)) = some (.bool (decide (a = b))) := by
    unfold binD
    simp only [strD, toList_bs]
    congr 2
    rw [Bool.eq_iff_iff]; simp
  exact opD_bin ho hx hy h
theorem opD_strne {t u : TypeId} {x y : Operand} {a b : List UInt8} (ho : o.op = .binOp .neq t x y u) (hx : ev x = some (.string (bs a))) (hy : ev y = some (.string (bs b))) : opD P H ev o = some (.val (.bool (!decide (a = b))) H) := by
  have h : binD P ev o .neq t (.string (bs a)) (.string (bs b)) = some (.bool (!decide (a = b))) := by
    unfold binD
    simp only [strD, toList_bs]
    congr 3
    rw [Bool.eq_iff_iff]; simp
  exact opD_bin ho hx hy h
theorem sidx {t : TypeId} {k : IntKind} {l : List UInt8} {i : Int} {c : UInt8} (hu : P.underlying t = some .string) (h : rd l i = some c) : indexD P t (.string (bs l)) (.int k i) = some (.int .u8 ((c.toNat : Nat) : Int)) := by
  obtain ⟨h1, h2, h3⟩ := rd_some h
  unfold indexD
  simp only [hu]
  rw [if_pos h1]
  have : (bs l)[i.toNat]? = some c := by
    show (if h : i.toNat < l.length then some _ else none) = _
    rw [dif_pos h2]
    rw [List.getElem?_eq_getElem h2] at h3
    exact h3
  simp only [this]
end ops

section rules
variable {P : Program} {Q : Ex → SS → Prop} {n : NN} {B0 B D : Hp} {own : List OwnE} (N : Nat) {k k' : KK} {x x' x'' : VS}
/-- An operation that gives the place of an own variable. -/
theorem WJ.hp {a : Array Oper} {m i : Nat} {o : Oper} {v : SV} (hs : vSym P n N k x = .hard a m i k' x') (ho : a[i]? = some o) (hg : gdV a x'.l o = some true) (hd : notDefer o.op = true)
    (he : ∀ ids H, WF B0 B own x'.loc ids H → opD P H (evS P (x'.ss ids n H)) o = some (.val (den ids v) H)) (hp : putV x' n o.dst v = some x'') (h : WJ P n B0 B own (.ops a m (i + 1) :: k') Q x'') : WJ P n B0 B own k Q x := by
  refine WJ.sym N hs fun ids H fr => ?_
  obtain ⟨p1, p2, p3, p4⟩ := putV_eq ids H H hp
  refine JK.ops (s' := x''.ss ids n H) ?_ (h ids H (by rw [p2]; exact fr))
  unfold doOp
  simp only [ho, gdV_eq ids n H hg, hd]
  rw [show (x'.ss ids n H).H = H from rfl, he ids H fr]
  simp only; rw [p1]
theorem WD.hp {a : Array Oper} {fl : Bool} {kD m m' i i' : Nat} {o : Oper} {v : SV} (hs : dSym P n a fl kD m i x = .hard m' i' x') (ho : a[i']? = some o) (hg : gdV a x'.l o = some true) (hd : notDefer o.op = true)
    (hsd : ∀ ids H (s0 : SS), s0.H = D → WFD B0 B D kD own x'.loc ids H → side P a fl s0.st i' (x'.ss ids n H).st)
    (he : ∀ ids H, WF B0 B own x'.loc ids H → opD P H (evS P (x'.ss ids n H)) o = some (.val (den ids v) H)) (hp : putV x' n o.dst v = some x'') (h : WD P n B0 B D kD own a fl m' (i' + 1) k Q x'') : WD P n B0 B D kD own a fl m i k Q x := by
  refine WD.sym hs fun ids H s0 h0 f => ?_
  obtain ⟨p1, p2, p3, p4⟩ := putV_eq ids H H hp
  refine JD.val (s' := x''.ss ids n H) ?_ (hsd ids H s0 h0 f) (h ids H s0 h0 (by rw [p2]; exact f))
  unfold doOp
  simp only [ho, gdV_eq ids n H hg, hd]
  rw [show (x'.ss ids n H).H = H from rfl, he ids H f.fr]
  simp only; rw [p1]
theorem idxOwn {P : Program} {t e len sz : Nat} {kk : IntKind} {b off : Nat} {i : Int} (hu : P.underlying t = some (.array len e)) (hz : sizeD P e = some sz) (h : 0 ≤ i ∧ i < len) : indexAddrD P t (.pointer (some ⟨b, off, none⟩)) (.int kk i) = some (.pointer (some ⟨b, off + i.toNat * sz, none⟩)) := by
  unfold indexAddrD
  simp only [hu, hz, h, and_self, if_true]
end rules
end Go.Det

set_option linter.unusedSimpArgs false
set_option linter.unusedVariables false
namespace Go.Det
open Go Go.RowKit

/-! ## 42. Strings, rune by rune -/
def Hp.with_ (B : Hp) (b n : Nat) (x : Blk) : Hp := { t := B.t.set b (some x), next := n, lo := B.lo }
theorem Hp.get_with (B : Hp) (b n : Nat) (x : Blk) (c : Nat) : (B.with_ b n x).get c = if c = b then some x else B.get c := by
  simp only [Hp.get, Hp.with_, T.get_set]
section frames
variable {B0 B : Hp} {own : List OwnE} {loc : List (List Value)} {ids : Nat → Nat} {H : Hp}
theorem WF.none_ (fr : WF B0 B own loc ids H) : B.get H.next = none := by
  cases h : B.get H.next with
  | none => rfl
  | some x => have := fr.trim _ _ h; have := fr.nextB; omega
theorem WF.newB (fr : WF B0 B own loc ids H) (x : Blk) : WF B0 (B.with_ H.next (H.next + 1) x) own loc ids (H.alloc x) := by
  have hB := fr.none_
  have hne : ∀ c, c < H.next → (B.with_ H.next (H.next + 1) x).get c = B.get c := fun c h => by rw [Hp.get_with, if_neg (by omega)]
  refine ⟨fr.ext0.alloc _, Nat.le_refl _, ?_, ?_, ?_, ?_, fr.inj, ?_, ?_, fr.mineI⟩
  · intro b y h
    show b < H.next + 1
    rw [Hp.get_with] at h
    split at h
    · omega
    · have := fr.trim b y h; have := fr.nextB; omega
  · intro b y h
    rw [Hp.get_with] at h
    rw [Hp.get_alloc]
    split at h
    · rename_i q; rw [if_pos q]; exact h
    · rename_i q; rw [if_neg q]; exact fr.sub b y h
  · intro k c h
    obtain ⟨h1, h2, h3⟩ := fr.here k c h
    exact ⟨by rw [Hp.get_alloc, if_neg (by omega)]; exact h1, by rw [Hp.next_alloc]; omega, h3⟩
  · intro k hk
    rw [hne _ (fr.ids_lt hk)]; exact fr.apart k hk
  · intro j e h
    have he := fr.mine j e h
    exact he.keep (Nat.le_refl _) (Nat.le_succ _) fun b x hb hx => by
      have := (he.blk_lt hb).2
      rw [Hp.get_alloc, if_neg (by omega)]; exact hx
  · intro j e b h hb
    have := ((fr.mine j e h).blk_lt hb).2
    rw [hne b this]; exact fr.mineB j e b h hb
theorem WF.putB (fr : WF B0 B own loc ids H) {b : Nat} {x y : Blk} (hb : B.get b = some x) (h0 : B0.next ≤ b) : WF B0 (B.with_ b B.next y) own loc ids (H.put b y) := by
  refine ⟨fr.ext0.put _ h0, fr.nextB, ?_, ?_, ?_, ?_, fr.inj, ?_, ?_, fr.mineI⟩
  · intro c z h
    rw [Hp.get_with] at h
    split at h
    · rename_i q; subst q; exact fr.trim _ _ hb
    · exact fr.trim c z h
  · intro c z h
    rw [Hp.get_with] at h
    rw [Hp.get_put]
    split at h
    · rename_i q; rw [if_pos q]; exact h
    · rename_i q; rw [if_neg q]; exact fr.sub c z h
  · intro k c h
    obtain ⟨h1, h2, h3⟩ := fr.here k c h
    exact ⟨by rw [Hp.get_put, if_neg (fun q => by have := fr.apart k (lt_of_get h); rw [q, hb] at this; cases this)]; exact h1, h2, h3⟩
  · intro k hk
    rw [Hp.get_with, if_neg (fun q => by have := fr.apart k hk; rw [q, hb] at this; cases this)]; exact fr.apart k hk
  · intro j e h
    have he := fr.mine j e h
    exact he.keep (Nat.le_refl _) (Nat.le_refl _) fun c z hc hz => by
      rw [Hp.get_put, if_neg (fun q => by have := (fr.mineB j e c h hc).1; rw [q, hb] at this; cases this)]; exact hz
  · intro j e c h hc
    rw [Hp.get_with, if_neg (fun q => by have := (fr.mineB j e c h hc).1; rw [q, hb] at this; cases this)]; exact fr.mineB j e c h hc
end frames
def decL (s : List UInt8) (p : Nat) : Int := ((Utf8.decode (bs s) p).1 : Nat)
def decN (s : List UInt8) (p : Nat) : Nat := (Utf8.decode (bs s) p).2
section rules
variable {P : Program} {Q : Ex → SS → Prop} {n : NN} {B0 B : Hp} {own : List OwnE} (N : Nat) {k k' : KK} {x x' x1 x2 : VS}
/-- The walk over a string begins. -/
theorem WJ.rg {a : Array Oper} {m i : Nat} {o : Oper} {t : TypeId} {y : Operand} {s : List UInt8} (hs : vSym P n N k x = .hard a m i k' x') (ho : a[i]? = some o) (hg : gdV a x'.l o = some true) (hd : notDefer o.op = true) (hop : o.op = .range t y)
    (hu : P.underlying t = some .string) (hy : evV P x'.l y = some (.v (.string (Det.bs s))))
    (h : ∀ b B', Abv 0 B B' ∧ Itv B B' → B0.next ≤ b → B'.get b = some (.iter (Det.bs s) 0) → ∃ x'', putV x' n o.dst (.v (.pointer (some ⟨b, 0, none⟩))) = some x'' ∧ WJ P n B0 B' own (.ops a m (i + 1) :: k') Q x'') : WJ P n B0 B own k Q x := by
  refine WJ.sym N hs fun ids H fr => ?_
  have hB := fr.none_
  have hlt : ∀ c z, B.get c = some z → c ≠ H.next := fun c z e q => by rw [q, hB] at e; cases e
  obtain ⟨x'', hp, h⟩ := h H.next (B.with_ H.next (H.next + 1) (.iter (Det.bs s) 0))
    ⟨⟨Nat.le_succ_of_le fr.nextB, fun c m0 cs _ _ e => by rw [Hp.get_with, if_neg (hlt c _ e)]; exact e⟩, fun c z e => by rw [Hp.get_with, if_neg (hlt c _ e)]; exact e⟩ fr.ext0.next (by rw [Hp.get_with, if_pos rfl])
  obtain ⟨p1, p2, p3, p4⟩ := putV_eq ids H (H.alloc (.iter (Det.bs s) 0)) hp
  refine JK.ops (s' := x''.ss ids n (H.alloc (.iter (Det.bs s) 0))) ?_ (h ids _ (by rw [p2]; exact fr.newB _))
  unfold doOp
  simp only [ho, gdV_eq ids n H hg, hd]
  have e : opD P H (evS P (x'.ss ids n H)) o = some (.val (.pointer (some ⟨H.next, 0, none⟩)) (H.alloc (.iter (Det.bs s) 0))) := by
    unfold opD
    simp only [hop, hu, evV_eq P x' ids n H hy, den]
  rw [show (x'.ss ids n H).H = H from rfl, e]
  simp only
  rw [show putS (x'.ss ids n H) o.dst (.pointer (some ⟨H.next, 0, none⟩)) _ = _ from p1]
/-- One rune more, or the end. -/
theorem WJ.nx {a : Array Oper} {m i : Nat} {o : Oper} {y : Operand} {s : List UInt8} {b pos : Nat} {α ρ : Type} {r : ρ} {X Y : Option α} {K : α → Option ρ} (hr : Option.bind (if pos < s.length then X else Y) K = some r)
    (hs : vSym P n N k x = .hard a m i k' x') (ho : a[i]? = some o) (hg : gdV a x'.l o = some true) (hd : notDefer o.op = true) (hop : o.op = .next y true) (hy : evV P x'.l y = some (.v (.pointer (some ⟨b, 0, none⟩))))
    (hb : B.get b = some (.iter (Det.bs s) pos)) (h0 : B0.next ≤ b)
    (hp1 : putV x' n o.dst (.v (.tuple ⟨[.bool true, .int .i64 (pos : Int), .int .i32 (decL s pos)]⟩)) = some x1) (hp2 : putV x' n o.dst (.v (.tuple ⟨[.bool false]⟩)) = some x2)
    (h1 : Option.bind X K = some r → ∀ B', Abv 0 B B' → (∀ c z, c ≠ b → B.get c = some z → B'.get c = some z) → B'.get b = some (.iter (Det.bs s) (pos + decN s pos)) → WJ P n B0 B' own (.ops a m (i + 1) :: k') Q x1)
    (h2 : Option.bind Y K = some r → WJ P n B0 B own (.ops a m (i + 1) :: k') Q x2) : WJ P n B0 B own k Q x := by
  by_cases hc : pos < s.length
  · rw [if_pos hc] at hr
    refine WJ.sym N hs fun ids H fr => ?_
    have h := h1 hr (B.with_ b B.next (.iter (Det.bs s) (pos + decN s pos)))
      ⟨Nat.le_refl _, fun c m0 cs _ _ e => by rw [Hp.get_with, if_neg (fun q => by rw [q, hb] at e; cases e)]; exact e⟩ (fun c z q e => by rw [Hp.get_with, if_neg q]; exact e) (by rw [Hp.get_with, if_pos rfl])
    obtain ⟨p1, p2, p3, p4⟩ := putV_eq ids H (H.put b (.iter (Det.bs s) (pos + decN s pos))) hp1
    refine JK.ops (s' := x1.ss ids n (H.put b (.iter (Det.bs s) (pos + decN s pos)))) ?_ (h ids _ (by rw [p2]; exact fr.putB hb h0))
    unfold doOp
    simp only [ho, gdV_eq ids n H hg, hd]
    have e : opD P H (evS P (x'.ss ids n H)) o = some (.val (.tuple ⟨[.bool true, .int .i64 (pos : Int), .int .i32 (decL s pos)]⟩) (H.put b (.iter (Det.bs s) (pos + decN s pos)))) := by
      unfold opD
      simp only [hop, evV_eq P x' ids n H hy, den, nextD, fr.sub b _ hb, bs_size, hc, if_true]
      rfl
    rw [show (x'.ss ids n H).H = H from rfl, e]
    simp only
    rw [show putS (x'.ss ids n H) o.dst (.tuple ⟨[.bool true, .int .i64 (pos : Int), .int .i32 (decL s pos)]⟩) _ = _ from p1]
  · rw [if_neg hc] at hr
    refine WJ.sym N hs fun ids H fr => ?_
    obtain ⟨p1, p2, p3, p4⟩ := putV_eq ids H H hp2
    refine JK.ops (s' := x2.ss ids n H) ?_ (h2 hr ids _ (by rw [p2]; exact fr))
    unfold doOp
    simp only [ho, gdV_eq ids n H hg, hd]
    have e : opD P H (evS P (x'.ss ids n H)) o = some (.val (.tuple ⟨[.bool false]⟩) H) := by
      unfold opD
      simp only [hop, evV_eq P x' ids n H hy, den, nextD, fr.sub b _ hb, bs_size, hc, if_false]
    rw [show (x'.ss ids n H).H = H from rfl, e]
    simp only
    rw [show putS (x'.ss ids n H) o.dst (.tuple ⟨[.bool false]⟩) _ = _ from p1]
end rules
end Go.Det

set_option linter.unusedSimpArgs false
set_option linter.unusedVariables false
namespace Go.Det
open Go Go.RowKit

/-! ## 43. Own bytes as a string -/
def b8 (l : List Int) : List UInt8 := l.map fun n => UInt8.ofNat n.toNat
theorem encL_kE (k : IntKind) (l : List Int) : encL (kE k) l = l.map (Value.int k) := by
  induction l with
  | nil => rfl
  | cons x l ih => simp only [encL, List.flatMap_cons] at *; rw [ih]; rfl
section conv
variable {P : Program} {B0 B : Hp} {own : List OwnE} {loc : List (List Value)} {ids : Nat → Nat} {H : Hp}
theorem WF.convOwn (fr : WF B0 B own loc ids H) {j cap : Nat} {ad : Option Addr} {L : List Int} {src dst e : TypeId} (hj : own[j]? = some ⟨ad, cap, 1, encL (kE .u8) L⟩) (hs : P.underlying src = some (.slice e)) (hd : P.underlying dst = some .string) (he : P.underlying e = some (.int .u8)) :
    convD P H src dst (.slice ad L.length cap) = some (.string (bs (b8 L)), H) := by
  rw [encL_kE] at hj
  have key : ((L.map (Value.int .u8)).all isByte) = true := by simp [isByte]
  have hi : (L.map (Value.int .u8)).map intOf = L := by rw [List.map_map]; exact (List.map_congr_left fun _ _ => rfl).trans (List.map_id _)
  rcases fr.mine j _ hj with ⟨h1, h2, h3⟩ | ⟨b, h1, _, _, h4⟩
  · simp only at h1 h2 h3
    have : L = [] := by simpa using h3
    subst h1 h2 this
    simp only [convD, hs, hd, he, List.length_nil]; rfl
  · simp only at h1 h4
    subst h1
    rcases h4 with ⟨r1, r2, r3⟩ | ⟨r1, r2, r3⟩
    · have hn : L.length ≠ 0 := fun q => r2 (by rw [List.length_eq_zero_iff.1 q]; rfl)
      simp only [convD, hs, hd, he, r3]
      have ht : (L.map (Value.int .u8)).take L.length = L.map (Value.int .u8) := by rw [List.take_of_length_le (by simp)]
      rw [List.drop_zero, ht, if_pos ⟨by simp, fun q => hn q.1, key⟩, hi]; rfl
    · simp only [convD, hs, hd, he, r3]
      have ht : (L.map (Value.int .u8)).take L.length = L.map (Value.int .u8) := by rw [List.take_of_length_le (by simp)]
      rw [List.drop_zero, ht, if_pos ⟨by simp, fun q => by omega, key⟩, hi]; rfl
end conv
theorem opD_conv {P : Program} {H : Hp} {ev : Ev} {o : Oper} {src dst : TypeId} {x : Operand} {v r : Value} (ho : o.op = .convert src dst x) (hx : ev x = some v) (h : convD P H src dst v = some (r, H)) : opD P H ev o = some (.val r H) := by
  unfold opD
  simp only [ho, hx, h]

/-! ## 44. Variables by their own names -/
theorem WF.noLoc {B0 B : Hp} {own : List OwnE} {ids ids' : Nat → Nat} {H : Hp} (fr : WF B0 B own [] ids H) : WF B0 B own [] ids' H :=
  ⟨fr.ext0, fr.nextB, fr.trim, fr.sub, fun k cs h => by simp at h, fun k h => by simp at h, fun j k h => by simp at h, fr.mine, fun j e b h hb => ⟨(fr.mineB j e b h hb).1, fun k hk => by simp at hk⟩, fr.mineI⟩
section lift
variable {P : Program} {Q : Ex → SS → Prop} {n : NN} {B0 B : Hp} {own : List OwnE} {k k' : KK} {x x' x'' : VS} {loc : List (List Value)} {ids : Nat → Nat} {H : Hp} (N : Nat)
theorem WF.lift {cs : List Value} (fr : WF B0 B own (loc ++ [cs]) ids H) (h : cs.length < LOOSE) : WF B0 B (own ++ [⟨some ⟨ids loc.length, 0, none⟩, cs.length, 1, cs⟩]) loc ids H := by
  obtain ⟨g1, g2, g3⟩ := fr.here loc.length cs (by simp)
  have hl : (loc ++ [cs]).length = loc.length + 1 := by simp
  have get : ∀ i f, (own ++ [⟨some ⟨ids loc.length, 0, none⟩, cs.length, 1, cs⟩])[i]? = some f → (i < own.length ∧ own[i]? = some f) ∨ (i = own.length ∧ f = (⟨some ⟨ids loc.length, 0, none⟩, cs.length, 1, cs⟩ : OwnE)) := by
    intro i f h
    by_cases q : i < own.length
    · rw [List.getElem?_append_left q] at h; exact .inl ⟨q, h⟩
    · have := lt_of_get h
      simp at this
      have q : i = own.length := by omega
      subst q
      simp at h
      exact .inr ⟨rfl, h.symm⟩
  refine ⟨fr.ext0, fr.nextB, fr.trim, fr.sub, fun k c hk => fr.here k c (by rw [List.getElem?_append_left (lt_of_get hk)]; exact hk), fun k hk => fr.apart k (by omega), fun j k hj hk => fr.inj j k (by omega) (by omega), ?_, ?_, ?_⟩
  · intro j e he
    rcases get j e he with ⟨_, he⟩ | ⟨_, rfl⟩
    · exact fr.mine j e he
    · exact .inr ⟨ids loc.length, rfl, g3, g2, .inr ⟨h, by simp, g1⟩⟩
  · intro j e b he hb
    rcases get j e he with ⟨_, he⟩ | ⟨_, rfl⟩
    · obtain ⟨h1, h2⟩ := fr.mineB j e b he hb
      exact ⟨h1, fun k hk => h2 k (by omega)⟩
    · simp only [OwnE.blk, Option.map_some, Option.some.injEq] at hb
      subst hb
      exact ⟨fr.apart _ (by omega), fun k hk q => by have := fr.inj k loc.length (by omega) (by omega) q; omega⟩
  · intro i j e f b he hf heb hfb
    rcases get i e he with ⟨hi, he⟩ | ⟨hi, rfl⟩ <;> rcases get j f hf with ⟨hj, hf⟩ | ⟨hj, rfl⟩
    · exact fr.mineI i j e f b he hf heb hfb
    · simp only [OwnE.blk, Option.map_some, Option.some.injEq] at hfb
      exact absurd hfb ((fr.mineB i e b he heb).2 _ (by omega))
    · simp only [OwnE.blk, Option.map_some, Option.some.injEq] at heb
      exact absurd heb ((fr.mineB j f b hf hfb).2 _ (by omega))
    · omega
/-- The newest variable gets a name. -/
theorem WJ.lift {l : VEnv} {cs : List Value} {cl : Bool} {kB : Nat} (l' : Nat → VEnv) (hl : ∀ ids : Nat → Nat, denE ids l = denE ids (l' (ids loc.length))) (hlt : Nat.blt cs.length LOOSE = true)
    (h : ∀ b, WJ P n B0 B (own ++ [⟨some ⟨b, 0, none⟩, cs.length, 1, cs⟩]) k Q ⟨l' b, loc, true, 0⟩) : WJ P n B0 B own k Q ⟨l, loc ++ [cs], cl, kB⟩ := by
  rw [Nat.blt_eq] at hlt
  intro ids H fr
  have := h (ids loc.length) ids H (fr.lift hlt)
  simp only [VS.ss, ← hl] at this ⊢
  exact this
theorem WF.atOwn (fr : WF B0 B own loc ids H) {j b cap sz : Nat} {cs : List Value} (hj : own[j]? = some ⟨some ⟨b, 0, none⟩, cap, sz, cs⟩) : At B0.next H b 0 cs := by
  rcases fr.mine j _ hj with ⟨h1, _, _⟩ | ⟨c, h1, h2, h3, h4⟩
  · cases h1
  · cases h1
    refine ⟨h2, h3, ?_⟩
    rcases h4 with ⟨_, _, g⟩ | ⟨_, _, g⟩ <;> exact ⟨_, _, g, by simp, by simp⟩
theorem WF.ldOwn (fr : WF B0 B own loc ids H) {j b cap sz d : Nat} {cs : List Value} {t : TypeId} {v : Value} (hj : own[j]? = some ⟨some ⟨b, 0, none⟩, cap, sz, cs⟩) (ht : loadC P t cs d = some v) : loadD P H t (.pointer (some ⟨b, d, none⟩)) = some v := by
  have ha := fr.atOwn hj
  unfold loadC at ht
  split at ht
  · rename_i hg
    split at ht
    · rename_i m hm
      split at ht
      · rename_i hb; cases ht
        have := ha.loadN (P := P) (d := d) hg hm hb rfl
        rw [Nat.zero_add] at this; exact this
      · cases ht
    · cases ht
  · rename_i hg
    have := ha.load (P := P) (d := d) hg ht
    rw [Nat.zero_add] at this; exact this
  · cases ht
/-- A store to a variable that has a name. -/
theorem WJ.sb {a : Array Oper} {m i : Nat} {o : Oper} {l : VEnv} {cl : Bool} {kB j b off cap sz : Nat} {t : TypeId} {pa px : Operand} {v : Value} {cs cs' : List Value} (hs : vSym P n N k x = .hard a m i k' ⟨l, loc, cl, kB⟩) (ho : a[i]? = some o) (hg : gdV a l o = some true) (hd : notDefer o.op = true)
    (hop : o.op = .store t pa px) (hpa : evV P l pa = some (.v (.pointer (some ⟨b, off, none⟩)))) (hpx : evV P l px = some (.v v)) (hj : own[j]? = some ⟨some ⟨b, 0, none⟩, cap, sz, cs⟩) (hst : storeC P t cs off v = some cs') (hp : putV ⟨l, loc, true, 0⟩ n o.dst (.v undef) = some x'')
    (h : WJ P n B0 B (own.set j ⟨some ⟨b, 0, none⟩, cap, sz, cs'⟩) (.ops a m (i + 1) :: k') Q x'') : WJ P n B0 B own k Q x := by
  refine WJ.so (j := j) (R := fun v e' => v = undef ∧ e' = ⟨some ⟨b, 0, none⟩, cap, sz, cs'⟩) N hs ho hg hd (fun ids H fr => ?_) ?_
  · have hblk := (fr.mine j _ hj).blk_lt (b := b) (by simp [OwnE.blk])
    unfold storeC at hst
    split at hst
    case h_2 => cases hst
    rename_i nn hm
    split at hst
    case h_2 => cases hst
    rename_i h1
    split at hst
    case h_2 => cases hst
    rename_i h2
    split at hst
    case h_2 => cases hst
    rename_i h3
    cases hst
    have hlen : (wr cs off v.cells.toList).length = cs.length := wr_length _ _ _
    rcases fr.mine j _ hj with ⟨q, _, _⟩ | ⟨c, q, _, _, h4⟩
    · cases q
    · cases q
      have hget : ∃ md, md ≠ .old ∧ H.get b = some (.cells md cs) ∧ (⟨some ⟨b, 0, none⟩, cap, sz, wr cs off v.cells.toList⟩ : OwnE).ok B0.next (H.put b (.cells md (wr cs off v.cells.toList))) := by
        rcases h4 with ⟨r1, r2, r3⟩ | ⟨r1, r2, r3⟩
        · exact ⟨.more sz, by simp, r3, .inr ⟨b, rfl, hblk.1, hblk.2, .inl ⟨r1, fun q => r2 (List.length_eq_zero_iff.1 (by rw [← hlen, show wr cs off v.cells.toList = [] from q]; rfl)), by rw [Hp.get_put, if_pos rfl]⟩⟩⟩
        · exact ⟨.fix, by simp, r3, .inr ⟨b, rfl, hblk.1, hblk.2, .inr ⟨r1, by rw [hlen]; exact r2, by rw [Hp.get_put, if_pos rfl]⟩⟩⟩
      obtain ⟨md, hmd, hgt, hok⟩ := hget
      refine ⟨undef, ⟨some ⟨b, 0, none⟩, cap, sz, wr cs off v.cells.toList⟩, H.put b (.cells md (wr cs off v.cells.toList)), opD_store hop (evV_eq P _ ids n H hpa) (evV_eq P _ ids n H hpx) ?_, ?_, rfl, rfl⟩
      · simp only [den, storeD, hgt]
        exact if_pos ⟨hmd, by rw [hm, Nat.eq_of_beq_eq_true h1], Nat.le_of_ble_eq_true h2, h3⟩
      · refine fr.setOwn hj (Nat.le_refl _) (fun c hc hcb => ?_) hok (fun c hc => .inr ?_)
        · rw [Hp.get_put, if_neg (fun q => hcb (by simp [OwnE.blk, q]))]
        · simpa [OwnE.blk] using hc
  · rintro v' e' ⟨rfl, rfl⟩
    exact ⟨_, hp, h⟩
end lift

/-! ## 45. Functions entered in place -/
def plainE (l : VEnv) : Bool := l.all fun x => match x.2 with | .v _ => true | _ => false
theorem plainE_den {l : VEnv} (h : plainE l = true) (ids ids' : Nat → Nat) : denE ids l = denE ids' l := by
  unfold denE
  refine List.map_congr_left fun x hm => ?_
  have := List.all_eq_true.1 h x hm
  cases hx : x.2 with
  | v u => simp [den, hx]
  | p a b => simp [hx] at this
  | fn f c => simp [hx] at this
/-- What a function that is entered in place must come to. -/
def Inl (P : Program) (n : NN) (d : Option Tmp) (k : KK) (Q : Ex → SS → Prop) (l : VEnv) : En → Hp → Prop
  | .ret v, H => ∃ s', putS (VS.ss ⟨l, [], true, 0⟩ (fun _ => 0) n H) d v H = some s' ∧ JK P k Q s'
  | .panic v, H => Q (.panic v) (VS.ss ⟨l, [], true, 0⟩ (fun _ => 0) n H)
section inl
variable {P : Program} {Q : Ex → SS → Prop} {n n' : NN} {B0 B : Hp} {own : List OwnE} {k k' : KK} {x x' x'' : VS} (N : Nat)
theorem WJ.inl {f : FuncId} {fn : Func} {c : Code} {args : List SV} {d : Option Tmp} {l : VEnv} {cl : Bool} {kB : Nat} {m g : Nat} {res : List ResultVar} {lc : VEnv} (hs : vSym P n N k x = .call f args d k' ⟨l, [], cl, kB⟩) (hpl : plainE l = true)
    (hf : P.funcs[f]? = some fn) (hb : fn.body = some c) (hn : fn.ntmps = m) (hg : args.length = g) (hl : Nat.ble g m = true) (hr : fn.results.toList = res) (he : ∀ ids, denE ids lc = envOf (args.map (den ids)))
    (h : WJ P ⟨m, true⟩ B0 B own [.code c] (bodyS P res (Inl P n d k' Q l)) ⟨lc, [], true, 0⟩) : WJ P n B0 B own k Q x := by
  refine WJ.sym N hs fun ids H fr => ?_
  have := h ids H fr
  simp only [VS.ss, he] at this
  refine (SCall.body hf hb hn (by rw [List.length_map, hg]; exact Nat.le_of_ble_eq_true hl) hr this).mono fun e H' q => ?_
  have hd : denE ids l = denE (fun _ => 0) l := plainE_den hpl _ _
  cases e with
  | ret v =>
    obtain ⟨s', h1, h2⟩ := q
    refine ⟨s', ?_, h2⟩
    rw [← h1]
    simp only [VS.ss, hd]
    cases d <;> rfl
  | panic v =>
    simp only [Inl, VS.ss] at q ⊢
    rw [hd]; exact q
/-- The same, with a place where the ways meet behind it. -/
theorem WJ.inlC {α : Type} (I : α → VEnv) (O : α → List OwnE) (M : α → Hp) (ok : α → Prop) {f : FuncId} {fn : Func} {c : Code} {args : List SV} {d : Option Tmp} {l : VEnv} {cl : Bool} {kB : Nat} {m g : Nat} {res : List ResultVar} {lc : VEnv} (hs : vSym P n N k x = .call f args d k' ⟨l, [], cl, kB⟩) (hpl : plainE l = true)
    (hf : P.funcs[f]? = some fn) (hb : fn.body = some c) (hn : fn.ntmps = m) (hg : args.length = g) (hl : Nat.ble g m = true) (hr : fn.results.toList = res) (he : ∀ ids, denE ids lc = envOf (args.map (den ids)))
    (post : ∀ y, ok y → WJ P n B0 (M y) (O y) k' Q ⟨I y, [], true, 0⟩)
    (h : (∀ y, ok y → WJ P n B0 (M y) (O y) k' Q ⟨I y, [], true, 0⟩) → WJ P ⟨m, true⟩ B0 B own [.code c] (bodyS P res (Inl P n d k' Q l)) ⟨lc, [], true, 0⟩) : WJ P n B0 B own k Q x :=
  WJ.inl N hs hpl hf hb hn hg hl hr he (h post)
theorem WJ.inlR {res : List ResultVar} {vs : List Value} {v : Value} {d : Option Tmp} {l l' : VEnv} {cl : Bool} {kB : Nat} (hs : vSym P n' N k x = .fin .ret ⟨l', [], cl, kB⟩) (hr : ressV P ⟨l', [], cl, kB⟩ res = some vs) (hv : oneD vs = v) (hp : putV ⟨l, [], true, 0⟩ n d (.v v) = some x'') (h : WJ P n B0 B own k' Q x'') :
    WJ P n' B0 B own k (bodyS P res (Inl P n d k' Q l)) x := by
  refine WJ.sym N hs fun ids H fr => ⟨rfl, vs, wressV_ok fr hr, ?_⟩
  obtain ⟨p1, p2, p3, p4⟩ := putV_eq (fun _ => 0) H H hp
  refine ⟨_, by rw [hv]; exact p1, h (fun _ => 0) H ?_⟩
  rw [p2]
  exact fr.noLoc
theorem WJ.inlN {res : List ResultVar} {vs : List Value} {v : Value} {d : Option Tmp} {l l' : VEnv} {cl : Bool} {kB : Nat} (hs : vSym P n' N k x = .fin .normal ⟨l', [], cl, kB⟩) (hr : ressV P ⟨l', [], cl, kB⟩ res = some vs) (hv : oneD vs = v) (hp : putV ⟨l, [], true, 0⟩ n d (.v v) = some x'') (h : WJ P n B0 B own k' Q x'') :
    WJ P n' B0 B own k (bodyS P res (Inl P n d k' Q l)) x := by
  refine WJ.sym N hs fun ids H fr => ⟨rfl, vs, wressV_ok fr hr, ?_⟩
  obtain ⟨p1, p2, p3, p4⟩ := putV_eq (fun _ => 0) H H hp
  refine ⟨_, by rw [hv]; exact p1, h (fun _ => 0) H ?_⟩
  rw [p2]
  exact fr.noLoc
end inl
end Go.Det

set_option linter.unusedSimpArgs false
set_option linter.unusedVariables false
namespace Go.Det
open Go Go.RowKit

/-! ## 46. Ranges over functions -/
structure TR (R : Ren) (x x' : Array Value) : Prop where
  size : x.size = x'.size
  get : ∀ (t : Nat) (v : Value), x[t]? = some v → v.cells ≠ #[] → ∃ v', x'[t]? = some v' ∧ VR R v v'
def fillT (x : Array Value) (pa : List (Tmp × Value)) : Array Value := pa.foldl (fun tmps (t, a) => tmps.setIfInBounds t a) x
theorem TR.set {R : Ren} {x x' : Array Value} (h : TR R x x') (t : Nat) {v v' : Value} (hv : VR R v v') : TR R (x.setIfInBounds t v) (x'.setIfInBounds t v') := by
  refine ⟨by simp [h.size], fun u w e hc => ?_⟩
  rw [Array.getElem?_setIfInBounds] at e ⊢
  by_cases q : t = u
  · subst q
    rw [if_pos rfl] at e ⊢
    split at e
    · rename_i hl; cases e; rw [if_pos (by rw [← h.size]; exact hl)]; exact ⟨_, rfl, hv⟩
    · cases e
  · rw [if_neg q] at e ⊢
    exact h.get u w e hc
theorem TR.fill {R : Ren} : ∀ {ps : List Tmp} {vs vs' : List Value} {x x' : Array Value}, VRs R vs vs' → TR R x x' → TR R (fillT x (ps.zip vs)) (fillT x' (ps.zip vs'))
  | [], vs, vs', x, x', hv, h => by simpa [fillT] using h
  | p :: ps, [], vs', x, x', hv, h => by cases hv; simpa [fillT] using h
  | p :: ps, v :: vs, _, x, x', hv, h => by
    cases hv with
    | cons h1 h2 =>
      simp only [fillT, List.zip_cons_cons, List.foldl_cons]
      exact TR.fill h2 (h.set p h1)
theorem TR.mono {R R' : Ren} (hR : R.le R') {x x' : Array Value} (h : TR R x x') : TR R' x x' :=
  ⟨h.size, fun t v e hc => by obtain ⟨v', a, b⟩ := h.get t v e hc; exact ⟨v', a, b.mono hR⟩⟩
theorem zip_toList (x : Array Value) (ps : Array Tmp) (vs : List Value) : ((ps.zip (⟨vs⟩ : Array Value)).foldl (fun tmps (t, a) => tmps.setIfInBounds t a) (x : Array Value)) = fillT x (ps.toList.zip vs) := by
  unfold fillT
  rw [← Array.foldl_toList, Array.toList_zip]

/-- The state in which a round begins. -/
def roundSt (rec : Loop) (args : List Value) (H : Hp) : St :=
  { env := fun t => match (fillT rec.tmps (rec.params.toList.zip args))[t]? with | some v => if v.cells = #[] then none else some v | none => none, n := rec.tmps.size, H := H, defs := [], dok := false }
theorem roundSt_ok {R : Ren} {rec : Loop} {args args' : List Value} {H : Hp} {x' : Array Value} (h : TR R rec.tmps x') (hv : VRs R args args') : StR R (roundSt rec args H) { tmps := fillT x' (rec.params.toList.zip args'), defers := [] } := by
  have hf := TR.fill (ps := rec.params.toList) hv h
  have hs : (fillT rec.tmps (rec.params.toList.zip args)).size = rec.tmps.size := by
    have : ∀ (pa : List (Tmp × Value)) (x : Array Value), (fillT x pa).size = x.size := by
      intro pa
      induction pa with
      | nil => intro x; rfl
      | cons p pa ih => intro x; simp only [fillT, List.foldl_cons] at ih ⊢; rw [ih]; simp
    exact this _ _
  refine ⟨by show _ = rec.tmps.size; rw [← hs, hf.size], fun t v e => ?_, .nil⟩
  simp only [roundSt] at e
  split at e
  · rename_i u hu
    split at e
    · cases e
    · rename_i hc; cases e
      obtain ⟨v', h1, h2⟩ := hf.get t v hu hc
      refine ⟨?_, ?_⟩
      · show t < rec.tmps.size
        rw [← hs]; exact (Array.getElem?_eq_some_iff.1 hu).1
      · show VR R v ((fillT x' (rec.params.toList.zip args')).getD t undef)
        rw [Array.getD_eq_getD_getElem?, h1]; exact h2
  · cases e

theorem LoopR.tr {R : Ren} {l l' : Loop} (h : LoopR R l l') : TR R l.tmps l'.tmps := ⟨h.size, h.tmps⟩
section rules
variable {P : Program} {Q : Ex → St → Prop} {st : St} {ops : Array Oper} {i : Nat} {is : List Nat} {o : Oper}

/-- What comes of a round. -/
def endR (l : Nat) (K : Bool → Hp → Prop) : Ex → St → Prop
  | .normal, s => ∃ r, s.H.get l = some (.loop r) ∧ K true (s.H.put l (.loop { r with state := .ready, pending := none }))
  | .ret, s => ∃ r, s.H.get l = some (.loop r) ∧ K false (s.H.put l (.loop { r with state := .done, pending := some .ret }))
  | .exit id, s => ∃ r, s.H.get l = some (.loop r) ∧ K false (s.H.put l (.loop { r with state := .done, pending := some (.exit id) }))
  | .panic _, _ => False
def beginR (P : Program) (l : Nat) (body : Code) (K : Bool → Hp → Prop) : Ex → St → Prop
  | .normal, s => ∃ r, s.H.get l = some (.loop r) ∧ r.state = .ready ∧ SC P body (endR l K) (s.at_ (s.H.put l (.loop { r with state := .busy })))
  | _, _ => False

theorem Rel.loopBlk {X : Cx} {w : World} {R : Ren} {H : Hp} (h : Rel X R H w) {l : Nat} {r : Loop} (hl : H.get l = some (.loop r)) : ∃ i r', R l = some i ∧ i.own = true ∧ X.B ≤ i.blk ∧ w.heap[i.blk]? = some (.loop r') ∧ LoopR R r r' := by
  obtain ⟨i, hi, br⟩ := h.blk l _ hl
  cases br with
  | loop _ r' ho hb hw hlr => exact ⟨i, r', hi, ho, hb, hw, hlr⟩
theorem Rel.putLoop {X : Cx} {w : World} {R : Ren} {H : Hp} (h : Rel X R H w) {l : Nat} {r r' : Loop} {i : RI} (hl : H.get l = some (.loop r)) (hi : R l = some i) (ho : i.own = true) (hb : X.B ≤ i.blk) (hw : w.heap[i.blk]? = some (.loop r')) (hlr : LoopR R r r') (s : LoopState) (p : Option Code) :
    Rel X R (H.put l (.loop { r with state := s, pending := p })) (w.putObj i.blk (.loop { r' with state := s, pending := p })) :=
  h.putObj hl hi ho hb _ (.loop _ { r' with state := s, pending := p } ho hb (World.putObj_heap_same (Array.getElem?_eq_some_iff.1 hw).1) ⟨rfl, rfl, hlr.params, hlr.assign, hlr.body, hlr.size, hlr.tmps⟩)

theorem SL.yield {l : Nat} {args : List Value} {rec : Loop} {K : Bool → Hp → Prop} (ho : ops[i]? = some o) (hg : gd ops st o = some true) (hd : notDefer o.op = true) (he : opD P st.H (evOf P st) o = some (.yield l args)) (hf : st.fits o.dst) (hH : st.H.get l = some (.loop rec)) (hn : args.length = rec.params.size)
    (hK : ∀ b H', K b H' → SL P ops is Q ((st.at_ H').put o.dst (.bool b)))
    (h : SC P rec.assign (beginR P l rec.body K) (roundSt rec args st.H)) : SL P ops (i :: is) Q st := by
  obtain ⟨ex1, s1, q1, k1⟩ := h
  cases ex1 with
  | exit id => exact q1.elim
  | ret => exact q1.elim
  | panic v => exact q1.elim
  | normal =>
    obtain ⟨r1, hl1, hr1, ex2, s2, q2, k2⟩ := q1
    -- the round, as the machine runs it
    have key : ∀ (b2 : Bool) (st2 : LoopState) (p2 : Option Code) (r2 : Loop), s2.H.get l = some (.loop r2) → (∀ (X : Cx) (R : Ren) (a : Act) (w : World) (i : RI) (fn : FuncId) (c : Frame) (cs : List Frame) (ex2' : Ex) (r2' : Loop), ExR R ex2 ex2' → w.heap[i.blk]? = some (.loop r2') →
          Arr P (lone (fr { (default : Frame) with fn := fn, kind := .normal, roundOf := some i.blk } a [.code rec.body]) (c :: cs) w) { (default : Frame) with fn := fn, kind := .normal, roundOf := some i.blk } [] (c :: cs) ex2' a w → True) →
        (∀ (l' : Nat) (r2' : Loop) (w : World) (fn : FuncId) (a2 : Act) (ex2' : Ex) (R : Ren) (m : Machine) (c : Frame) (cs : List Frame), ExR R ex2 ex2' → w.heap[l']? = some (.loop r2') →
          Arr P m { (default : Frame) with fn := fn, kind := .normal, roundOf := some l' } [] (c :: cs) ex2' a2 w → Steps P m (lone (c.finish (.bool b2)) cs (w.putObj l' (.loop { r2' with state := st2, pending := p2 })))) →
        SL P ops is Q ((st.at_ (s2.H.put l (.loop { r2 with state := st2, pending := p2 }))).put o.dst (.bool b2)) → SL P ops (i :: is) Q st := by
      intro b2 st2 p2 r2 hl2 _ hend hk
      obtain ⟨ex, s', q, k⟩ := hk
      refine ⟨ex, s', q, fun X R a w hG hR hS hM b K cs hb => ?_⟩
      have hres := opD_ok hR (evOf_ok hG hR hS) he
      have hw := gd_ok hS hg
      generalize hrun : (execOp a.eval o).run P w = res at hres
      obtain ⟨i0, rl, hi0, ho0, hb0, hw0, hlr0⟩ := hR.loopBlk hH
      have hyield : ∃ args', VRs R args args' ∧ (execOp a.eval o).run P w = (Instr.yield i0.blk ⟨args'⟩).run P w := by
        cases hres with
        | yield hl hown hv hs => rw [hi0] at hl; cases hl; exact ⟨_, hv, by rw [hrun, hs]⟩
      obtain ⟨args', hv, hrun'⟩ := hyield
      have hn' : (⟨args'⟩ : Array Value).size = rl.params.size := by
        rw [hlr0.params, ← hn]; exact hv.length
      rw [run_yield hw0 hn', zip_toList] at hrun'
      rw [hlr0.params, hlr0.assign, hlr0.body] at hrun'
      have henter : Go.step P (lone (fr b a (.inRegion ops (i :: is) :: K)) cs w) = .next (lone (Frame.round i0.blk rl.fn (fillT rl.tmps (rec.params.toList.zip args')) rec.assign rec.body .normal) (fr b a (.inRegion ops (i :: is) :: K) :: cs) w) := by
        refine step_lone_go ?_
        rw [s_op ho hw (.inr (notDefer_ok hd))]; simp [stepG.apply, hrun', fr]
      have hround : Frame.round i0.blk rl.fn (fillT rl.tmps (rec.params.toList.zip args')) rec.assign rec.body .normal = fr { (default : Frame) with fn := rl.fn, kind := .normal, roundOf := some i0.blk } { tmps := fillT rl.tmps (rec.params.toList.zip args'), defers := [] } [.code rec.assign, .beginRound, .code rec.body] := by
        simp [Frame.round, fr]
      rw [hround] at henter
      obtain ⟨X1, R1, a1, w1, ex1', x1, l1, r1R, t1, m1, e1, d1, A1⟩ := k1 X R { tmps := fillT rl.tmps (rec.params.toList.zip args'), defers := [] } w hG hR (roundSt_ok hlr0.tr hv) MK.init { (default : Frame) with fn := rl.fn, kind := .normal, roundOf := some i0.blk } [.beginRound, .code rec.body] (fr b a (.inRegion ops (i :: is) :: K) :: cs) (fun q => by cases q)
      cases e1
      have hX1 := x1.le.B
      obtain ⟨i1, rl1, hi1, ho1, hb1, hw1, hlr1⟩ := r1R.loopBlk hl1
      have : i1 = i0 := by have := l1 _ _ hi0; rw [this] at hi1; exact (Option.some.inj hi1).symm
      subst this
      have hbeg : Go.step P (lone (fr { (default : Frame) with fn := rl.fn, kind := .normal, roundOf := some i1.blk } a1 (.beginRound :: [.code rec.body])) (fr b a (.inRegion ops (i :: is) :: K) :: cs) w1) = .next (lone (fr { (default : Frame) with fn := rl.fn, kind := .normal, roundOf := some i1.blk } a1 [.code rec.body]) (fr b a (.inRegion ops (i :: is) :: K) :: cs) (w1.putObj i1.blk (.loop { rl1 with state := .busy }))) :=
        stepR_beginRound (b := { (default : Frame) with fn := rl.fn, kind := .normal, roundOf := some i1.blk }) (a := a1) (k := [.code rec.body]) rfl (run_beginRound hw1 (hlr1.state.trans hr1))
      have hR1b := r1R.putLoop hl1 hi1 ho1 hb1 hw1 hlr1 .busy r1.pending
      have hbusy : ({ rl1 with state := .busy, pending := r1.pending } : Loop) = { rl1 with state := .busy } := by rw [← hlr1.pending]
      rw [hbusy] at hR1b
      have hS1 : StR R1 (s1.at_ (s1.H.put l (.loop { r1 with state := .busy }))) a1 := ⟨t1.size, t1.env, t1.defs⟩
      obtain ⟨X2, R2, a2, w2, ex2', x2, l2, r2R, t2, m2, e2, d2, A2⟩ := k2 X1 R1 a1 _ (x1.gx hG) hR1b hS1 m1 { (default : Frame) with fn := rl.fn, kind := .normal, roundOf := some i1.blk } [] (fr b a (.inRegion ops (i :: is) :: K) :: cs) (fun q => by rw [show (s1.at_ (s1.H.put l (.loop { r1 with state := .busy }))).dok = s1.dok from rfl, d1] at q; cases q)
      obtain ⟨i2, rl2, hi2, ho2, hb2, hw2, hlr2⟩ := r2R.loopBlk hl2
      have : i2 = i1 := by have := l2 _ _ hi1; rw [this] at hi2; exact (Option.some.inj hi2).symm
      subst this
      have hfin := hend i2.blk rl2 w2 rl.fn a2 ex2' R2 _ _ _ e2 hw2 A2
      have hcf : (fr b a (.inRegion ops (i :: is) :: K)).finish (.bool b2) = fr b (a.put o.dst (.bool b2)) (.inRegion ops is :: K) := by rw [fr_finish, ho]; rfl
      rw [hcf] at hfin
      have hR2 := r2R.putLoop hl2 hi2 ho2 hb2 hw2 hlr2 st2 p2
      obtain ⟨p1, p2', p3, p4⟩ := put_facts (st.at_ (s2.H.put l (.loop { r2 with state := st2, pending := p2 }))) o.dst (.bool b2)
      have hle : X.le X2 := x1.le.trans x2.le
      have hS2 : StR R2 ((st.at_ (s2.H.put l (.loop { r2 with state := st2, pending := p2 }))).put o.dst (.bool b2)) (a.put o.dst (.bool b2)) :=
        StR.put (st := st.at_ (s2.H.put l (.loop { r2 with state := st2, pending := p2 }))) ⟨hS.size, (hS.mono (Ren.le_trans l1 l2)).env, (hS.mono (Ren.le_trans l1 l2)).defs⟩ hf (.bool b2)
      obtain ⟨X3, R3, a3, w3, ex3, x3, l3, r3, t3, m3, e3, d3, A3⟩ := k X2 R2 (a.put o.dst (.bool b2)) _ (hle.gx hG) (by rw [p2']; exact hR2) hS2 ⟨by rw [put_defers]; exact fun m q => hle.kept _ _ (hM.kept m q), by rw [put_defers]; exact hM.nodup⟩ b K cs (by rw [p1]; exact hb)
      refine ⟨X3, R3, a3, w3, ex3, ⟨hle.trans x3.le, fun m q => ?_⟩, Ren.le_trans l1 (Ren.le_trans l2 l3), r3, t3, m3, e3, d3.trans p1, .of_steps (.head henter (Steps.trans A1 (.head hbeg hfin))) A3⟩
      rcases x3.new m q with r | r
      · left; rw [put_defers] at r; exact r
      · right
        cases e : X.kept m with
        | none => rfl
        | some o => have := hle.kept m o e; rw [r] at this; cases this
    cases ex2 with
    | normal =>
      obtain ⟨r2, hl2, hq⟩ := q2
      refine key true .ready none r2 hl2 (fun _ _ _ _ _ _ _ _ _ _ _ _ _ => trivial) ?_ (hK _ _ hq)
      intro l' r2' w fn a2 ex2' R m c cs e hw A
      cases e
      exact Steps.trans A (.one (stepR_round_end (b := { (default : Frame) with fn := fn, kind := .normal, roundOf := some l' }) (a := a2) rfl rfl (run_endRound none hw)))
    | ret =>
      obtain ⟨r2, hl2, hq⟩ := q2
      refine key false .done (some .ret) r2 hl2 (fun _ _ _ _ _ _ _ _ _ _ _ _ _ => trivial) ?_ (hK _ _ hq)
      intro l' r2' w fn a2 ex2' R m c cs e hw A
      cases e
      obtain ⟨J, hJ⟩ := A
      exact Steps.trans hJ (.one (stepR_round_ret (b := { (default : Frame) with fn := fn, kind := .normal, roundOf := some l' }) (a := a2) rfl rfl (run_endRound (some .ret) hw)))
    | exit id =>
      obtain ⟨r2, hl2, hq⟩ := q2
      refine key false .done (some (.exit id)) r2 hl2 (fun _ _ _ _ _ _ _ _ _ _ _ _ _ => trivial) ?_ (hK _ _ hq)
      intro l' r2' w fn a2 ex2' R m c cs e hw A
      cases e
      obtain ⟨J, hJ, hs⟩ := A
      exact Steps.trans hs (.one (stepR_round_exit (b := { (default : Frame) with fn := fn, kind := .normal, roundOf := some l' }) (a := a2) rfl rfl (by rw [hJ]; rfl) (run_endRound (some (.exit id)) hw)))
    | panic v => exact q2.elim

/-- The statement 'for .. := range g'. -/
theorem SC.rangeFunc {g : Operand} {ps : Array Tmp} {assign body : Code} {f : FuncId} {first caps : List Value} {T : List Value} {r0 : Res} (hg : evOf P st g = some (.func (.func f) ⟨first⟩ ⟨caps⟩)) (he : enterD P f [] = some r0) (hdok : st.dok = true) (hT : T.length = st.n) (hTv : ∀ (t : Nat) (v : Value), T[t]? = some v → v.cells ≠ #[] → st.env t = some v)
    (h : SCall P f (first ++ [.func (.yield st.H.next) ⟨[]⟩ ⟨[]⟩] ++ caps) (st.H.alloc (.loop { state := .ready, pending := none, fn := 0, tmps := ⟨T⟩, params := ps, assign := assign, body := body, defers := 0 })) fun
      | .ret _, H2 => ∃ (r : Loop) (p : Option Code), H2.get st.H.next = some (.loop r) ∧ r.state ≠ .busy ∧ r.pending = p ∧ (match p with
        | none => Q .normal (st.at_ (H2.put st.H.next (.loop { r with state := .exhausted })))
        | some c => SC P c Q (st.at_ (H2.put st.H.next (.loop { r with state := .exhausted }))))
      | .panic v, H2 => Q (.panic v) (st.at_ H2)) : SC P (.rangeFunc g ps assign body) Q st := by
  obtain ⟨en, H2, q, k⟩ := h
  -- what the machine does up to the function's end
  have key : ∀ (X : Cx) (R : Ren) (a : Act) (w : World), GX P X → Rel X R st.H w → StR R st a → MK X a → ∀ (b : Frame) (K : List Item) (cs : List Frame), (st.dok = true → b.roundOf = none) →
      ∃ (X1 : Cx) (R1 : Ren) (a1 : Act) (w1 : World) (en' : En) (f' : Frame) (l : Nat), Grow X a X1 a1 ∧ MK X1 a1 ∧ R.le R1 ∧ Rel X1 R1 H2 w1 ∧ StR R1 (st.at_ H2) a1 ∧ EnR R1 en en' ∧ R1 st.H.next = some ⟨l, 0, 1, 0, true⟩ ∧
        Steps P (lone (fr b a (.code (.rangeFunc g ps assign body) :: K)) cs w) (lone f' (fr b a1 (.inRangeFunc l :: K) :: cs) w1) ∧ f'.leaving P w1 (match en' with | .ret v => .returned v | .panic v => .panicked [{ v, recovered := false }]) := by
    intro X R a w hG hR hS hM b K cs hb
    have hro := hb hdok
    have hsz : X.kept w.heap.size = none := by
      cases q : X.kept w.heap.size with
      | none => rfl
      | some o => have := (hR.kept _ _ q).2.1; rw [Array.getElem?_eq_none (Nat.le_refl _)] at this; cases this
    have hR1 := hR.garbage (.deferred (some []))
    have hgv := evOf_ok hG hR hS g _ hg
    generalize hgg : a.eval g = gv at hgv
    cases hgv with
    | func hfn hx hy =>
      cases hfn
      rename_i first' caps'
      let i : RI := ⟨(w.alloc (.deferred (some []))).heap.size, 0, 1, 0, true⟩
      have hle : R.le (R.add st.H.next i) := Ren.le_add i (hR.free _ (Nat.le_refl _))
      have htr : LoopR (R.add st.H.next i) { state := .ready, pending := none, fn := 0, tmps := ⟨T⟩, params := ps, assign := assign, body := body, defers := 0 } { state := .ready, pending := none, fn := b.fn, tmps := a.tmps, params := ps, assign := assign, body := body, defers := w.heap.size } := by
        refine ⟨rfl, rfl, rfl, rfl, rfl, by show T.length = a.tmps.size; rw [hT, hS.size], fun t v e hc => ?_⟩
        have e' : T[t]? = some v := by simpa using e
        obtain ⟨h1, h2⟩ := hS.env t v (hTv t v e' hc)
        have hlt : t < a.tmps.size := by rw [hS.size]; exact h1
        refine ⟨a.tmps[t], Array.getElem?_eq_getElem hlt, ?_⟩
        rw [Array.getD_eq_getD_getElem?, Array.getElem?_eq_getElem hlt] at h2
        exact h2.mono hle
      have hR2 := hR1.alloc (.loop { state := .ready, pending := none, fn := 0, tmps := ⟨T⟩, params := ps, assign := assign, body := body, defers := 0 }) (.loop { state := .ready, pending := none, fn := b.fn, tmps := a.tmps, params := ps, assign := assign, body := body, defers := w.heap.size }) i rfl rfl
        (.loop _ _ rfl hR1.size (heap_alloc_new _ _) htr)
      have hgx : Grow X a (X.keep fun k => if k = w.heap.size then some (.deferred (some [])) else X.kept k) { a with defers := { target := .collected w.heap.size, args := #[] } :: a.defers } := by
        refine ⟨⟨rfl, rfl, rfl, fun k o e => ?_⟩, fun m q => ?_⟩
        · show (if k = w.heap.size then _ else X.kept k) = _
          rw [if_neg (fun q => by rw [q, hsz] at e; cases e)]; exact e
        · simp only [marks, List.mem_cons] at q
          rcases q with rfl | q
          · exact .inr hsz
          · exact .inl q
      have hmk : MK (X.keep fun k => if k = w.heap.size then some (.deferred (some [])) else X.kept k) { a with defers := { target := .collected w.heap.size, args := #[] } :: a.defers } := by
        refine ⟨fun m q => ?_, ?_⟩
        · simp only [marks, List.mem_cons] at q
          rcases q with rfl | q
          · show (if w.heap.size = w.heap.size then _ else _) = _
            rw [if_pos rfl]
          · exact hgx.le.kept _ _ (hM.kept m q)
        · simp only [marks, List.nodup_cons]
          exact ⟨fun q => (by have := hM.kept _ q; rw [hsz] at this; cases this), hM.nodup⟩
      have hsz1 : (w.alloc (.deferred (some []))).heap.size = w.heap.size + 1 := World.size_alloc ..
      have henter : (Instr.enterLoop b.fn a.tmps ps assign body none).run P w = .ok ((w.alloc (.deferred (some []))).heap.size, [{ target := .collected w.heap.size, args := #[] }]) ((w.alloc (.deferred (some []))).alloc (.loop { state := .ready, pending := none, fn := b.fn, tmps := a.tmps, params := ps, assign := assign, body := body, defers := w.heap.size })) := by
        rw [hsz1]; exact run_enterLoop_outer (P := P) (w := w) b.fn a.tmps ps assign body
      have hres : (resolve a.eval (rangeCall g ((w.alloc (.deferred (some []))).heap.size)) 0).run P ((w.alloc (.deferred (some []))).alloc (.loop { state := .ready, pending := none, fn := b.fn, tmps := a.tmps, params := ps, assign := assign, body := body, defers := w.heap.size })) = .ok { target := .fn (.func f) ⟨caps'⟩, args := ⟨first'⟩ ++ #[.func (.yield (w.alloc (.deferred (some []))).heap.size) #[] #[]] } ((w.alloc (.deferred (some []))).alloc (.loop { state := .ready, pending := none, fn := b.fn, tmps := a.tmps, params := ps, assign := assign, body := body, defers := w.heap.size })) := by
        have hc : (#[Operand.const (.func (.yield (w.alloc (.deferred (some []))).heap.size) #[] #[])] : Array Operand).map a.eval = #[.func (.yield (w.alloc (.deferred (some []))).heap.size) #[] #[]] := by simp [Act.eval]
        simp only [resolve, rangeCall, hgg, Deferred.ofValue, hc]
        rfl
      have hargs : VRs (R.add st.H.next i) (first ++ [.func (.yield st.H.next) ⟨[]⟩ ⟨[]⟩] ++ caps) (first' ++ [.func (.yield (w.alloc (.deferred (some []))).heap.size) ⟨[]⟩ ⟨[]⟩] ++ caps') :=
        ((hx.mono hle).append (.one (.func (.yield _ i (Ren.add_same _ _ _) rfl) .nil .nil))).append (hy.mono hle)
      have hinv : (invoke (.fn (.func f) ⟨caps'⟩) (⟨first'⟩ ++ #[.func (.yield (w.alloc (.deferred (some []))).heap.size) #[] #[]])).run P ((w.alloc (.deferred (some []))).alloc (.loop { state := .ready, pending := none, fn := b.fn, tmps := a.tmps, params := ps, assign := assign, body := body, defers := w.heap.size })) = .ok (.enter f ⟨first' ++ [.func (.yield (w.alloc (.deferred (some []))).heap.size) ⟨[]⟩ ⟨[]⟩] ++ caps'⟩) ((w.alloc (.deferred (some []))).alloc (.loop { state := .ready, pending := none, fn := b.fn, tmps := a.tmps, params := ps, assign := assign, body := body, defers := w.heap.size })) := by
        have e1 := enterD_any he (first ++ [.func (.yield st.H.next) ⟨[]⟩ ⟨[]⟩] ++ caps)
        have := enterD_ok (X := X.keep fun k => if k = w.heap.size then some (.deferred (some [])) else X.kept k) (H := st.H) (w := ((w.alloc (.deferred (some []))).alloc (.loop { state := .ready, pending := none, fn := b.fn, tmps := a.tmps, params := ps, assign := assign, body := body, defers := w.heap.size }))) e1 hargs
        simp only [invoke, aapp]
        generalize hr : Sem.run P (callFunc f _) _ = res at this ⊢
        cases this with
        | @enter _ _ args2 hv2 =>
          unfold callFunc at hr
          unfold enterD at he
          split at he
          · rename_i fn hf
            split at he
            · cases he
            · rename_i hc
              simp only [Bool.or_eq_true, not_or, Bool.not_eq_true] at hc
              simp only [Sem.run_bind, run_program, Result.andThen_ok, hf, hc.1, hc.2, Bool.false_eq_true, if_false] at hr
              exact hr.symm
          · cases he
      have hstep := stepR_rangeFunc (P := P) (b := b) (a := a) (k := K) (cs := cs) (w := w) (g := g) (ps := ps) (assign := assign) (body := body) (by rw [hro]; exact henter) hres hinv
      obtain ⟨R2, w2, en', f', l2, r2, e2, hfn, hsteps, hleave⟩ := k _ (R.add st.H.next i) _ _ (hgx.gx hG) hR2 hargs (fr b { a with defers := { target := .collected w.heap.size, args := #[] } :: a.defers } (.inRangeFunc (w.alloc (.deferred (some []))).heap.size :: K) :: cs)
      refine ⟨_, R2, _, w2, en', f', (w.alloc (.deferred (some []))).heap.size, hgx, hmk, Ren.le_trans hle l2, r2, ⟨hS.size, (hS.mono (Ren.le_trans hle l2)).env, .mark _ (hS.mono (Ren.le_trans hle l2)).defs⟩, e2, l2 _ _ (Ren.add_same _ _ _), .head ?_ hsteps, hleave⟩
      exact hstep
  cases en with
  | panic v =>
    refine ⟨.panic v, st.at_ H2, q, fun X R a w hG hR hS hM b K cs hb => ?_⟩
    obtain ⟨X1, R1, a1, w1, en', f', l, hgr, hmk, l1, r1, t1, e1, hl, hst, hlv⟩ := key X R a w hG hR hS hM b K cs hb
    cases e1 with
    | panic hv =>
      exact ⟨X1, R1, a1, w1, _, hgr, l1, r1, t1, hmk, .panic hv, rfl, .inRangeFunc l :: K, hst.trans (.one (step_leave_panicked hlv))⟩
  | ret v =>
    obtain ⟨r, p, hget, hnb, hp, hq⟩ := q
    have fin : ∀ {ex : Ex} {s' : St}, (∀ (X : Cx) (R : Ren) (a : Act) (w : World) (jump : Option Code), GX P X → Rel X R (H2.put st.H.next (.loop { r with state := .exhausted })) w → StR R (st.at_ (H2.put st.H.next (.loop { r with state := .exhausted }))) a → MK X a → ∀ (b : Frame) (K : List Item) (cs : List Frame), (st.dok = true → b.roundOf = none) → jump = r.pending →
          ∃ (X' : Cx) (R' : Ren) (a' : Act) (w' : World) (ex' : Ex), Grow X a X' a' ∧ R.le R' ∧ Rel X' R' s'.H w' ∧ StR R' s' a' ∧ MK X' a' ∧ ExR R' ex ex' ∧ s'.dok = st.dok ∧ Arr P (lone (fr b a ((jump.map Item.code).toList ++ K)) cs w) b K cs ex' a' w') → Q ex s' → SC P (.rangeFunc g ps assign body) Q st := by
      intro ex s' hk hQ
      refine ⟨ex, s', hQ, fun X R a w hG hR hS hM b K cs hb => ?_⟩
      obtain ⟨X1, R1, a1, w1, en', f', l, hgr, hmk, l1, r1, t1, e1, hl, hst, hlv⟩ := key X R a w hG hR hS hM b K cs hb
      cases e1 with
      | ret hv =>
        rename_i v'
        obtain ⟨i, rl, hi, ho, hb', hw, hlr⟩ := r1.loopBlk hget
        rw [hl] at hi; cases hi
        have hR2 := r1.putLoop hget hl rfl hb' hw hlr .exhausted r.pending
        have he : ({ rl with state := .exhausted, pending := r.pending } : Loop) = { rl with state := .exhausted } := by rw [← hlr.pending]
        rw [he] at hR2
        obtain ⟨X2, R2, a2, w2, ex2, x2, l2, r2, t2, m2, e2, d2, A2⟩ := hk X1 R1 a1 _ rl.pending (hgr.gx hG) hR2 ⟨t1.size, t1.env, t1.defs⟩ hmk b K cs hb hlr.pending
        refine ⟨X2, R2, a2, w2, ex2, hgr.trans x2, Ren.le_trans l1 l2, r2, t2, m2, e2, d2, .of_steps (hst.trans (.head (step_leave_returned hlv) ?_)) A2⟩
        have hfin := finish_atR_inRangeFunc (b := b) (a := a1) (k := K) l v'
        have h1 := stepR_endRangeFunc (P := P) (b := b) (a := a1) (k := K) (cs := cs) (w := w1) (l := l) (run_endLoop hw (by rw [hlr.state]; exact hnb))
        refine .one ?_
        rw [show (fr b a1 (.inRangeFunc l :: K)).finish v' = fr b a1 (.endRangeFunc l :: K) from hfin]
        exact h1
    cases p with
    | none =>
      refine fin (ex := .normal) (fun X R a w jump hG hR hS hM b K cs hb hj => ?_) hq
      have hj := hj.trans hp
      subst hj
      exact ⟨X, R, a, w, .normal, Grow.refl X a, Ren.le_refl R, hR, hS, hM, .normal, rfl, .refl _ _⟩
    | some c =>
      obtain ⟨ex, s', hQ, kk⟩ := hq
      refine fin (ex := ex) (fun X R a w jump hG hR hS hM b K cs hb hj => ?_) hQ
      have hj := hj.trans hp
      subst hj
      exact kk X R a w hG hR hS hM b K cs hb
end rules
end Go.Det

set_option linter.unusedSimpArgs false
set_option linter.unusedVariables false
namespace Go.Det
open Go Go.RowKit

/-! ## 47. Ranges over functions, in place -/
/-- What a loop's record has of its own. -/
structure LC where
  tmps : Array Value
  params : Array Tmp
  assign : Code
  body : Code
def LC.rec_ (c : LC) (s : LoopState) (p : Option Code) : Loop := { state := s, pending := p, fn := 0, tmps := c.tmps, params := c.params, assign := c.assign, body := c.body, defers := 0 }
def tmpsOf (l : VEnv) (n : Nat) : List Value := (List.range n).map fun t => match lookV l t with | some (.v v) => v | _ => .agg ⟨[]⟩
theorem tmpsOf_length (l : VEnv) (n : Nat) : (tmpsOf l n).length = n := by simp [tmpsOf]
theorem tmpsOf_look {l : VEnv} {n t : Nat} {v : Value} (h : (tmpsOf l n)[t]? = some v) (hc : v.cells ≠ #[]) : lookV l t = some (.v v) := by
  simp only [tmpsOf, List.getElem?_map] at h
  obtain ⟨u, hu, rfl⟩ := Option.map_eq_some_iff.1 h
  have : u = t := by
    rw [List.getElem?_range] at hu
    · exact (Option.some.inj hu).symm
    · have := (List.getElem?_eq_some_iff.1 hu).1; simpa using this
  subst this
  cases hl : lookV l u with
  | none => simp only [hl] at hc; exact absurd rfl hc
  | some y =>
    cases y with
    | v x => rfl
    | p a b => simp only [hl] at hc; exact absurd rfl hc
    | fn f c => simp only [hl] at hc; exact absurd rfl hc

/-- The loop's own end. -/
def RfQ (P : Program) (n : NN) (lp : Nat) (k : KK) (Q : Ex → SS → Prop) (l : VEnv) : En → Hp → Prop
  | .ret _, H2 => ∃ (r : Loop) (p : Option Code), H2.get lp = some (.loop r) ∧ r.state ≠ .busy ∧ r.pending = p ∧ (match p with
    | none => JK P k Q (VS.ss ⟨l, [], true, 0⟩ (fun _ => 0) n (H2.put lp (.loop { r with state := .exhausted })))
    | some c => JK P (.code c :: k) Q (VS.ss ⟨l, [], true, 0⟩ (fun _ => 0) n (H2.put lp (.loop { r with state := .exhausted }))))
  | .panic v, H2 => Q (.panic v) (VS.ss ⟨l, [], true, 0⟩ (fun _ => 0) n H2)
def QB (l : Nat) (K : Bool → Hp → Prop) : Ex → SS → Prop
  | .normal, s => ∃ r, s.H.get l = some (.loop r) ∧ K true (s.H.put l (.loop { r with state := .ready, pending := none }))
  | .ret, s => ∃ r, s.H.get l = some (.loop r) ∧ K false (s.H.put l (.loop { r with state := .done, pending := some .ret }))
  | .exit id, s => ∃ r, s.H.get l = some (.loop r) ∧ K false (s.H.put l (.loop { r with state := .done, pending := some (.exit id) }))
  | .panic _, _ => False
def QA (P : Program) (l : Nat) (body : Code) (Q : Ex → SS → Prop) : Ex → SS → Prop
  | .normal, s => ∃ r, s.H.get l = some (.loop r) ∧ r.state = .ready ∧ J P body Q { s with H := s.H.put l (.loop { r with state := .busy }) }
  | _, _ => False
def YK (P : Program) (n : NN) (a : Array Oper) (m i : Nat) (k : KK) (Q : Ex → SS → Prop) (l : VEnv) (d : Option Tmp) : Bool → Hp → Prop :=
  fun b H' => ∃ s', putS (VS.ss ⟨l, [], true, 0⟩ (fun _ => 0) n H') d (.bool b) H' = some s' ∧ JK P (.ops a m (i + 1) :: k) Q s'

section jk
variable {P : Program} {Q : Ex → SS → Prop} {k : KK} {s : SS}
theorem JK.rangeFunc {g : Operand} {ps : Array Tmp} {assign body : Code} {f : FuncId} {first caps T : List Value} {r0 : Res} (hg : evS P s g = some (.func (.func f) ⟨first⟩ ⟨caps⟩)) (he : enterD P f [] = some r0) (hdok : s.dok = true) (hT : T.length = s.n) (hTv : ∀ (t : Nat) (v : Value), T[t]? = some v → v.cells ≠ #[] → look s.l t = some v)
    (h : SCall P f (first ++ [.func (.yield s.H.next) ⟨[]⟩ ⟨[]⟩] ++ caps) (s.H.alloc (.loop { state := .ready, pending := none, fn := 0, tmps := ⟨T⟩, params := ps, assign := assign, body := body, defers := 0 })) fun
      | .ret _, H2 => ∃ (r : Loop) (p : Option Code), H2.get s.H.next = some (.loop r) ∧ r.state ≠ .busy ∧ r.pending = p ∧ (match p with
        | none => JK P k Q { s with H := H2.put s.H.next (.loop { r with state := .exhausted }) }
        | some c => JK P (.code c :: k) Q { s with H := H2.put s.H.next (.loop { r with state := .exhausted }) })
      | .panic v, H2 => Q (.panic v) { s with H := H2 }) : JK P (.code (.rangeFunc g ps assign body) :: k) Q s := by
  show J P (.rangeFunc g ps assign body) (QK P k Q) s
  refine SC.rangeFunc (by rw [evS_eq]; exact hg) he hdok hT hTv (h.mono fun e H2 q => ?_)
  cases e with
  | ret v =>
    obtain ⟨r, p, h1, h2, h3, h4⟩ := q
    refine ⟨r, p, h1, h2, h3, ?_⟩
    cases p with
    | none => exact ⟨_, rfl, h4⟩
    | some c => exact h4
  | panic v => exact ⟨_, rfl, by rw [QK_panic]; exact q⟩
theorem JK.yield {a : Array Oper} {m i : Nat} {o : Oper} {l : Nat} {args : List Value} {rec : Loop} {K : Bool → Hp → Prop} {s1 : SS} (ho : a[i]? = some o) (hg : gdS a s o = some true) (hd : notDefer o.op = true) (he : opD P s.H (evS P s) o = some (.yield l args)) (hf : putS s o.dst undef s.H = some s1) (hH : s.H.get l = some (.loop rec)) (hn : args.length = rec.params.size)
    (hK : ∀ b H', K b H' → ∃ s', putS s o.dst (.bool b) H' = some s' ∧ JK P (.ops a m (i + 1) :: k) Q s')
    {s0 : SS} (hle : s0.st.le (roundSt rec args s.H)) (h : J P rec.assign (QA P l rec.body (QB l K)) s0) : JK P (.ops a (m + 1) i :: k) Q s := by
  show SL P a (List.range' i (m + 1)) _ s.st
  rw [List.range'_succ]
  refine SL.yield (K := K) ho (by rw [gdS_eq]; exact hg) hd (by rw [evS_eq]; exact he) (putS_ok hf).2 hH hn (fun b H' q => ?_) ?_
  · obtain ⟨s', h1, h2⟩ := hK b H' q
    obtain ⟨h3, _⟩ := putS_ok h1
    rw [← h3]; exact h2
  · refine SI.le hle (SI.mono h fun e t ⟨s', h1, h2⟩ => ?_)
    subst h1
    cases e with
    | normal =>
      obtain ⟨r, g1, g2, g3⟩ := h2
      refine ⟨r, g1, g2, SI.mono g3 fun e2 t2 ⟨s2, k1, k2⟩ => ?_⟩
      subst k1
      cases e2 <;> exact k2
    | _ => exact h2.elim
end jk

/-- What a round's frame begins with. -/
def lessT : VEnv → Array Value → Prop
  | [], _ => True
  | (t, .v v) :: r, x => x[t]? = some v ∧ Nat.blt 0 v.cells.size = true ∧ lessT r x
  | _ :: _, _ => False
theorem lessT_look {x : Array Value} {ids : Nat → Nat} : ∀ {l : VEnv}, lessT l x → ∀ (t : Nat) (v : Value), look (denE ids l) t = some v → x[t]? = some v ∧ v.cells ≠ #[]
  | [], _, t, v, h => by cases h
  | (u, .v w) :: r, hl, t, v, h => by
    obtain ⟨h1, h2, h3⟩ := hl
    simp only [denE, List.map_cons, look] at h
    split at h
    · rename_i e; cases h
      refine ⟨by rw [e]; exact h1, fun q => ?_⟩
      simp only [den] at q
      rw [q] at h2; cases h2
    · exact lessT_look h3 t v h
  | (u, .p a b) :: r, hl, t, v, h => hl.elim
  | (u, .fn f c) :: r, hl, t, v, h => hl.elim
theorem roundSt_le {l : VEnv} {rec : Loop} {args : List Value} {H : Hp} {ids : Nat → Nat} {num : Nat} (hs : rec.tmps.size = num) (h : lessT l (fillT rec.tmps (rec.params.toList.zip args))) : (VS.ss ⟨l, [], true, 0⟩ ids ⟨num, false⟩ H).st.le (roundSt rec args H) := by
  refine ⟨fun t v e => ?_, hs, rfl, rfl, rfl⟩
  obtain ⟨h1, h2⟩ := lessT_look h t v e
  simp only [roundSt, h1, if_neg h2]

section rules
variable {P : Program} {Q : Ex → SS → Prop} {n n' : NN} {B0 B : Hp} {own : List OwnE} {k k' : KK} {x x' x'' : VS} (N : Nat)
/-- The statement 'for .. := range f': the function is entered in place. -/
theorem WJ.rf {g : Operand} {ps : Array Tmp} {assign body : Code} {f : FuncId} {fn : Func} {cb : Code} {first caps : List Value} {r0 : Res} {l : VEnv} {cl : Bool} {kB m num : Nat} {res : List ResultVar} {lc : Nat → VEnv} (hpl : plainE l = true) (hn : n = ⟨num, true⟩) (hg : evV P l g = some (.v (.func (.func f) ⟨first⟩ ⟨caps⟩))) (he : enterD P f [] = some r0)
    (hf : P.funcs[f]? = some fn) (hb : fn.body = some cb) (hm : fn.ntmps = m) {ga : Nat} (hga : (first ++ [undef] ++ caps).length = ga) (hl : Nat.ble ga m = true) (hr : fn.results.toList = res) (hlc : ∀ ids lp, denE ids (lc lp) = envOf (first ++ [.func (.yield lp) ⟨[]⟩ ⟨[]⟩] ++ caps))
    (h : ∀ lp B' C, C = (⟨⟨tmpsOf l num⟩, ps, assign, body⟩ : LC) → Abv 0 B B' ∧ Itv B B' → B0.next ≤ lp → B'.get lp = some (.loop (C.rec_ .ready none)) → WJ P ⟨m, true⟩ B0 B' own [.code cb] (bodyS P res (RfQ P n lp k Q l)) ⟨lc lp, [], true, 0⟩) :
    WJ P n B0 B own (.code (.rangeFunc g ps assign body) :: k) Q ⟨l, [], cl, kB⟩ := by
  intro ids H fr
  have hB := fr.none_
  have hlt : ∀ c z, B.get c = some z → c ≠ H.next := fun c z e q => by rw [q, hB] at e; cases e
  have hw := h H.next (B.with_ H.next (H.next + 1) (.loop { state := .ready, pending := none, fn := 0, tmps := ⟨tmpsOf l num⟩, params := ps, assign := assign, body := body, defers := 0 })) _ rfl
    ⟨⟨Nat.le_succ_of_le fr.nextB, fun c m0 cs _ _ e => by rw [Hp.get_with, if_neg (hlt c _ e)]; exact e⟩, fun c z e => by rw [Hp.get_with, if_neg (hlt c _ e)]; exact e⟩ fr.ext0.next (by rw [Hp.get_with, if_pos rfl]; rfl) ids _ (fr.newB _)
  have hg' := evV_eq P ⟨l, [], cl, kB⟩ ids n H hg
  subst hn
  refine JK.rangeFunc (T := tmpsOf l num) hg' he rfl (tmpsOf_length _ _) (fun t v e hc => ?_) ?_
  · have := tmpsOf_look e hc
    show look (denE ids l) t = some v
    rw [look_denE, this]; rfl
  · simp only [VS.ss, hlc] at hw
    have hlen : (first ++ [Value.func (.yield H.next) ⟨[]⟩ ⟨[]⟩] ++ caps).length ≤ m := by
      have := Nat.le_of_ble_eq_true hl
      rw [← hga] at this
      simpa using this
    refine (SCall.body hf hb hm hlen hr hw).mono fun e H2 q => ?_
    have hd : denE ids l = denE (fun _ => 0) l := plainE_den hpl _ _
    cases e with
    | ret v =>
      obtain ⟨r, p, h1, h2, h3, h4⟩ := q
      refine ⟨r, p, h1, h2, h3, ?_⟩
      simp only [VS.ss, hd] at h4 ⊢
      cases p <;> exact h4
    | panic v =>
      simp only [RfQ, VS.ss] at q ⊢
      rw [hd]; exact q

theorem WF.putLoop {ids : Nat → Nat} {H : Hp} {lp : Nat} {C : LC} {s : LoopState} {p : Option Code} (fr : WF B0 B own [] ids H) (hB : B.get lp = some (.loop (C.rec_ s p))) (h0 : B0.next ≤ lp) (s' : LoopState) (p' : Option Code) :
    WF B0 (B.with_ lp B.next (.loop (C.rec_ s' p'))) own [] (fun _ => 0) (H.put lp (.loop (C.rec_ s' p'))) ∧ Abv 0 B (B.with_ lp B.next (.loop (C.rec_ s' p'))) ∧ (∀ c z, c ≠ lp → B.get c = some z → (B.with_ lp B.next (.loop (C.rec_ s' p'))).get c = some z) ∧ (B.with_ lp B.next (.loop (C.rec_ s' p'))).get lp = some (.loop (C.rec_ s' p')) :=
  ⟨(fr.putB hB h0).noLoc, ⟨Nat.le_refl _, fun c m0 cs _ _ e => by rw [Hp.get_with, if_neg (fun q => by rw [q, hB] at e; cases e)]; exact e⟩, fun c z q e => by rw [Hp.get_with, if_neg q]; exact e, by rw [Hp.get_with, if_pos rfl]⟩

/-- The function that is ranged over has ended. -/
theorem WJ.rfR {lp : Nat} {C : LC} {s : LoopState} {res : List ResultVar} {vs : List Value} {l l' : VEnv} {cl : Bool} {kB : Nat} {e : Ex} (he : e = .ret ∨ e = .normal) (hs : vSym P n' N k x = .fin e ⟨l', [], cl, kB⟩) (hr : ressV P ⟨l', [], cl, kB⟩ res = some vs) (hB : B.get lp = some (.loop (C.rec_ s none))) (h0 : B0.next ≤ lp) (hst : s ≠ .busy)
    (h : ∀ B', Abv 0 B B' → (∀ c z, c ≠ lp → B.get c = some z → B'.get c = some z) → WJ P n B0 B' own k' Q ⟨l, [], true, 0⟩) : WJ P n' B0 B own k (bodyS P res (RfQ P n lp k' Q l)) x := by
  refine WJ.sym N hs fun ids H fr => ?_
  obtain ⟨g1, g2, g3, g4⟩ := fr.putLoop hB h0 .exhausted none
  have hb : bodyS P res (RfQ P n lp k' Q l) .ret (VS.ss ⟨l', [], cl, kB⟩ ids n' H) := ⟨rfl, vs, wressV_ok fr hr, C.rec_ s none, none, fr.sub _ _ hB, hst, rfl, h _ g2 g3 (fun _ => 0) _ g1⟩
  rcases he with rfl | rfl <;> exact hb
theorem WJ.rfJ {lp : Nat} {C : LC} {s : LoopState} {c : Code} {res : List ResultVar} {vs : List Value} {l l' : VEnv} {cl : Bool} {kB : Nat} {e : Ex} (he : e = .ret ∨ e = .normal) (hs : vSym P n' N k x = .fin e ⟨l', [], cl, kB⟩) (hr : ressV P ⟨l', [], cl, kB⟩ res = some vs) (hB : B.get lp = some (.loop (C.rec_ s (some c)))) (h0 : B0.next ≤ lp) (hst : s ≠ .busy)
    (h : ∀ B', Abv 0 B B' → (∀ c z, c ≠ lp → B.get c = some z → B'.get c = some z) → WJ P n B0 B' own (.code c :: k') Q ⟨l, [], true, 0⟩) : WJ P n' B0 B own k (bodyS P res (RfQ P n lp k' Q l)) x := by
  refine WJ.sym N hs fun ids H fr => ?_
  obtain ⟨g1, g2, g3, g4⟩ := fr.putLoop hB h0 .exhausted (some c)
  have hb : bodyS P res (RfQ P n lp k' Q l) .ret (VS.ss ⟨l', [], cl, kB⟩ ids n' H) := ⟨rfl, vs, wressV_ok fr hr, C.rec_ s (some c), some c, fr.sub _ _ hB, hst, rfl, h _ g2 g3 (fun _ => 0) _ g1⟩
  rcases he with rfl | rfl <;> exact hb

/-- A call of yield: a round is entered in place. -/
theorem WJ.yl {a : Array Oper} {m i : Nat} {o : Oper} {c : Call} {gop : Operand} {lp : Nat} {args : List SV} {vs : List Value} {C : LC} {T : List Value} {ps : Array Tmp} {as_ bd : Code} {num : Nat} {l lr : VEnv} {cl : Bool} {kB : Nat} (hC : C = ⟨⟨T⟩, ps, as_, bd⟩) (hsz : T.length = num) (hpl : plainE l = true)
    (ho : a[i]? = some o) (hg : gdV a l o = some true) (hop : o.op = .call c) (hcal : c.callee = .value gop) (hgv : evV P l gop = some (.v (.func (.yield lp) ⟨[]⟩ ⟨[]⟩))) (hargs : argsV P l c.args.toList = some args) (hav : args.map (den fun _ => 0) = vs) (hpa : (args.all fun y => match y with | .v _ => true | _ => false) = true)
    (hput : putV ⟨l, [], true, 0⟩ n o.dst (.v undef) = some x'') (hB : B.get lp = some (.loop (C.rec_ .ready none))) (hn : vs.length = ps.size)
    (hl : lessT lr (fillT ⟨T⟩ (ps.toList.zip vs)))
    (h : WJ P ⟨num, false⟩ B0 B own [.code as_] (QA P lp bd (QB lp (YK P n a m i k' Q l o.dst))) ⟨lr, [], true, 0⟩) :
    WJ P n B0 B own (.ops a (m + 1) i :: k') Q ⟨l, [], cl, kB⟩ := by
  subst hC
  intro ids H fr
  have hw := h ids H fr
  have hd : denE ids l = denE (fun _ => 0) l := plainE_den hpl _ _
  have hv : args.map (den ids) = vs := by
    rw [← hav]
    refine List.map_congr_left fun y hy => ?_
    have := List.all_eq_true.1 hpa y hy
    cases y with
    | v u => rfl
    | p a b => simp at this
    | fn f c => simp at this
  obtain ⟨p1, _⟩ := putV_eq (fun _ => 0) H H hput
  have hop' : opD P H (evS P (VS.ss ⟨l, [], cl, kB⟩ ids n H)) o = some (.yield lp vs) := by
    unfold opD; simp only [hop]; unfold callD
    simp only [argsV_eq (x := ⟨l, [], cl, kB⟩) (ids := ids) (n := n) (H := H) hargs, hcal, evV_eq P ⟨l, [], cl, kB⟩ ids n H hgv, den, hv]
  have hS : (VS.ss ⟨l, [], cl, kB⟩ ids n H) = VS.ss ⟨l, [], true, 0⟩ (fun _ => 0) n H := by simp only [VS.ss, hd]
  refine JK.yield (rec := LC.rec_ ⟨⟨T⟩, ps, as_, bd⟩ .ready none) (K := YK P n a m i k' Q l o.dst) ho (gdV_eq (x := ⟨l, [], cl, kB⟩) ids n H hg) (by rw [hop]; rfl) hop' (by rw [hS]; exact p1) (fr.sub _ _ hB) hn (fun b H' q => ?_) (roundSt_le hsz hl) hw
  obtain ⟨s', h1, h2⟩ := q
  refine ⟨s', ?_, h2⟩
  rw [hS, ← h1]
  cases o.dst <;> rfl
/-- The parameters are set: the round's body begins. -/
theorem WJ.ylA {lp : Nat} {C : LC} {p : Option Code} {bd : Code} {QQ : Ex → SS → Prop} {l : VEnv} {cl : Bool} {kB : Nat} (hs : vSym P n N k x = .fin .normal ⟨l, [], cl, kB⟩) (hB : B.get lp = some (.loop (C.rec_ .ready p))) (h0 : B0.next ≤ lp)
    (h : ∀ B', Abv 0 B B' → (∀ c z, c ≠ lp → B.get c = some z → B'.get c = some z) → B'.get lp = some (.loop (C.rec_ .busy p)) → WJ P n B0 B' own [.code bd] QQ ⟨l, [], true, 0⟩) (hpl : plainE l = true) : WJ P n B0 B own k (QA P lp bd QQ) x := by
  refine WJ.sym N hs fun ids H fr => ?_
  obtain ⟨g1, g2, g3, g4⟩ := fr.putLoop hB h0 .busy p
  have hd : denE ids l = denE (fun _ => 0) l := plainE_den hpl _ _
  refine ⟨C.rec_ .ready p, fr.sub _ _ hB, rfl, ?_⟩
  have := h _ g2 g3 g4 (fun _ => 0) _ g1
  simp only [VS.ss, ← hd] at this
  exact this
/-- A round has ended. -/
theorem WJ.ylE {lp : Nat} {C : LC} {s : LoopState} {p : Option Code} {a : Array Oper} {m i : Nat} {l l' : VEnv} {cl : Bool} {kB : Nat} {d : Option Tmp} {e : Ex} {bb : Bool} {st' : LoopState} {pp : Option Code} (hs : vSym P n' N k x = .fin e ⟨l', [], cl, kB⟩) (hB : B.get lp = some (.loop (C.rec_ s p))) (h0 : B0.next ≤ lp)
    (he : (e = .normal ∧ bb = true ∧ st' = .ready ∧ pp = none) ∨ (e = .ret ∧ bb = false ∧ st' = .done ∧ pp = some .ret) ∨ (∃ id, e = .exit id ∧ bb = false ∧ st' = .done ∧ pp = some (.exit id))) (hp : putV ⟨l, [], true, 0⟩ n d (.v (.bool bb)) = some x'')
    (h : ∀ B', Abv 0 B B' → (∀ c z, c ≠ lp → B.get c = some z → B'.get c = some z) → B'.get lp = some (.loop (C.rec_ st' pp)) → WJ P n B0 B' own (.ops a m (i + 1) :: k') Q x'') : WJ P n' B0 B own k (QB lp (YK P n a m i k' Q l d)) x := by
  refine WJ.sym N hs fun ids H fr => ?_
  obtain ⟨g1, g2, g3, g4⟩ := fr.putLoop hB h0 st' pp
  obtain ⟨p1, p2, p3, p4⟩ := putV_eq (fun _ => 0) (H.put lp (.loop (C.rec_ st' pp))) (H.put lp (.loop (C.rec_ st' pp))) hp
  have hh : YK P n a m i k' Q l d bb (H.put lp (.loop (C.rec_ st' pp))) := ⟨_, p1, h _ g2 g3 g4 (fun _ => 0) _ (by rw [p2]; exact g1)⟩
  rcases he with ⟨rfl, rfl, rfl, rfl⟩ | ⟨rfl, rfl, rfl, rfl⟩ | ⟨id, rfl, rfl, rfl, rfl⟩
  · exact ⟨C.rec_ s p, fr.sub _ _ hB, hh⟩
  · exact ⟨C.rec_ s p, fr.sub _ _ hB, hh⟩
  · exact ⟨C.rec_ s p, fr.sub _ _ hB, hh⟩
end rules
end Go.Det

set_option linter.unusedSimpArgs false
set_option linter.unusedVariables false
namespace Go.Det
open Go Go.RowKit

/-! ## 48. Names for variables; frozen slices; meeting places inside a region -/
def subst0 (k b : Nat) : SV0 → SV0
  | .v x => .v x
  | .p j off => match Nat.beq j k with | true => .v (.pointer (some ⟨b, off, none⟩)) | false => .p j off
def substV (k b : Nat) : SV → SV
  | .v x => .v x
  | .p j off => match Nat.beq j k with | true => .v (.pointer (some ⟨b, off, none⟩)) | false => .p j off
  | .fn f caps => .fn f (caps.map (subst0 k b))
def substE (k b : Nat) : VEnv → VEnv
  | [] => []
  | (t, x) :: r => (t, substV k b x) :: substE k b r
theorem subst0_den {ids : Nat → Nat} {k : Nat} : ∀ (x : SV0), den0 ids (subst0 k (ids k) x) = den0 ids x
  | .v _ => rfl
  | .p j off => by
    cases h : Nat.beq j k with
    | true => simp only [subst0, h, den0]; rw [Nat.eq_of_beq_eq_true h]
    | false => simp only [subst0, h]
theorem substV_den {ids : Nat → Nat} {k : Nat} : ∀ (x : SV), den ids (substV k (ids k) x) = den ids x
  | .v _ => rfl
  | .p j off => by
    cases h : Nat.beq j k with
    | true => simp only [substV, h, den]; rw [Nat.eq_of_beq_eq_true h]
    | false => simp only [substV, h]
  | .fn f caps => by
    simp only [substV, den]
    congr 2
    rw [List.map_map]
    exact List.map_congr_left fun x _ => subst0_den x
theorem substE_den {ids : Nat → Nat} {k : Nat} : ∀ (l : VEnv), denE ids (substE k (ids k) l) = denE ids l
  | [] => rfl
  | (t, x) :: r => by
    have := substE_den (ids := ids) (k := k) r
    simp only [substE, denE, List.map_cons, substV_den] at this ⊢
    rw [this]
def plain0s : List SV0 → Option (List Value)
  | [] => some []
  | .v x :: r => match plain0s r with | some l => some (x :: l) | none => none
  | .p _ _ :: _ => none
theorem plain0s_den {ids : Nat → Nat} : ∀ {l : List SV0} {vs : List Value}, plain0s l = some vs → l.map (den0 ids) = vs
  | [], vs, h => by cases h; rfl
  | .v x :: r, vs, h => by
    simp only [plain0s] at h
    split at h
    · rename_i l hl; cases h; rw [List.map_cons, plain0s_den hl]; rfl
    · cases h
  | .p _ _ :: _, vs, h => by cases h
def normV : SV → SV
  | .fn f caps => match plain0s caps with | some vs => .v (.func (.func f) ⟨[]⟩ ⟨vs⟩) | none => .fn f caps
  | .v x => .v x
  | .p j o => .p j o
def normE : VEnv → VEnv
  | [] => []
  | (t, x) :: r => (t, normV x) :: normE r
theorem normV_den {ids : Nat → Nat} : ∀ (x : SV), den ids (normV x) = den ids x
  | .v _ => rfl
  | .p _ _ => rfl
  | .fn f caps => by
    simp only [normV]
    split
    · rename_i vs h; simp only [den, plain0s_den h]
    · rfl
theorem normE_den {ids : Nat → Nat} : ∀ (l : VEnv), denE ids (normE l) = denE ids l
  | [] => rfl
  | (t, x) :: r => by
    have := normE_den (ids := ids) r
    simp only [normE, denE, List.map_cons, normV_den] at this ⊢
    rw [this]
section rules
variable {P : Program} {Q : Ex → SS → Prop} {n : NN} {B0 B D : Hp} {kD : Nat} {own : List OwnE} {k k' : KK} {x x' x'' : VS}
/-- The newest variable gets a name. -/
theorem WJ.liftS {l : VEnv} {loc loc' : List (List Value)} {cs : List Value} {cl : Bool} {kB : Nat} (hloc : loc' = loc ++ [cs]) (hlt : Nat.blt cs.length LOOSE = true)
    (h : ∀ b, WJ P n B0 B (own ++ [⟨some ⟨b, 0, none⟩, cs.length, 1, cs⟩]) k Q ⟨substE loc.length b l, loc, true, 0⟩) : WJ P n B0 B own k Q ⟨l, loc', cl, kB⟩ := by
  subst hloc
  rw [Nat.blt_eq] at hlt
  intro ids H fr
  have := h (ids loc.length) ids H (fr.lift hlt)
  simp only [VS.ss, substE_den] at this ⊢
  exact this
theorem WJ.nf {l : VEnv} {loc : List (List Value)} {cl : Bool} {kB : Nat} (h : WJ P n B0 B own k Q ⟨normE l, loc, true, 0⟩) : WJ P n B0 B own k Q ⟨l, loc, cl, kB⟩ := by
  intro ids H fr
  have := h ids H fr
  simp only [VS.ss, normE_den] at this ⊢
  exact this
/-- A slice of the function's own is only read from now on. -/
theorem WF.freeze {α : Type} {c : Cod α} {loc : List (List Value)} {ids : Nat → Nat} {H : Hp} {j cap : Nat} {ad : Option Addr} {cs : List Value} {L : List α} (fr : WF B0 B own loc ids H) (hj : own[j]? = some ⟨ad, cap, c.sz, cs⟩) (hp : 0 < c.sz) (hr : RepL c B0.next B cs L) :
    ∃ B', WF B0 B' (own.set j ⟨none, 0, c.sz, []⟩) loc ids H ∧ Abv 0 B B' ∧ Itv B B' ∧ SlF B0.next B' c ad cap L := by
  have hok := fr.mine j _ hj
  have hlt := lt_of_get hj
  have get : ∀ i f, (own.set j ⟨none, 0, c.sz, []⟩)[i]? = some f → (i = j ∧ f = (⟨none, 0, c.sz, []⟩ : OwnE)) ∨ (i ≠ j ∧ own[i]? = some f) := by
    intro i f h
    by_cases q : i = j
    · subst q; rw [List.getElem?_set_self hlt] at h; cases h; exact .inl ⟨rfl, rfl⟩
    · rw [List.getElem?_set_ne (fun r => q r.symm)] at h; exact .inr ⟨q, h⟩
  rcases hok with ⟨h1, h2, h3⟩ | ⟨b, h1, h2, h3, h4⟩
  · simp only at h1 h2 h3
    subst h1 h2 h3
    have hL : L = [] := by
      have := hr.len
      simp only [List.length_nil] at this
      rcases Nat.mul_eq_zero.1 this.symm with w | w
      · exact List.length_eq_zero_iff.1 w
      · omega
    have hset : own.set j ⟨none, 0, c.sz, []⟩ = own := by
      obtain ⟨g1, g2⟩ := List.getElem?_eq_some_iff.1 hj
      rw [← g2]; exact List.set_getElem_self g1
    refine ⟨B, by rw [hset]; exact fr, Abv.refl _ _, fun _ _ h => h, .inl ⟨rfl, rfl, hL⟩⟩
  · simp only at h1 h4
    subst h1
    obtain ⟨m, hget⟩ : ∃ m, H.get b = some (.cells m cs) := by rcases h4 with ⟨_, _, g⟩ | ⟨_, _, g⟩ <;> exact ⟨_, g⟩
    have hBb := (fr.mineB j _ b hj rfl).1
    have hne : ∀ d z, B.get d = some z → d ≠ b := fun d z e q => by rw [q, hBb] at e; cases e
    have hab : Abv 0 B (B.with_ b H.next (.cells m cs)) := ⟨fr.nextB, fun d m0 cs0 _ _ e => by rw [Hp.get_with, if_neg (hne d _ e)]; exact e⟩
    refine ⟨B.with_ b H.next (.cells m cs), ⟨fr.ext0, Nat.le_refl _, ?_, ?_, fr.here, ?_, fr.inj, ?_, ?_, ?_⟩, hab, fun d z e => by rw [Hp.get_with, if_neg (hne d z e)]; exact e, .inr ⟨b, 0, cs, rfl, hr.mono (Nat.le_refl _) (hab.le (Nat.zero_le _)), .inr ⟨h2, h3, m, cs, by rw [Hp.get_with, if_pos rfl], by simp, by simp⟩⟩⟩
    · intro d z h
      show d < H.next
      rw [Hp.get_with] at h
      split at h
      · rename_i q; omega
      · have := fr.trim d z h; have := fr.nextB; omega
    · intro d z h
      rw [Hp.get_with] at h
      split at h
      · rename_i q; subst q; cases h; exact hget
      · exact fr.sub d z h
    · intro i hi
      rw [Hp.get_with, if_neg ((fr.mineB j _ b hj rfl).2 i hi)]
      exact fr.apart i hi
    · intro i f h
      rcases get i f h with ⟨_, rfl⟩ | ⟨_, h⟩
      · exact .inl ⟨rfl, rfl, rfl⟩
      · exact fr.mine i f h
    · intro i f d h hd
      rcases get i f h with ⟨_, rfl⟩ | ⟨q, h⟩
      · simp [OwnE.blk] at hd
      · refine ⟨?_, (fr.mineB i f d h hd).2⟩
        rw [Hp.get_with, if_neg (fun r => q (fr.mineI i j f _ d h hj hd (by rw [r]; rfl)))]
        exact (fr.mineB i f d h hd).1
    · intro i i' f f' d h h' hd hd'
      rcases get i f h with ⟨_, rfl⟩ | ⟨q, h⟩
      · simp [OwnE.blk] at hd
      · rcases get i' f' h' with ⟨_, rfl⟩ | ⟨q', h'⟩
        · simp [OwnE.blk] at hd'
        · exact fr.mineI i i' f f' d h h' hd hd'
theorem WJ.fz {α : Type} {c : Cod α} {j cap sz : Nat} {ad : Option Addr} {cs : List Value} {L : List α} (hj : own[j]? = some ⟨ad, cap, sz, cs⟩) (hc : c.sz = sz) (hp : Nat.blt 0 sz = true) (hr : RepL c B0.next B cs L)
    (h : ∀ B', Abv 0 B B' ∧ Itv B B' → SlF B0.next B' c ad cap L → WJ P n B0 B' (own.set j ⟨none, 0, sz, []⟩) k Q x) : WJ P n B0 B own k Q x := by
  subst hc
  rw [Nat.blt_eq] at hp
  intro ids H fr
  obtain ⟨B', h1, h2, h3, h4⟩ := fr.freeze hj hp hr
  exact h B' ⟨h2, h3⟩ h4 ids H h1
/-- A meeting place inside a region. -/
theorem JL.less {ops : Array Oper} {i m : Nat} {s : SS} (l : Env) (hl : lessB l s.l) (h : JL P ops m i Q { s with l := l }) : JL P ops m i Q s := SI.le (less_st hl) h
theorem WJ.gotoO {a : Array Oper} {m i : Nat} {I l : VEnv} {O : List OwnE} {M : Hp} {cl : Bool} {kB : Nat} (h : WJ P n B0 M O (.ops a m i :: k') Q ⟨I, [], true, 0⟩) (hl : lessV I l) (hO : own.take O.length = O) (hB : B = M) : WJ P n B0 B own (.ops a m i :: k') Q ⟨l, [], cl, kB⟩ := by
  subst hB
  intro ids H fr
  exact JL.less (denE ids I) (lessV_ok ids hl) (h ids H (fr.firsts rfl hO))
end rules
end Go.Det

set_option linter.unusedSimpArgs false
set_option linter.unusedVariables false
namespace Go.Det
open Go Go.RowKit

/-! ## 47. Parts of strings -/
def sub (s : List UInt8) (lo hi : Int) : Option (List UInt8) := if 0 ≤ lo ∧ lo ≤ hi ∧ hi ≤ (s.length : Int) then some ((s.drop lo.toNat).take (hi.toNat - lo.toNat)) else none
theorem bs_extract (s : List UInt8) (l h : Nat) : (bs s).extract l h = bs ((s.drop l).take (h - l)) := by
  have : ((bs s).extract l h).data.toList = (s.drop l).take (h - l) := by
    simp [bs, ByteArray.data_extract]
  unfold bs at *
  cases hx : ByteArray.extract ⟨s.toArray⟩ l h with
  | mk d => rw [hx] at this; simp only at this; rw [← this]
section
variable {P : Program} {H : Hp} {ev : Ev} {o : Oper}
theorem sliceD_lh {t : TypeId} {s r : List UInt8} {l h : Int} {k k' : IntKind} (hu : P.underlying t = some .string) (e : sub s l h = some r) : sliceD P H t (.string (bs s)) (some (.int k l)) (some (.int k' h)) none = some (.string (bs r)) := by
  unfold sub at e
  split at e
  · rename_i hh
    cases e
    have h1 : optB (some (.int k' h)) (bs s).size (bs s).size = some h.toNat := by
      simp only [optB, boundD]; rw [if_pos ⟨by omega, hh.2.2⟩]
    have h2 : optB (some (.int k l)) h.toNat 0 = some l.toNat := by
      simp only [optB, boundD]; rw [if_pos ⟨by omega, by omega⟩]
    simp only [sliceD, hu, h1, h2, bs_extract]
  · cases e
theorem sliceD_l {t : TypeId} {s r : List UInt8} {l : Int} {k : IntKind} (hu : P.underlying t = some .string) (e : sub s l (s.length : Int) = some r) : sliceD P H t (.string (bs s)) (some (.int k l)) none none = some (.string (bs r)) := by
  unfold sub at e
  split at e
  · rename_i hh
    cases e
    have h1 : optB none (bs s).size (bs s).size = some s.length := rfl
    have h2 : optB (some (.int k l)) s.length 0 = some l.toNat := by
      simp only [optB, boundD]; rw [if_pos ⟨by omega, by omega⟩]
    simp only [sliceD, hu, h1, h2, bs_extract]
    rw [Int.toNat_natCast]
  · cases e
theorem sliceD_h {t : TypeId} {s r : List UInt8} {h : Int} {k' : IntKind} (hu : P.underlying t = some .string) (e : sub s 0 h = some r) : sliceD P H t (.string (bs s)) none (some (.int k' h)) none = some (.string (bs r)) := by
  unfold sub at e
  split at e
  · rename_i hh
    cases e
    have h1 : optB (some (.int k' h)) (bs s).size (bs s).size = some h.toNat := by
      simp only [optB, boundD]; rw [if_pos ⟨by omega, hh.2.2⟩]
    have h2 : optB none h.toNat 0 = some 0 := rfl
    simp only [sliceD, hu, h1, h2, bs_extract]
    rfl
  · cases e
theorem opD_slh {t : TypeId} {x lo hi : Operand} {a l h v : Value} (ho : o.op = .slice t x (some lo) (some hi) none) (hx : ev x = some a) (h1 : ev lo = some l) (h2 : ev hi = some h) (e : sliceD P H t a (some l) (some h) none = some v) : opD P H ev o = some (.val v H) :=
  opD_slice ho hx (by simp [OptEv, h1]) (by simp [OptEv, h2]) rfl e
theorem opD_sl {t : TypeId} {x lo : Operand} {a l v : Value} (ho : o.op = .slice t x (some lo) none none) (hx : ev x = some a) (h1 : ev lo = some l) (e : sliceD P H t a (some l) none none = some v) : opD P H ev o = some (.val v H) :=
  opD_slice ho hx (by simp [OptEv, h1]) rfl rfl e
theorem opD_sh {t : TypeId} {x hi : Operand} {a h v : Value} (ho : o.op = .slice t x none (some hi) none) (hx : ev x = some a) (h2 : ev hi = some h) (e : sliceD P H t a none (some h) none = some v) : opD P H ev o = some (.val v H) :=
  opD_slice ho hx rfl (by simp [OptEv, h2]) rfl e
theorem opD_s {t : TypeId} {x : Operand} {a v : Value} (ho : o.op = .slice t x none none none) (hx : ev x = some a) (e : sliceD P H t a none none none = some v) : opD P H ev o = some (.val v H) :=
  opD_slice ho hx rfl rfl rfl e
/-! Comparisons with nil -/
theorem eq_nilIf {t : TypeId} {w : Array (String × TypeId)} (hu : P.underlying t = some (.interface w)) : ∀ D, 0 < D → pureRun P (Op.equalIn D t .nilIface .nilIface) = some true
  | 0, h => absurd h (by decide)
  | D + 1, _ => by
    unfold Op.equalIn
    simp only [pureRun_bind, pureRun_underlying hu, Option.bind_some]; rfl
theorem opD_ifE {t u : TypeId} {x y : Operand} {e : TypeId} {v : Value} {w : Array (String × TypeId)} (ho : o.op = .binOp .eql t x y u) (hx : ev x = some (.iface e v)) (hy : ev y = some .nilIface) (hu : P.underlying t = some (.interface w)) : opD P H ev o = some (.val (.bool false) H) :=
  opD_bin ho hx hy (by simp only [binD, nilD, hu, nilEq])
theorem opD_ifN {t u : TypeId} {x y : Operand} {e : TypeId} {v : Value} {w : Array (String × TypeId)} (ho : o.op = .binOp .neq t x y u) (hx : ev x = some (.iface e v)) (hy : ev y = some .nilIface) (hu : P.underlying t = some (.interface w)) : opD P H ev o = some (.val (.bool true) H) :=
  opD_bin ho hx hy (by simp only [binD, nilD, hu, nilEq]; rfl)
theorem opD_nnE {t u : TypeId} {x : Operand} {w : Array (String × TypeId)} (ho : o.op = .binOp .eql t x (.const .nilIface) u) (hx : ev x = some .nilIface) (hy : ev (.const .nilIface) = some .nilIface) (hu : P.underlying t = some (.interface w)) : opD P H ev o = some (.val (.bool true) H) := by
  have hr : pureRun P (execOp (fun x => (ev x).getD undef) o) = some (.value (.bool true)) := by
    unfold execOp
    simp only [ho, hx, hy, Option.getD_some]
    have hq : pureRun P (eqGuard .eql t x (.const .nilIface) .nilIface .nilIface) = some () := by
      unfold eqGuard; cases x <;> rfl
    have he := eq_nilIf hu Op.maxDepth (by decide)
    have hb : pureRun P (binOp .eql t .nilIface .nilIface) = some (.bool true) := by
      show pureRun P (Op.equalIn Op.maxDepth t .nilIface .nilIface >>= fun r => pure (Value.bool r)) = _
      rw [pureRun_bind, he]; rfl
    simp only [pureRun_bind, hq, hb, Option.bind_some]; rfl
  have hgd : genD P ev o = some (.bool true) := by
    unfold genD
    rw [if_pos (by simp only [ho, Op.operands]; simp [hx, hy, flat])]
    simp only [hr]
    rfl
  refine opD_bin ho hx hy ?_
  simp only [binD, nilD, hu, nilEq, hgd]
theorem opD_nnN {t u : TypeId} {x : Operand} {w : Array (String × TypeId)} (ho : o.op = .binOp .neq t x (.const .nilIface) u) (hx : ev x = some .nilIface) (hy : ev (.const .nilIface) = some .nilIface) (hu : P.underlying t = some (.interface w)) : opD P H ev o = some (.val (.bool false) H) := by
  have hr : pureRun P (execOp (fun x => (ev x).getD undef) o) = some (.value (.bool false)) := by
    unfold execOp
    simp only [ho, hx, hy, Option.getD_some]
    have hq : pureRun P (eqGuard .neq t x (.const .nilIface) .nilIface .nilIface) = some () := by
      unfold eqGuard; cases x <;> rfl
    have he := eq_nilIf hu Op.maxDepth (by decide)
    have hb : pureRun P (binOp .neq t .nilIface .nilIface) = some (.bool false) := by
      show pureRun P (Op.equalIn Op.maxDepth t .nilIface .nilIface >>= fun r => pure (Value.bool (!r))) = _
      rw [pureRun_bind, he]; rfl
    simp only [pureRun_bind, hq, hb, Option.bind_some]; rfl
  have hgd : genD P ev o = some (.bool false) := by
    unfold genD
    rw [if_pos (by simp only [ho, Op.operands]; simp [hx, hy, flat])]
    simp only [hr]
    rfl
  refine opD_bin ho hx hy ?_
  simp only [binD, nilD, hu, nilEq, hgd]
end
section
variable {P : Program} {a : Array Oper} {fl : Bool} {n : NN} {B0 B D : Hp} {kD : Nat} {own : List OwnE}
/-- A string that is read from. -/
theorem side_str {i : Nat} {o : Oper} {t : TypeId} {z : Operand} {lo hi mx : Option Operand} {y : ByteArray} {s : SS} {x : VS} {loc : List (List Value)} {ids : Nat → Nat} {H : Hp} (ho : a[i]? = some o) (hop : o.op = .slice t z lo hi mx) (hz : evV P x.l z = some (.v (.string y))) (h0 : s.H = D) (f : WFD B0 B D kD own loc ids H) : side P a fl s.st i (x.ss ids n H).st := by
  intro hfl
  refine ⟨by show Ext s.H H; rw [h0]; exact f.extD, fun hf o' ho' b' hb' => ?_⟩
  rw [ho] at ho'; cases ho'
  rw [hop] at hb'
  simp only [readBlk] at hb'
  rw [evS_eq, evV_eq P x ids n H hz] at hb'
  simp only [den, blkOf] at hb'
  cases hb'
end
/-- An error: nil or not. -/
def errR (b : Bool) (y : Value) : Prop := match b with | true => y = .nilIface | false => ∃ t z, y = .iface t z
end Go.Det

set_option linter.unusedSimpArgs false
set_option linter.unusedVariables false
namespace Go.Det
open Go Go.RowKit

/-! ## 48. A block that a library function made: nothing is known of what it holds -/
theorem Rel.adoptNew {X : Cx} {w w' : World} {R : Ren} {H : Hp} (h : Rel X R H w) (k : Below w.heap.size w w') {N : Nat} (hN : w.heap.size ≤ N) {cs : Array Value} {e : TypeId} (hw : w'.heap[N]? = some (.cells cs e (0, 0))) :
    Rel X (R.add H.next ⟨N, 0, 1, cs.size, true⟩) (H.alloc (.cells (.more 1) [])) w' ∧ R.le (R.add H.next ⟨N, 0, 1, cs.size, true⟩) := by
  have hn : R H.next = none := h.free _ (Nat.le_refl _)
  have hle := Ren.le_add (R := R) ⟨N, 0, 1, cs.size, true⟩ hn
  have hNs : N < w'.heap.size := (Array.getElem?_eq_some_iff.1 hw).1
  have hlt : ∀ b j y, H.get b = some y → R b = some j → j.blk < w.heap.size := by
    intro b j y e r
    obtain ⟨j', r', br⟩ := h.blk b y e
    rw [r] at r'; cases r'
    rcases RI_own_of_BR br with ⟨k, _⟩ | ⟨_, k, _⟩
    · exact h.lt b j r k
    · have := h.size; omega
  have h' := h.later k
  refine ⟨⟨?_, ?_, ?_, ?_, h'.below, h'.size, ?_, by rw [Hp.next_alloc]; have := h.gle; omega, ?_⟩, hle⟩
  · intro b y e
    rw [Hp.get_alloc] at e
    by_cases q : b = H.next
    · subst q; rw [if_pos rfl] at e; cases e
      refine ⟨_, Ren.add_same _ _ _, .own (.more 1) [] cs _ (0, 0) (by decide) rfl (Nat.le_trans h.size hN) hw rfl (Nat.zero_le _) (fun q => by cases q) (fun s q => by cases q; rfl) (fun o _ q => by omega) (fun j v q => by simp at q)⟩
    · rw [if_neg q] at e
      obtain ⟨j, r, br⟩ := h'.blk b y e
      exact ⟨j, hle _ _ r, br.keep hle rfl⟩
  · intro b c j l y z eb ec rb rc ob oc e
    rw [Hp.get_alloc] at eb ec
    by_cases kb : b = H.next
    · by_cases kc : c = H.next
      · omega
      · rw [if_neg kc] at ec
        subst kb
        rw [Ren.add_same] at rb; cases rb
        have rc' : R c = some l := by simpa [Ren.add, kc] using rc
        have := hlt c l z ec rc'
        have e' : N = l.blk := e
        omega
    · rw [if_neg kb] at eb
      have rb' : R b = some j := by simpa [Ren.add, kb] using rb
      by_cases kc : c = H.next
      · subst kc
        rw [Ren.add_same] at rc; cases rc
        have := hlt b j y eb rb'
        have e' : j.blk = N := e
        omega
      · rw [if_neg kc] at ec
        have rc' : R c = some l := by simpa [Ren.add, kc] using rc
        exact h.inj b c j l y z eb ec rb' rc' ob oc e
  · intro b hb
    rw [Hp.next_alloc] at hb
    have : b ≠ H.next := by omega
    simp only [Ren.add, if_neg this]
    exact h.free b (by omega)
  · intro b i r ho
    by_cases q : b = H.next
    · subst q; rw [Ren.add_same] at r; cases r; exact hNs
    · have r' : R b = some i := by simpa [Ren.add, q] using r
      exact h'.lt b i r' ho
  · intro g hg
    obtain ⟨i, r, q⟩ := h.glob g hg
    exact ⟨i, hle _ _ r, q⟩
  · intro q o hq
    obtain ⟨h1, h2, h3⟩ := h'.kept q o hq
    refine ⟨h1, h2, fun b i r ho => ?_⟩
    by_cases qb : b = H.next
    · subst qb; rw [Ren.add_same] at r; cases r
      have := (h.kept q o hq).2.1
      have := (Array.getElem?_eq_some_iff.1 this).1
      simp only; omega
    · have r' : R b = some i := by simpa [Ren.add, qb] using r
      exact h3 b i r' ho
/-- A number, and an error that is new. -/
theorem SCall.ofErr {P : Program} {f : FuncId} {args : List Value} {v : Int} {T : TypeId} (h : ∀ w, Laid w w.heap.size → Calls P f ⟨args⟩ w fun e w' => ∃ N cs t, e = .returned (.tuple #[.int .i64 v, .iface T (.pointer (some ⟨N, 0, none⟩))]) ∧ w.heap.size ≤ N ∧ w'.heap[N]? = some (.cells cs t (0, 0)) ∧ Below w.heap.size w w') (ha : flats args = true) (H : Hp) :
    SCall P f args H (Ret fun v' H' => Ext H H' ∧ ∃ y, v' = .tuple ⟨[.int .i64 v, y]⟩ ∧ errR false y) := by
  refine ⟨.ret (.tuple ⟨[.int .i64 v, .iface T (.pointer (some ⟨H.next, 0, none⟩))]⟩), H.alloc (.cells (.more 1) []), ⟨_, rfl, (Ext.refl _).alloc _, _, rfl, _, _, rfl⟩, fun X R w args' hG hR hargs cs0 => ?_⟩
  have he := flats_eq hargs ha
  subst he
  obtain ⟨e, w', fr, ⟨N, cs, t, rfl, hN, hw, hb⟩, hc', hf, hl⟩ := h w (hG.now hR) cs0
  obtain ⟨hR', hle⟩ := hR.adoptNew hb hN hw
  exact ⟨_, _, .ret _, fr, hle, hR', .ret (.tuple (.cons (.int _ _) (.cons (.iface _ (.ptr ⟨rfl, rfl, _, Ren.add_same _ _ _, rfl, rfl⟩)) .nil))), hf, hc', hl⟩
theorem SCall.ofOk {P : Program} {f : FuncId} {args : List Value} {v : Int} (h : ∀ w, Laid w w.heap.size → Calls P f ⟨args⟩ w fun e w' => e = .returned (.tuple #[.int .i64 v, .nilIface]) ∧ Below w.heap.size w w') (ha : flats args = true) (H : Hp) :
    SCall P f args H (Ret fun v' H' => Ext H H' ∧ ∃ y, v' = .tuple ⟨[.int .i64 v, y]⟩ ∧ errR true y) :=
  (SCall.ofCallsL (v := .tuple ⟨[.int .i64 v, .nilIface]⟩) h ha rfl H).mono fun _ _ ⟨_, h1, h2, h3⟩ => by
    subst h2 h3
    exact ⟨_, h1, Ext.refl _, _, rfl, rfl⟩
end Go.Det

set_option linter.unusedSimpArgs false
set_option linter.unusedVariables false
namespace Go.Det
open Go Go.RowKit

/-! ## 49. Elements that are stored, literal slices, loops that are unrolled -/
def apn {α : Type} (by_ : Nat) (l l' : List α) : Option (List α) := match l' with | [] => none | _ :: _ => apd by_ l l'
theorem apn_some {α : Type} {by_ : Nat} {l l' r : List α} (h : apn by_ l l' = some r) : l' ≠ [] ∧ (l.length + l'.length) * by_ ≤ 140737488355328 ∧ l ++ l' = r := by
  cases l' with
  | nil => cases h
  | cons x y => exact ⟨by simp, apd_some h⟩
section
variable {P : Program} {Q : Ex → SS → Prop} {n : NN} {B0 B : Hp} {own : List OwnE} {k k' : KK} {x x' x'' : VS} {loc : List (List Value)} {ids : Nat → Nat} {H : Hp} (N : Nat)
theorem WJ.un {c : Code} (hs : vSym P n N k x = .loop c k' x') (h : WJ P n B0 B own (.code c :: .inLoop c :: k') Q x') : WJ P n B0 B own k Q x :=
  WJ.sym N hs fun ids H fr => JK.loop (h ids H fr)
theorem WJ.ro {c : Code} (hs : vSym P n N k x = .again c k' x') (h : WJ P n B0 B own (.code c :: .inLoop c :: k') Q x') : WJ P n B0 B own k Q x :=
  WJ.sym N hs fun ids H fr => JK.round (h ids H fr)
theorem idxLit {t et sz b off len cap i : Nat} {kd : IntKind} {j : Int} (ht : P.underlying t = some (.slice et)) (hs : sizeD P et = some sz) (hj : j = (i : Int)) (hi : Nat.blt i len = true) : indexAddrD P t (.slice (some ⟨b, off, none⟩) len cap) (.int kd j) = some (.pointer (some ⟨b, off + i * sz, none⟩)) := by
  subst hj
  rw [Nat.blt_eq] at hi
  simp only [indexAddrD, ht, hs]
  rw [if_pos ⟨by omega, by omega⟩, Int.toNat_natCast]
theorem wr_mid : ∀ (vs A B C : List Value), B.length = vs.length → wr (A ++ B ++ C) A.length vs = A ++ vs ++ C
  | [], A, B, C, h => by
    have : B = [] := List.length_eq_zero_iff.1 h
    subst this; simp [wr]
  | v :: vs, A, [], C, h => by simp at h
  | v :: vs, A, b :: B, C, h => by
    have e : (A ++ (b :: B) ++ C).set A.length v = (A ++ [v]) ++ B ++ C := by simp
    have ih := wr_mid vs (A ++ [v]) B C (by simpa using h)
    rw [wr, e, show A.length + 1 = (A ++ [v]).length from by simp, ih]; simp
theorem set_split {α : Type} {L : List α} {i : Nat} {z : α} (h : i < L.length) : L.set i z = L.take i ++ z :: L.drop (i + 1) := by
  rw [List.set_eq_take_append_cons_drop, if_pos h]
theorem split_at {α : Type} {L : List α} {i : Nat} {y : α} (h : L[i]? = some y) : L = L.take i ++ y :: L.drop (i + 1) := by
  obtain ⟨h1, h2⟩ := List.getElem?_eq_some_iff.1 h
  subst h2
  simp
section flat
variable {α : Type} {enc : α → List Value}
theorem encL_cons (y : α) (l : List α) : encL enc (y :: l) = enc y ++ encL enc l := by simp [encL]
theorem storeC_set {t sz : Nat} {L : List α} {i : Int} {y z : α} {v : Value} (he : ∀ x, (enc x).length = sz) (hi : rd L i = some y) (hsz : sizeD P t = some sz) (hv : v.cells.toList = enc z) (h1 : ((enc z).all fun v => v.oneCell') = true) : storeC P t (encL enc L) (i.toNat * sz) v = some (encL enc (L.set i.toNat z)) := by
  obtain ⟨h2, h3, h4⟩ := rd_some hi
  have hlt : i.toNat < L.length := by omega
  have hs : v.cells.size = sz := by rw [← Array.length_toList, hv, he]
  have hlen := encL_length he L
  have hA : (encL enc (L.take i.toNat)).length = i.toNat * sz := by rw [encL_length he, List.length_take, Nat.min_eq_left (by omega)]
  have e0 : encL enc L = encL enc (L.take i.toNat) ++ enc y ++ encL enc (L.drop (i.toNat + 1)) := by
    conv => lhs; rw [split_at h4]
    rw [encL_append, encL_cons, List.append_assoc]
  have hle : i.toNat * sz + sz ≤ (encL enc L).length := by
    rw [hlen, ← Nat.succ_mul]; exact Nat.mul_le_mul_right _ hlt
  have b1 : Nat.beq sz v.cells.size = true := by rw [hs]; exact Nat.beq_refl sz
  have b2 : Nat.ble (i.toNat * sz + v.cells.size) (encL enc L).length = true := by rw [hs]; exact Nat.ble_eq_true_of_le hle
  have b3 : (v.cells.toList.all fun x => x.oneCell') = true := by rw [hv]; exact h1
  unfold storeC
  simp only [hsz, b1, b2, b3]
  congr 1
  rw [hv, e0, ← hA, wr_mid _ _ _ _ (by rw [he, he]), set_split hlt, encL_append, encL_cons, List.append_assoc]
/-- An element of a slice of the function's own is stored. -/
theorem WJ.st {a : Array Oper} {m m' : Nat} {o : Oper} {l : VEnv} {cl : Bool} {kB b cap sz : Nat} {ad : Option Addr} {t : TypeId} {pa px : Operand} {v : Value} {L : List α} {i : Int} {y : α} (z : α) (j : Nat) (hs : vSym P n N k x = .hard a m m' k' ⟨l, loc, cl, kB⟩) (ho : a[m']? = some o) (hg : gdV a l o = some true) (hd : notDefer o.op = true)
    (hop : o.op = .store t pa px) (hpa : evV P l pa = some (.v (.pointer (some ⟨b, i.toNat * sz, none⟩)))) (hpx : evV P l px = some (.v v)) (hj : own[j]? = some ⟨ad, cap, sz, encL enc L⟩) (ha : ad = some ⟨b, 0, none⟩) (he : ∀ x, (enc x).length = sz) (hi : rd L i = some y) (hsz : sizeD P t = some sz) (hv : v.cells.toList = enc z) (h1 : ((enc z).all fun v => v.oneCell') = true)
    (hp : putV ⟨l, loc, true, 0⟩ n o.dst (.v undef) = some x'') (h : WJ P n B0 B (own.set j ⟨ad, cap, sz, encL enc (L.set i.toNat z)⟩) (.ops a m (m' + 1) :: k') Q x'') : WJ P n B0 B own k Q x := by
  subst ha
  exact WJ.sb N hs ho hg hd hop hpa hpx hj (storeC_set he hi hsz hv h1) hp h
/-- Something is appended to a full part of a variable: a new slice. -/
theorem WJ.an {a : Array Oper} {m i : Nat} {o : Oper} {l : VEnv} {cl : Bool} {kB t et sz by_ capj szj len cap off b : Nat} {c : Call} {sv : Value} {cs : List Value} {L2 : List α} (L : List α) (j : Nat) (hs : vSym P n N k x = .hard a m i k' ⟨l, loc, cl, kB⟩) (ho : a[i]? = some o) (hg : gdV a l o = some true) (hd : notDefer o.op = true)
    (hop : o.op = .call c) (hcal : c.callee = .builtin .append) (hargs : argsV P l c.args.toList = some [.v (.slice (some ⟨b, off, none⟩) len cap), .v sv]) (hj : own[j]? = some ⟨some ⟨b, 0, none⟩, capj, szj, cs⟩) (hcs : (cs.drop off).take (len * sz) = encL enc L) (hle : Nat.ble (off + len * sz) cs.length = true) (hcap : Nat.blt cap LOOSE = true) (hfull : Nat.ble cap len = true) (hlen : L.length = len)
    (E : Elem P c t et sz by_) (hby : Nat.blt 0 by_ = true) (he : ∀ x, (enc x).length = sz) (hl : lenD sv = some L2.length) (hsrc : ∀ ids H, WF B0 B own loc ids H → srcD H sz sv L2.length = some (encL enc L2)) (hne : L2 ≠ []) (hb : (L.length + L2.length) * by_ ≤ 140737488355328)
    (hk : ∀ b', ∃ x'', putV ⟨l, loc, true, 0⟩ n o.dst (.v (.slice (some ⟨b', 0, none⟩) (L ++ L2).length LOOSE)) = some x'' ∧ WJ P n B0 B (own ++ [⟨some ⟨b', 0, none⟩, LOOSE, sz, encL enc (L ++ L2)⟩]) (.ops a m (i + 1) :: k') Q x'') : WJ P n B0 B own k Q x := by
  rw [Nat.blt_eq] at hby hcap
  have hle := Nat.le_of_ble_eq_true hle
  have hfull := Nat.le_of_ble_eq_true hfull
  have hm : L.length + L2.length ≤ 140737488355328 := Nat.le_trans (Nat.le_mul_of_pos_right _ hby) hb
  have h2 : 0 < L2.length := List.length_pos_iff.2 hne
  refine WJ.sn (R := fun v e' => ∃ b', v = .slice (some ⟨b', 0, none⟩) (L ++ L2).length LOOSE ∧ e' = ⟨some ⟨b', 0, none⟩, LOOSE, sz, encL enc (L ++ L2)⟩) N hs ho hg hd (fun ids H fr => ?_) ?_
  · obtain ⟨md, hget⟩ : ∃ md, H.get b = some (.cells md cs) := by
      rcases fr.mine j _ hj with ⟨g1, _⟩ | ⟨d, g1, _, _, g4⟩
      · cases g1
      · cases g1
        rcases g4 with ⟨_, _, g⟩ | ⟨_, _, g⟩ <;> exact ⟨_, g⟩
    have ha := append_fix (H := H) (len := len) (cap := cap) (o := off) E hl (hsrc ids H fr) h2 hget hcap (by omega) (by rw [← hlen]; exact hb) (by rw [← hlen]; exact hm) hle
    rw [hcs, ← encL_append] at ha
    refine ⟨_, ⟨some ⟨H.next, 0, none⟩, LOOSE, sz, encL enc (L ++ L2)⟩, _, opD_append hop hcal (show argsD (evS P (VS.ss ⟨l, loc, cl, kB⟩ ids n H)) c.args.toList = some [.slice (some ⟨b, off, none⟩) len cap, sv] from argsV_eq (x := ⟨l, loc, cl, kB⟩) hargs) ha, fr.addOwn (Ext.alloc (Ext.refl H) _) (.inr ⟨H.next, rfl, fr.ext0.next, by rw [Hp.next_alloc]; omega, .inl ⟨rfl, ?_, by rw [Hp.get_alloc, if_pos rfl]⟩⟩) (fun d hd => by simp [OwnE.blk] at hd; omega), H.next, by rw [List.length_append, hlen], rfl⟩
    intro q
    have := congrArg List.length q
    rw [encL_length he, List.length_append] at this
    have hsp := E.pos
    rcases Nat.mul_eq_zero.1 (show (L.length + L2.length) * sz = 0 from this) with w | w <;> omega
  · rintro v e' ⟨b', rfl, rfl⟩
    exact hk b'
end flat
end

/-! ## 50. Results that lie in variables with names -/
inductive ResO (P : Program) (own : List OwnE) (l : VEnv) : List ResultVar → List Value → Prop where
  | nil : ResO P own l [] []
  | tmp {t : Tmp} {v : Value} {rs : List ResultVar} {vs : List Value} (h : lookV l t = some (.v v)) (k : ResO P own l rs vs) : ResO P own l (.tmp t :: rs) (v :: vs)
  | cell {a : Tmp} {t : TypeId} {b off cap sz : Nat} {cs : List Value} {v : Value} {rs : List ResultVar} {vs : List Value} (j : Nat) (h : lookV l a = some (.v (.pointer (some ⟨b, off, none⟩)))) (hj : own[j]? = some ⟨some ⟨b, 0, none⟩, cap, sz, cs⟩) (hv : loadC P t cs off = some v) (k : ResO P own l rs vs) : ResO P own l (.cell a t :: rs) (v :: vs)
section
variable {P : Program} {Q : Ex → SS → Prop} {n n' : NN} {B0 B : Hp} {own : List OwnE} {k k' : KK} {x x' x'' : VS} (N : Nat)
theorem ResO.ok {l : VEnv} {loc : List (List Value)} {cl : Bool} {kB : Nat} {ids : Nat → Nat} {H : Hp} (fr : WF B0 B own loc ids H) {rs : List ResultVar} {vs : List Value} (h : ResO P own l rs vs) : ressS P (VS.ss ⟨l, loc, cl, kB⟩ ids n H) rs = some vs := by
  induction h with
  | nil => rfl
  | @tmp t v rs vs h k ih =>
    have h1 : resS P (VS.ss ⟨l, loc, cl, kB⟩ ids n H) (.tmp t) = some v := by
      simp only [resS]
      rw [show (VS.ss ⟨l, loc, cl, kB⟩ ids n H).l = denE ids l from rfl, look_denE, h]; rfl
    simp only [ressS, h1, ih]
  | @cell a t b off cap sz cs v rs vs j h hj hv k ih =>
    have h1 : resS P (VS.ss ⟨l, loc, cl, kB⟩ ids n H) (.cell a t) = some v := by
      simp only [resS]
      rw [show (VS.ss ⟨l, loc, cl, kB⟩ ids n H).l = denE ids l from rfl, look_denE, h]
      exact fr.ldOwn hj hv
    simp only [ressS, h1, ih]
theorem WJ.inlRo {res : List ResultVar} {vs : List Value} {v : Value} {d : Option Tmp} {l l' : VEnv} {cl : Bool} {kB : Nat} (hs : vSym P n' N k x = .fin .ret ⟨l', [], cl, kB⟩) (hr : ResO P own l' res vs) (hv : oneD vs = v) (hp : putV ⟨l, [], true, 0⟩ n d (.v v) = some x'') (h : WJ P n B0 B own k' Q x'') :
    WJ P n' B0 B own k (bodyS P res (Inl P n d k' Q l)) x := by
  refine WJ.sym N hs fun ids H fr => ⟨rfl, vs, hr.ok fr, ?_⟩
  obtain ⟨p1, p2, p3, p4⟩ := putV_eq (fun _ => 0) H H hp
  refine ⟨_, by rw [hv]; exact p1, h (fun _ => 0) H ?_⟩
  rw [p2]
  exact fr.noLoc
theorem WJ.inlNo {res : List ResultVar} {vs : List Value} {v : Value} {d : Option Tmp} {l l' : VEnv} {cl : Bool} {kB : Nat} (hs : vSym P n' N k x = .fin .normal ⟨l', [], cl, kB⟩) (hr : ResO P own l' res vs) (hv : oneD vs = v) (hp : putV ⟨l, [], true, 0⟩ n d (.v v) = some x'') (h : WJ P n B0 B own k' Q x'') :
    WJ P n' B0 B own k (bodyS P res (Inl P n d k' Q l)) x := by
  refine WJ.sym N hs fun ids H fr => ⟨rfl, vs, hr.ok fr, ?_⟩
  obtain ⟨p1, p2, p3, p4⟩ := putV_eq (fun _ => 0) H H hp
  refine ⟨_, by rw [hv]; exact p1, h (fun _ => 0) H ?_⟩
  rw [p2]
  exact fr.noLoc
theorem WJ.re {c : Code} {I l : VEnv} {O : List OwnE} {cl : Bool} {kB : Nat} (h : WJ P n B0 B O (.code c :: k') Q ⟨I, [], true, 0⟩) (hl : lessV I l) (hO : own.take O.length = O) : WJ P n B0 B own (.code c :: k') Q ⟨l, [], cl, kB⟩ :=
  fun ids H fr => JK.less (denE ids I) (lessV_ok ids hl) (.inl ⟨_, rfl⟩) (h ids H (fr.firsts rfl hO))
theorem WJ.rto {R : Value → Hp → Prop} {res : List ResultVar} {vs : List Value} {v : Value} {l : VEnv} {loc : List (List Value)} {cl : Bool} {kB : Nat} (hs : vSym P n N k x = .fin .ret ⟨l, loc, cl, kB⟩) (hr : ResO P own l res vs) (hv : oneD vs = v) (h : ∀ ids H, WF B0 B own loc ids H → R v H) : WJ P n B0 B own k (bodyS P res (Ret R)) x :=
  WJ.sym N hs (fun ids H fr => ⟨rfl, vs, hr.ok fr, v, by rw [hv], h ids H fr⟩)
theorem WJ.rno {R : Value → Hp → Prop} {res : List ResultVar} {vs : List Value} {v : Value} {l : VEnv} {loc : List (List Value)} {cl : Bool} {kB : Nat} (hs : vSym P n N k x = .fin .normal ⟨l, loc, cl, kB⟩) (hr : ResO P own l res vs) (hv : oneD vs = v) (h : ∀ ids H, WF B0 B own loc ids H → R v H) : WJ P n B0 B own k (bodyS P res (Ret R)) x :=
  WJ.sym N hs (fun ids H fr => ⟨rfl, vs, hr.ok fr, v, by rw [hv], h ids H fr⟩)
end
end Go.Det
