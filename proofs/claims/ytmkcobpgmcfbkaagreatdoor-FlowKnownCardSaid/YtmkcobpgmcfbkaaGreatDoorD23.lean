import Derived.Test.YtmkcobpgmcfbkaaGreatDoorD22
import Derived.ProofKit
import Derived.SizedLaws
import Derived.ChangeArms
import Derived.ChangeOld
import Derived.Carry
set_option linter.unusedSimpArgs false
set_option linter.unusedVariables false
namespace Go.Det
open Go Go.RowKit
mutual
/-- Cells that are a value of a type, in an abstract heap. -/
inductive Rd (P : Program) (H : Hp) : TypeId → List Value → Prop where
  | bool {t : TypeId} (b : Bool) (h : P.underlying t = some .bool) : Rd P H t [.bool b]
  | int {t : TypeId} {k : IntKind} (n : Int) (h : P.underlying t = some (.int k)) (hw : (Lit.int k n).wf = true) : Rd P H t [.int k n]
  | str {t : TypeId} (s : ByteArray) (h : P.underlying t = some .string) (hw : s.size ≤ reachBytes) : Rd P H t [.string s]
  | nilS {t e : TypeId} (h : P.underlying t = some (.slice e)) : Rd P H t [.slice none 0 0]
  | empty {t e : TypeId} (h : P.underlying t = some (.slice e)) : Rd P H t [.slice (some ⟨0, 0, none⟩) 0 EMPTY]
  | slice {t e : TypeId} (b len : Nat) (cs : List Value) (h : P.underlying t = some (.slice e)) (h0 : 0 < len) (hb : H.get b = some (.cells .old cs)) (hlt : b < H.next) (hcs : RdN P H e len cs) (hw : len * P.bytesOf e ≤ reachBytes) (hl : len ≤ maxLen) :
      Rd P H t [.slice (some ⟨b, 0, none⟩) len LOOSE]
  | struct {t : TypeId} {fs : Array Field} {cs : List Value} (h : P.underlying t = some (.struct fs)) (hcs : RdF P H fs.toList cs) : Rd P H t cs
  | array {t e : TypeId} {n : Nat} {cs : List Value} (h : P.underlying t = some (.array n e)) (hcs : RdN P H e n cs) : Rd P H t cs
inductive RdN (P : Program) (H : Hp) : TypeId → Nat → List Value → Prop where
  | nil (e : TypeId) : RdN P H e 0 []
  | cons {e : TypeId} {n : Nat} {c cs : List Value} (h : Rd P H e c) (hs : RdN P H e n cs) : RdN P H e (n + 1) (c ++ cs)
inductive RdF (P : Program) (H : Hp) : List Field → List Value → Prop where
  | nil : RdF P H [] []
  | cons {f : Field} {fs : List Field} {c cs : List Value} (h : Rd P H f.type c) (hs : RdF P H fs cs) : RdF P H (f :: fs) (c ++ cs)
end
mutual
theorem Rd.mono {P : Program} {H H' : Hp} (x : Ext H H') : ∀ {t : TypeId} {cs : List Value}, Rd P H t cs → Rd P H' t cs
  | _, _, .bool b h => .bool b h
  | _, _, .int n h hw => .int n h hw
  | _, _, .str s h hw => .str s h hw
  | _, _, .nilS h => .nilS h
  | _, _, .empty h => .empty h
  | _, _, .slice b len cs h h0 hb hlt hcs hw hl => .slice b len cs h h0 (by rw [x.same b hlt]; exact hb) (Nat.lt_of_lt_of_le hlt x.next) (RdN.mono x hcs) hw hl
  | _, _, .struct h hcs => .struct h (RdF.mono x hcs)
  | _, _, .array h hcs => .array h (RdN.mono x hcs)
theorem RdN.mono {P : Program} {H H' : Hp} (x : Ext H H') : ∀ {e : TypeId} {n : Nat} {cs : List Value}, RdN P H e n cs → RdN P H' e n cs
  | _, _, _, .nil e => .nil e
  | _, _, _, .cons h hs => .cons (Rd.mono x h) (RdN.mono x hs)
theorem RdF.mono {P : Program} {H H' : Hp} (x : Ext H H') : ∀ {fs : List Field} {cs : List Value}, RdF P H fs cs → RdF P H' fs cs
  | _, _, .nil => .nil
  | _, _, .cons h hs => .cons (Rd.mono x h) (RdF.mono x hs)
end
def contig (P : Program) : List Field → Nat → Option Nat
  | [], o => some o
  | f :: fs, o => if f.offset = o then contig P fs (o + P.cellsOf f.type) else none
def plainT (P : Program) : Nat → TypeId → Bool
  | 0, _ => false
  | n + 1, t =>
    match P.underlying t with
    | some .bool | some (.int _) | some .string => true
    | some (.slice e) => plainT P n e && decide (0 < P.cellsOf e)
    | some (.struct fs) => (fs.toList.all fun f => plainT P n f.type) && (contig P fs.toList 0 == some (P.cellsOf t))
    | some (.array k e) => plainT P n e && (k * P.cellsOf e == P.cellsOf t)
    | _ => false
theorem trod_array {H : Type} {enc : TypeId × Value → H} {P : Program} {w : World} {base : Nat} {spare : Nat → Bool} {held : Bool} {fuel k : Nat} {t e : TypeId} {cs : List Value} {x : DataW H × List MemPlace} (ht : P.underlying t = some (.array k e)) (h : DataW.trod enc P w base spare held fuel t cs = some x) :
    ∃ (xs : List (DataW H × List MemPlace)) (n : Nat), fuel = n + 1 ∧ x = (.agg (xs.map (·.1)), xs.flatMap (·.2)) ∧ cs.length = P.cellsOf t ∧ xs.length = k ∧
      ∀ i, i < k → DataW.trod enc P w base spare held n e ((cs.drop (i * P.cellsOf e)).take (P.cellsOf e)) = xs[i]? := by
  cases fuel with
  | zero => simp [DataW.trod] at h
  | succ n =>
    unfold DataW.trod at h
    rw [ht] at h
    split at h <;> simp_all
    obtain ⟨hl, xs, hp, hd⟩ := h
    exact ⟨xs, hd.symm, by simpa using mapM_some_length hp, fun i hi => mapM_some_get hp i i (by simp [hi])⟩
theorem Rel.openOld {X : Cx} {w : World} {R : Ren} {H : Hp} (h : Rel X R H w) (blk off : Nat) (cs : List Value) (hb : blk < X.B)
    (hc : ∀ (j : Nat) (v : Value), cs[j]? = some v → ∃ v', w.cell? ⟨blk, off + j, none⟩ = some v' ∧ VR R v v') :
    Rel X (R.add H.next ⟨blk, off, 0, 0, false⟩) (H.alloc (.cells .old cs)) w ∧ R.le (R.add H.next ⟨blk, off, 0, 0, false⟩) := by
  have hn : R H.next = none := h.free _ (Nat.le_refl _)
  have hle := Ren.le_add (R := R) ⟨blk, off, 0, 0, false⟩ hn
  refine ⟨⟨?_, ?_, ?_, ?_, h.below, h.size, ?_, ?_, ?_⟩, hle⟩
  · intro b y eb
    rw [Hp.get_alloc] at eb
    by_cases q : b = H.next
    · subst q; rw [if_pos rfl] at eb; cases eb
      exact ⟨_, Ren.add_same _ _ _, .old cs rfl hb fun j v e => let ⟨v', a, b⟩ := hc j v e; ⟨v', a, b.mono hle⟩⟩
    · rw [if_neg q] at eb
      obtain ⟨j, r, br⟩ := h.blk b y eb
      exact ⟨j, hle _ _ r, br.keep hle rfl⟩
  · intro b c j k' y z eb ec rb rc ob oc e'
    rw [Hp.get_alloc] at eb ec
    by_cases kb : b = H.next
    · subst kb; rw [Ren.add_same] at rb; cases rb; cases ob
    · rw [if_neg kb] at eb
      have rb' : R b = some j := by simpa [Ren.add, kb] using rb
      by_cases kc : c = H.next
      · subst kc; rw [Ren.add_same] at rc; cases rc; cases oc
      · rw [if_neg kc] at ec
        have rc' : R c = some k' := by simpa [Ren.add, kc] using rc
        exact h.inj b c j k' y z eb ec rb' rc' ob oc e'
  · intro b hb
    rw [Hp.next_alloc] at hb
    have : b ≠ H.next := by omega
    simp only [Ren.add, if_neg this]
    exact h.free b (by omega)
  · intro b j eb ob
    by_cases kb : b = H.next
    · subst kb; rw [Ren.add_same] at eb; cases eb; cases ob
    · exact h.lt b j (by simpa [Ren.add, kb] using eb) ob
  · intro g hg
    obtain ⟨j, eg, q⟩ := h.glob g hg
    exact ⟨j, hle _ _ eg, q⟩
  · rw [Hp.next_alloc]; have := h.gle; exact Nat.le_succ_of_le this
  · intro k' o' hk'
    obtain ⟨h1, h2, h3⟩ := h.kept k' o' hk'
    refine ⟨h1, h2, fun b i eb ob => ?_⟩
    by_cases kb : b = H.next
    · subst kb; rw [Ren.add_same] at eb; cases eb; cases ob
    · exact h3 b i (by simpa [Ren.add, kb] using eb) ob
theorem Ext.of_alloc (H : Hp) (x : Blk) : Ext H (H.alloc x) := (Ext.refl H).alloc x
section opening
variable {Ht : Type} {enc : TypeId × Value → Ht} {P : Program} {X : Cx} {w : World}
def Opens (P : Program) (X : Cx) (w : World) (R : Ren) (H : Hp) (cs : List Value) (Q : Hp → List Value → Prop) : Prop :=
  ∃ R' H' acs, R.le R' ∧ Ext H H' ∧ Rel X R' H' w ∧ VRs R' acs cs ∧ Q H' acs
theorem weightsEach_cons {t : TypeId} {ts : List TypeId} {d : DataW Ht} {ds : List (DataW Ht)} (h : (DataW.weightsEach P (t :: ts) (d :: ds)).all (· ≤ reachBytes) = true) :
    (d.weights P t).all (· ≤ reachBytes) = true ∧ (DataW.weightsEach P ts ds).all (· ≤ reachBytes) = true := by
  rw [DataW.weightsEach, List.all_append, Bool.and_eq_true] at h
  exact h
theorem weightsAll_cons {e : TypeId} {d : DataW Ht} {ds : List (DataW Ht)} (h : (DataW.weightsAll P e (d :: ds)).all (· ≤ reachBytes) = true) :
    (d.weights P e).all (· ≤ reachBytes) = true ∧ (DataW.weightsAll P e ds).all (· ≤ reachBytes) = true := by
  rw [DataW.weightsAll, List.all_append, Bool.and_eq_true] at h
  exact h
theorem open_row {e : TypeId} {n : Nat} (sz : Nat)
    (ih : ∀ (cs : List Value) (x : DataW Ht × List MemPlace), DataW.trod enc P w 0 (fun _ => true) true n e cs = some x → (x.1.weights P e).all (· ≤ reachBytes) = true → ∀ (R : Ren) (H : Hp), Rel X R H w → Opens P X w R H cs (fun H' acs => Rd P H' e acs)) :
    ∀ (k : Nat) (pieces : List (List Value)) (xs : List (DataW Ht × List MemPlace)), pieces.length = k → xs.length = k → (∀ i, i < k → ∃ c x, pieces[i]? = some c ∧ xs[i]? = some x ∧ DataW.trod enc P w 0 (fun _ => true) true n e c = some x) →
      (DataW.weightsAll P e (xs.map (·.1))).all (· ≤ reachBytes) = true → ∀ (R : Ren) (H : Hp), Rel X R H w → Opens P X w R H pieces.flatten (fun H' acs => RdN P H' e k acs)
  | 0, pieces, xs, hp, hx, _, _, R, H, hr => by
    have : pieces = [] := List.length_eq_zero_iff.1 hp
    subst this
    exact ⟨R, H, [], Ren.le_refl R, Ext.refl H, hr, .nil, .nil e⟩
  | k + 1, pieces, xs, hp, hx, hf, hw, R, H, hr => by
    match pieces, xs, hp, hx with
    | c :: pieces, x :: xs, hp, hx =>
      obtain ⟨c', x', h1, h2, h3⟩ := hf 0 (by omega)
      simp only [List.getElem?_cons_zero, Option.some.injEq] at h1 h2
      subst h1 h2
      rw [List.map_cons] at hw
      obtain ⟨w1, w2⟩ := weightsAll_cons hw
      obtain ⟨R1, H1, a1, l1, e1, r1, v1, q1⟩ := ih _ _ h3 w1 R H hr
      obtain ⟨R2, H2, a2, l2, e2, r2, v2, q2⟩ := open_row sz ih k pieces xs (by simpa using hp) (by simpa using hx) (fun i hi => by
        obtain ⟨c', x', h1, h2, h3⟩ := hf (i + 1) (by omega)
        exact ⟨c', x', by simpa using h1, by simpa using h2, h3⟩) w2 R1 H1 r1
      refine ⟨R2, H2, a1 ++ a2, Ren.le_trans l1 l2, e1.trans e2, r2, ?_, .cons (q1.mono e2) q2⟩
      rw [List.flatten_cons]
      exact (v1.mono l2).append v2
theorem pieces_flatten {sz : Nat} : ∀ (k : Nat) (cs : List Value), cs.length = k * sz → ((List.range k).map fun i => (cs.drop (i * sz)).take sz).flatten = cs
  | 0, cs, h => by
    have : cs = [] := List.length_eq_zero_iff.1 (by simpa using h)
    subst this; rfl
  | k + 1, cs, h => by
    rw [List.range_succ_eq_map, List.map_cons, List.flatten_cons, List.map_map]
    have ih := pieces_flatten (sz := sz) k (cs.drop sz) (by rw [List.length_drop, h, Nat.succ_mul]; omega)
    have e : ((fun i => (cs.drop (i * sz)).take sz) ∘ Nat.succ) = fun i => ((cs.drop sz).drop (i * sz)).take sz := by
      funext i
      simp only [Function.comp, List.drop_drop]
      congr 2
      rw [Nat.succ_mul]; omega
    rw [e, ih]
    simp
theorem open_fields {n : Nat} (cs0 : List Value) (m : Nat) (hm : cs0.length = m) :
    ∀ (fs : List Field) (xs : List (DataW Ht × List MemPlace)) (o : Nat),
      (∀ f ∈ fs, ∀ (cs : List Value) (x : DataW Ht × List MemPlace), DataW.trod enc P w 0 (fun _ => true) true n f.type cs = some x → (x.1.weights P f.type).all (· ≤ reachBytes) = true → ∀ (R : Ren) (H : Hp), Rel X R H w → Opens P X w R H cs (fun H' acs => Rd P H' f.type acs)) →
      contig P fs o = some m → xs.length = fs.length → (∀ (i : Nat) (f : Field), fs[i]? = some f → ∃ x, xs[i]? = some x ∧ DataW.trod enc P w 0 (fun _ => true) true n f.type ((cs0.drop f.offset).take (P.cellsOf f.type)) = some x) →
      (DataW.weightsEach P (fs.map (·.type)) (xs.map (·.1))).all (· ≤ reachBytes) = true → ∀ (R : Ren) (H : Hp), Rel X R H w → Opens P X w R H (cs0.drop o) (fun H' acs => RdF P H' fs acs)
  | [], xs, o, _, hc, _, _, _, R, H, hr => by
    simp only [contig, Option.some.injEq] at hc
    have : cs0.drop o = [] := by rw [List.drop_eq_nil_iff]; omega
    rw [this]
    exact ⟨R, H, [], Ren.le_refl R, Ext.refl H, hr, .nil, .nil⟩
  | f :: fs, xs, o, ih, hc, hx, hf, hw, R, H, hr => by
    match xs, hx with
    | x :: xs, hx =>
      unfold contig at hc
      split at hc
      case isFalse => cases hc
      case isTrue ho =>
        obtain ⟨x', h2, h3⟩ := hf 0 f rfl
        simp only [List.getElem?_cons_zero, Option.some.injEq] at h2
        subst h2
        simp only [List.map_cons] at hw
        obtain ⟨w1, w2⟩ := weightsEach_cons hw
        obtain ⟨R1, H1, a1, l1, e1, r1, v1, q1⟩ := ih f (List.mem_cons_self ..) _ _ h3 w1 R H hr
        obtain ⟨R2, H2, a2, l2, e2, r2, v2, q2⟩ := open_fields cs0 m hm fs xs _ (fun g hg => ih g (List.mem_cons_of_mem _ hg)) hc (by simpa using hx) (fun i g hg => by
          obtain ⟨x', h2, h3⟩ := hf (i + 1) g (by simpa using hg)
          exact ⟨x', by simpa using h2, h3⟩) w2 R1 H1 r1
        refine ⟨R2, H2, a1 ++ a2, Ren.le_trans l1 l2, e1.trans e2, r2, ?_, .cons (q1.mono e2) q2⟩
        have : cs0.drop o = (cs0.drop f.offset).take (P.cellsOf f.type) ++ cs0.drop (o + P.cellsOf f.type) := by
          rw [ho, ← List.drop_drop, List.take_append_drop]
        rw [this]
        exact (v1.mono l2).append v2
end opening
end Go.Det
