import Derived.Test.YtppedainpmjbmaaGreatDoorD57
import Derived.Lib.CutLaws
set_option linter.unusedSimpArgs false
set_option linter.unusedVariables false
namespace Go.Det
open Go Go.RowKit
def subst0 (k b : Nat) : SV0 → SV0
  | .v x => .v x
  | .p j off => match Nat.beq j k with | true => .v (.pointer (some ⟨b, off, none⟩)) | false => .p j off
def substV (k b : Nat) : SV → SV
  | .v x => .v x
  | .p j off => match Nat.beq j k with | true => .v (.pointer (some ⟨b, off, none⟩)) | false => .p j off
  | .fn f caps => .fn f (caps.map (subst0 k b))
def substE (k b : Nat) : VEnv → VEnv
  | [] => []
  | (t, x) :: r => (t, substV k b x) :: substE k b r
theorem subst0_den {ids : Nat → Nat} {k : Nat} : ∀ (x : SV0), den0 ids (subst0 k (ids k) x) = den0 ids x
  | .v _ => rfl
  | .p j off => by
    cases h : Nat.beq j k with
    | true => simp only [subst0, h, den0]; rw [Nat.eq_of_beq_eq_true h]
    | false => simp only [subst0, h]
theorem substV_den {ids : Nat → Nat} {k : Nat} : ∀ (x : SV), den ids (substV k (ids k) x) = den ids x
  | .v _ => rfl
  | .p j off => by
    cases h : Nat.beq j k with
    | true => simp only [substV, h, den]; rw [Nat.eq_of_beq_eq_true h]
    | false => simp only [substV, h]
  | .fn f caps => by
    simp only [substV, den]
    congr 2
    rw [List.map_map]
    exact List.map_congr_left fun x _ => subst0_den x
theorem substE_den {ids : Nat → Nat} {k : Nat} : ∀ (l : VEnv), denE ids (substE k (ids k) l) = denE ids l
  | [] => rfl
  | (t, x) :: r => by
    have := substE_den (ids := ids) (k := k) r
    simp only [substE, denE, List.map_cons, substV_den] at this ⊢
    rw [this]
def plain0s : List SV0 → Option (List Value)
  | [] => some []
  | .v x :: r => match plain0s r with | some l => some (x :: l) | none => none
  | .p _ _ :: _ => none
theorem plain0s_den {ids : Nat → Nat} : ∀ {l : List SV0} {vs : List Value}, plain0s l = some vs → l.map (den0 ids) = vs
  | [], vs, h => by cases h; rfl
  | .v x :: r, vs, h => by
    simp only [plain0s] at h
    split at h
    · rename_i l hl; cases h; rw [List.map_cons, plain0s_den hl]; rfl
    · cases h
  | .p _ _ :: _, vs, h => by cases h
def normV : SV → SV
  | .fn f caps => match plain0s caps with | some vs => .v (.func (.func f) ⟨[]⟩ ⟨vs⟩) | none => .fn f caps
  | .v x => .v x
  | .p j o => .p j o
def normE : VEnv → VEnv
  | [] => []
  | (t, x) :: r => (t, normV x) :: normE r
theorem normV_den {ids : Nat → Nat} : ∀ (x : SV), den ids (normV x) = den ids x
  | .v _ => rfl
  | .p _ _ => rfl
  | .fn f caps => by
    simp only [normV]
    split
    · rename_i vs h; simp only [den, plain0s_den h]
    · rfl
theorem normE_den {ids : Nat → Nat} : ∀ (l : VEnv), denE ids (normE l) = denE ids l
  | [] => rfl
  | (t, x) :: r => by
    have := normE_den (ids := ids) r
    simp only [normE, denE, List.map_cons, normV_den] at this ⊢
    rw [this]
section rules
variable {P : Program} {Q : Ex → SS → Prop} {n : NN} {B0 B D : Hp} {kD : Nat} {own : List OwnE} {k k' : KK} {x x' x'' : VS}
theorem WJ.liftS {l : VEnv} {loc loc' : List (List Value)} {cs : List Value} {cl : Bool} {kB : Nat} (hloc : loc' = loc ++ [cs]) (hlt : Nat.blt cs.length LOOSE = true)
    (h : ∀ b, WJ P n B0 B (own ++ [⟨some ⟨b, 0, none⟩, cs.length, 1, cs⟩]) k Q ⟨substE loc.length b l, loc, true, 0⟩) : WJ P n B0 B own k Q ⟨l, loc', cl, kB⟩ := by
  subst hloc
  rw [Nat.blt_eq] at hlt
  intro ids H fr
  have := h (ids loc.length) ids H (fr.lift hlt)
  simp only [VS.ss, substE_den] at this ⊢
  exact this
theorem WJ.nf {l : VEnv} {loc : List (List Value)} {cl : Bool} {kB : Nat} (h : WJ P n B0 B own k Q ⟨normE l, loc, true, 0⟩) : WJ P n B0 B own k Q ⟨l, loc, cl, kB⟩ := by
  intro ids H fr
  have := h ids H fr
  simp only [VS.ss, normE_den] at this ⊢
  exact this
theorem WF.freeze {α : Type} {c : Cod α} {loc : List (List Value)} {ids : Nat → Nat} {H : Hp} {j cap : Nat} {ad : Option Addr} {cs : List Value} {L : List α} (fr : WF B0 B own loc ids H) (hj : own[j]? = some ⟨ad, cap, c.sz, cs⟩) (hp : 0 < c.sz) (hr : RepL c B0.next B cs L) :
    ∃ B', WF B0 B' (own.set j ⟨none, 0, c.sz, []⟩) loc ids H ∧ Abv 0 B B' ∧ Itv B B' ∧ SlF B0.next B' c ad cap L := by
  have hok := fr.mine j _ hj
  have hlt := lt_of_get hj
  have get : ∀ i f, (own.set j ⟨none, 0, c.sz, []⟩)[i]? = some f → (i = j ∧ f = (⟨none, 0, c.sz, []⟩ : OwnE)) ∨ (i ≠ j ∧ own[i]? = some f) := by
    intro i f h
    by_cases q : i = j
    · subst q; rw [List.getElem?_set_self hlt] at h; cases h; exact .inl ⟨rfl, rfl⟩
    · rw [List.getElem?_set_ne (fun r => q r.symm)] at h; exact .inr ⟨q, h⟩
  rcases hok with ⟨h1, h2, h3⟩ | ⟨b, h1, h2, h3, h4⟩
  · simp only at h1 h2 h3
    subst h1 h2 h3
    have hL : L = [] := by
      have := hr.len
      simp only [List.length_nil] at this
      rcases Nat.mul_eq_zero.1 this.symm with w | w
      · exact List.length_eq_zero_iff.1 w
      · omega
    have hset : own.set j ⟨none, 0, c.sz, []⟩ = own := by
      obtain ⟨g1, g2⟩ := List.getElem?_eq_some_iff.1 hj
      rw [← g2]; exact List.set_getElem_self g1
    refine ⟨B, by rw [hset]; exact fr, Abv.refl _ _, fun _ _ h => h, .inl ⟨rfl, rfl, hL⟩⟩
  · simp only at h1 h4
    subst h1
    obtain ⟨m, hget⟩ : ∃ m, H.get b = some (.cells m cs) := by rcases h4 with ⟨_, _, _, g⟩ | ⟨_, _, g⟩ | ⟨g, _⟩ <;> first | exact ⟨_, g⟩ | (simp only at g; omega)
    have hBb := (fr.mineB j _ b hj rfl).1
    have hne : ∀ d z, B.get d = some z → d ≠ b := fun d z e q => by rw [q, hBb] at e; cases e
    have hab : Abv 0 B (B.with_ b H.next (.cells m cs)) := ⟨fr.nextB, fun d m0 cs0 _ _ e => by rw [Hp.get_with, if_neg (hne d _ e)]; exact e⟩
    refine ⟨B.with_ b H.next (.cells m cs), ⟨fr.ext0, Nat.le_refl _, ?_, ?_, fr.here, ?_, fr.inj, ?_, ?_, ?_⟩, hab, fun d z e => by rw [Hp.get_with, if_neg (hne d z e)]; exact e, .inr ⟨b, 0, cs, rfl, hr.mono (Nat.le_refl _) (hab.le (Nat.zero_le _)), .inr ⟨h2, h3, m, cs, by rw [Hp.get_with, if_pos rfl], by simp, by simp⟩, ?_⟩⟩
    rotate_right
    · rcases h4 with ⟨g1, _, mt, g3⟩ | ⟨g1, g2, _⟩ | ⟨g1, _⟩
      rotate_right
      · simp only at g1; omega
      · rw [hget] at g3; cases g3
        exact .inr (.inl ⟨g1, h2, h3, _, _, by rw [Hp.get_with, if_pos rfl], .inr ⟨mt, rfl⟩⟩)
      · refine .inl ⟨?_, g1⟩
        have hl := hr.len
        rw [hl] at g2
        exact Nat.le_of_eq (Nat.eq_of_mul_eq_mul_right hp g2.symm)
    · intro d z h
      show d < H.next
      rw [Hp.get_with] at h
      split at h
      · rename_i q; omega
      · have := fr.trim d z h; have := fr.nextB; omega
    · intro d z h
      rw [Hp.get_with] at h
      split at h
      · rename_i q; subst q; cases h; exact hget
      · exact fr.sub d z h
    · intro i hi
      rw [Hp.get_with, if_neg ((fr.mineB j _ b hj rfl).2 i hi)]
      exact fr.apart i hi
    · intro i f h
      rcases get i f h with ⟨_, rfl⟩ | ⟨_, h⟩
      · exact .inl ⟨rfl, rfl, rfl⟩
      · exact fr.mine i f h
    · intro i f d h hd
      rcases get i f h with ⟨_, rfl⟩ | ⟨q, h⟩
      · simp [OwnE.blk] at hd
      · refine ⟨?_, (fr.mineB i f d h hd).2⟩
        rw [Hp.get_with, if_neg (fun r => q (fr.mineI i j f _ d h hj hd (by rw [r]; rfl)))]
        exact (fr.mineB i f d h hd).1
    · intro i i' f f' d h h' hd hd'
      rcases get i f h with ⟨_, rfl⟩ | ⟨q, h⟩
      · simp [OwnE.blk] at hd
      · rcases get i' f' h' with ⟨_, rfl⟩ | ⟨q', h'⟩
        · simp [OwnE.blk] at hd'
        · exact fr.mineI i i' f f' d h h' hd hd'
theorem WJ.fz {α : Type} {c : Cod α} {j cap sz : Nat} {ad : Option Addr} {cs : List Value} {L : List α} (hj : own[j]? = some ⟨ad, cap, sz, cs⟩) (hc : c.sz = sz) (hp : Nat.blt 0 sz = true) (hr : RepL c B0.next B cs L)
    (h : ∀ B', Abv 0 B B' ∧ Itv B B' → SlF B0.next B' c ad cap L → WJ P n B0 B' (own.set j ⟨none, 0, sz, []⟩) k Q x) : WJ P n B0 B own k Q x := by
  subst hc
  rw [Nat.blt_eq] at hp
  intro ids H fr
  obtain ⟨B', h1, h2, h3, h4⟩ := fr.freeze hj hp hr
  exact h B' ⟨h2, h3⟩ h4 ids H h1
theorem JL.less {ops : Array Oper} {i m : Nat} {s : SS} (l : Env) (hl : lessB l s.l) (h : JL P ops m i Q { s with l := l }) : JL P ops m i Q s := SI.le (less_st hl) h
theorem WJ.gotoO {a : Array Oper} {m i : Nat} {I l : VEnv} {O : List OwnE} {M : Hp} {cl : Bool} {kB : Nat} (h : WJ P n B0 M O (.ops a m i :: k') Q ⟨I, [], true, 0⟩) (hl : lessV I l) (hO : own.take O.length = O) (hB : B = M) : WJ P n B0 B own (.ops a m i :: k') Q ⟨l, [], cl, kB⟩ := by
  subst hB
  intro ids H fr
  exact JL.less (denE ids I) (lessV_ok ids hl) (h ids H (fr.firsts rfl hO))
end rules
end Go.Det

set_option linter.unusedSimpArgs false
set_option linter.unusedVariables false
namespace Go.Det
open Go Go.RowKit
def sub (s : List UInt8) (lo hi : Int) : Option (List UInt8) := if 0 ≤ lo ∧ lo ≤ hi ∧ hi ≤ (s.length : Int) then some ((s.drop lo.toNat).take (hi.toNat - lo.toNat)) else none
section
variable {P : Program} {H : Hp} {ev : Ev} {o : Oper}
theorem opD_sl {t : TypeId} {x lo : Operand} {a l v : Value} (ho : o.op = .slice t x (some lo) none none) (hx : ev x = some a) (h1 : ev lo = some l) (e : sliceD P H t a (some l) none none = some v) : opD P H ev o = some (.val v H) :=
  opD_slice ho hx (by simp [OptEv, h1]) rfl rfl e
end
section
variable {P : Program} {a : Array Oper} {fl : Bool} {n : NN} {B0 B D : Hp} {kD : Nat} {own : List OwnE}
end
end Go.Det

set_option linter.unusedSimpArgs false
set_option linter.unusedVariables false
namespace Go.Det
open Go Go.RowKit
end Go.Det
