import Derived.Test.YtiodokcfjgmpaaaGreatDoorD67
set_option linter.unusedSimpArgs false
set_option linter.unusedVariables false
namespace Go.Det
open Go Go.RowKit
section rules
variable {P : Program} {Q : Ex → SS → Prop} {n : NN} {B0 B : Hp} {own : List OwnE} {k k' : KK} {a : Array Oper} {x : VS}
end rules
end Go.Det

set_option linter.unusedSimpArgs false
set_option linter.unusedVariables false
namespace Go.Det
open Go Go.RowKit
section frames
variable {P : Program} {B0 B : Hp} {own : List OwnE} {loc : List (List Value)} {ids : Nat → Nat} {H : Hp}
end frames
section rules
variable {α : Type} {P : Program} {Q : Ex → SS → Prop} {n : NN} {B0 B D : Hp} {kD : Nat} {own : List OwnE} {k k' : KK} {a : Array Oper} {fl : Bool} {x x' x'' : VS} {loc : List (List Value)} (N : Nat)
end rules
end Go.Det

set_option linter.unusedSimpArgs false
set_option linter.unusedVariables false
namespace Go.Det
open Go Go.RowKit
theorem RepL.all {α : Type} {c : Cod α} {n : Nat} {B : Hp} {p : Value → Bool} (h : ∀ cs x, c.rep n B cs x → cs.all p = true) : ∀ {l : List α} {cs : List Value}, RepL c n B cs l → cs.all p = true
  | [], _, e => by simp only [RepL] at e; subst e; rfl
  | _ :: _, _, ⟨_, _, e, h1, h2⟩ => by subst e; rw [List.all_append, h _ _ h1, RepL.all h h2]; rfl
end Go.Det

set_option linter.unusedSimpArgs false
set_option linter.unusedVariables false
namespace Go.Det
open Go Go.RowKit
section rules
variable {P : Program} {Q : Ex → SS → Prop} {n : NN} {B0 B : Hp} {own : List OwnE} {k : KK} {a : Array Oper} {x x'' : VS} {loc : List (List Value)}
theorem WD.so {m' i' m i : Nat} {o : Oper} {j : Nat} {l : VEnv} {cl : Bool} {kB : Nat} {R : Value → OwnE → Prop} (hs : dSym P n a false 0 m i x = .hard m' i' ⟨l, loc, cl, kB⟩) (ho : a[i']? = some o) (hg : gdV a l o = some true) (hd : notDefer o.op = true)
    (he : ∀ ids H, WF B0 B own loc ids H → ∃ v e' H', opD P H (evS P (VS.ss ⟨l, loc, cl, kB⟩ ids n H)) o = some (.val v H') ∧ WF B0 B (own.set j e') loc ids H' ∧ R v e')
    (hk : ∀ v e', R v e' → ∃ x'', putV ⟨l, loc, true, 0⟩ n o.dst (.v v) = some x'' ∧ WD P n B0 B B0 0 (own.set j e') a false m' (i' + 1) k Q x'') : WD P n B0 B B0 0 own a false m i k Q x := by
  refine WD.sym hs fun ids H s0 h0 f => ?_
  obtain ⟨v, e', H', g1, g2, g3⟩ := he ids H f.fr
  obtain ⟨y, hp, h⟩ := hk v e' g3
  obtain ⟨p1, p2, p3, p4⟩ := putV_eq ids H H' hp
  refine JD.val (s' := y.ss ids n H') ?_ side_no (h ids _ s0 h0 ?_)
  · unfold doOp
    have hg' := gdV_eq (x := ⟨l, loc, cl, kB⟩) ids n H hg
    simp only [ho, hg', hd]
    rw [show (VS.ss ⟨l, loc, cl, kB⟩ ids n H).H = H from rfl, g1]
    simp only
    have p1' : putS (VS.ss ⟨l, loc, cl, kB⟩ ids n H) o.dst v H' = some (y.ss ids n H') := by rw [← p1]; cases o.dst <;> rfl
    rw [p1']
  · rw [p2]
    exact ⟨g2, g2.ext0, f.newD, f.oldD, f.kle⟩
theorem WD.sb {m' i' m i : Nat} {o : Oper} {l : VEnv} {cl : Bool} {kB j b off cap sz : Nat} {t : TypeId} {pa px : Operand} {v : Value} {cs cs' : List Value} (hs : dSym P n a false 0 m i x = .hard m' i' ⟨l, loc, cl, kB⟩) (ho : a[i']? = some o) (hg : gdV a l o = some true) (hd : notDefer o.op = true)
    (hop : o.op = .store t pa px) (hpa : evV P l pa = some (.v (.pointer (some ⟨b, off, none⟩)))) (hpx : evV P l px = some (.v v)) (hj : own[j]? = some ⟨some ⟨b, 0, none⟩, cap, sz, cs⟩) (hst : storeC P t cs off v = some cs') (hp : putV ⟨l, loc, true, 0⟩ n o.dst (.v undef) = some x'')
    (h : WD P n B0 B B0 0 (own.set j ⟨some ⟨b, 0, none⟩, cap, sz, cs'⟩) a false m' (i' + 1) k Q x'') (hz : sz ≠ 0 := by decide) : WD P n B0 B B0 0 own a false m i k Q x := by
  refine WD.so (j := j) (R := fun v e' => v = undef ∧ e' = ⟨some ⟨b, 0, none⟩, cap, sz, cs'⟩) hs ho hg hd (fun ids H fr => ?_) ?_
  · have hblk := (fr.mine j _ hj).blk_lt (b := b) (by simp [OwnE.blk])
    unfold storeC at hst
    split at hst
    case h_2 => cases hst
    rename_i nn hm
    split at hst
    case h_2 => cases hst
    rename_i h1
    split at hst
    case h_2 => cases hst
    rename_i h2
    split at hst
    case h_2 => cases hst
    rename_i h3
    cases hst
    have hlen : (wr cs off v.cells.toList).length = cs.length := wr_length _ _ _
    rcases fr.mine j _ hj with ⟨q, _, _⟩ | ⟨c, q, _, _, h4⟩
    · cases q
    · cases q
      have hget : ∃ md, md ≠ .old ∧ H.get b = some (.cells md cs) ∧ (⟨some ⟨b, 0, none⟩, cap, sz, wr cs off v.cells.toList⟩ : OwnE).ok B0.next (H.put b (.cells md (wr cs off v.cells.toList))) := by
        rcases h4 with ⟨r1, r2, mt, r3⟩ | ⟨r1, r2, r3⟩ | ⟨r1, _⟩
        rotate_right
        · exact absurd r1 hz
        · exact ⟨.more sz mt, by simp, r3, .inr ⟨b, rfl, hblk.1, hblk.2, .inl ⟨r1, fun q => r2 (List.length_eq_zero_iff.1 (by rw [← hlen, show wr cs off v.cells.toList = [] from q]; rfl)), mt, by rw [Hp.get_put, if_pos rfl]⟩⟩⟩
        · exact ⟨.fix, by simp, r3, .inr ⟨b, rfl, hblk.1, hblk.2, .inr (.inl ⟨r1, by rw [hlen]; exact r2, by rw [Hp.get_put, if_pos rfl]⟩)⟩⟩
      obtain ⟨md, hmd, hgt, hok⟩ := hget
      refine ⟨undef, ⟨some ⟨b, 0, none⟩, cap, sz, wr cs off v.cells.toList⟩, H.put b (.cells md (wr cs off v.cells.toList)), opD_store hop (evV_eq P _ ids n H hpa) (evV_eq P _ ids n H hpx) ?_, ?_, rfl, rfl⟩
      · simp only [den, storeD, hgt]
        exact if_pos ⟨hmd, by rw [hm, Nat.eq_of_beq_eq_true h1], Nat.le_of_ble_eq_true h2, h3⟩
      · refine fr.setOwn hj (Nat.le_refl _) (fun c hc hcb => ?_) hok (fun c hc => .inr ?_)
        · rw [Hp.get_put, if_neg (fun q => hcb (by simp [OwnE.blk, q]))]
        · simpa [OwnE.blk] using hc
  · rintro v' e' ⟨rfl, rfl⟩
    exact ⟨_, hp, h⟩
end rules
end Go.Det

set_option linter.unusedSimpArgs false
set_option linter.unusedVariables false
namespace Go.Det
open Go Go.RowKit
section frames
variable {P : Program} {B0 B : Hp} {own : List OwnE} {loc : List (List Value)} {ids : Nat → Nat} {H : Hp}
end frames
section rules
variable {P : Program} {Q : Ex → SS → Prop} {n : NN} {B0 B : Hp} {own : List OwnE} {k k' : KK} {a : Array Oper} {x : VS}
end rules
end Go.Det

set_option linter.unusedSimpArgs false
set_option linter.unusedVariables false
namespace Go.Det
open Go Go.RowKit
section rules
variable {P : Program} {Q : Ex → SS → Prop} {n : NN} {B0 B D : Hp} {kD : Nat} {own : List OwnE} {k : KK} {a : Array Oper} {fl : Bool} {x x'' : VS} {loc : List (List Value)}
end rules
end Go.Det

set_option linter.unusedSimpArgs false
set_option linter.unusedVariables false
namespace Go.Det
open Go Go.RowKit
def DOut.dn : DOut → VS
  | .done x => x
  | _ => ⟨[], [], true, 0⟩
section rules
variable {P : Program} {Q : Ex → SS → Prop} {n : NN} {B0 B D : Hp} {kD : Nat} {own : List OwnE} {k : KK} {a : Array Oper} {fl : Bool} {x x'' : VS} {loc : List (List Value)}
theorem WJ.lc {l : VEnv} {loc' : List (List Value)} {cl : Bool} {kB : Nat} (h : WJ P n B0 B own k Q ⟨l, loc', cl, kB⟩) (e : loc = loc') : WJ P n B0 B own k Q ⟨l, loc, cl, kB⟩ := e ▸ h
end rules
end Go.Det
