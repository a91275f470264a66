import Derived.Test.YtmkcobpgmcfbkaaGreatDoorD43
set_option linter.unusedSimpArgs false
set_option linter.unusedVariables false
namespace Go.Det
open Go Go.RowKit
section ops
variable {P : Program} {Q : Ex → SS → Prop} {n : NN} {B0 B : Hp} {own : List OwnE} {k k' : KK} {x x' x'' : VS} {loc : List (List Value)} {ids : Nat → Nat} {H : Hp} (N : Nat)
theorem WF.addFix (fr : WF B0 B own loc ids H) (cs : List Value) (len sz : Nat) (h : len * sz = cs.length) (hl : len < LOOSE) : WF B0 B (own ++ [⟨some ⟨H.next, 0, none⟩, len, sz, cs⟩]) loc ids (H.alloc (.cells .fix cs)) :=
  fr.addOwn (Ext.alloc (Ext.refl H) _) (.inr ⟨H.next, rfl, fr.ext0.next, by rw [Hp.next_alloc]; omega, .inr (.inl ⟨hl, h, by rw [Hp.get_alloc, if_pos rfl]⟩)⟩) (fun b hb => by simp [OwnE.blk] at hb; omega)
theorem WJ.bs {a : Array Oper} {m i : Nat} {o : Oper} {l : VEnv} {cl : Bool} {kB t len sz : Nat} {parts : Array (Nat × Operand)} {pl : List (Nat × Value)} {cs : List Value} (hs : vSym P n N k x = .hard a m i k' ⟨l, loc, cl, kB⟩) (ho : a[i]? = some o) (hg : gdV a l o = some true) (hd : notDefer o.op = true)
    (hop : o.op = .buildSlice t len parts) (hpl : ∀ ids H, partsD (evS P (VS.ss ⟨l, loc, cl, kB⟩ ids n H)) parts.toList = some pl) (hbs : ∀ H, buildSliceD P H t len pl = some (.slice (some ⟨H.next, 0, none⟩) len len, H.alloc (.cells .fix cs))) (hsz : len * sz = cs.length) (hlt : Nat.blt len LOOSE = true)
    (hk : ∀ b, ∃ x'', putV ⟨l, loc, true, 0⟩ n o.dst (.v (.slice (some ⟨b, 0, none⟩) len len)) = some x'' ∧ WJ P n B0 B (own ++ [⟨some ⟨b, 0, none⟩, len, sz, cs⟩]) (.ops a m (i + 1) :: k') Q x'') : WJ P n B0 B own k Q x := by
  refine WJ.sn (R := fun v e' => ∃ b, v = .slice (some ⟨b, 0, none⟩) len len ∧ e' = ⟨some ⟨b, 0, none⟩, len, sz, cs⟩) N hs ho hg hd (fun ids H fr => ?_) ?_
  · refine ⟨_, ⟨some ⟨H.next, 0, none⟩, len, sz, cs⟩, _, opD_buildSlice hop (hpl ids H) (hbs H), fr.addFix cs len sz hsz (by rw [Nat.blt_eq] at hlt; exact hlt), H.next, rfl, rfl⟩
  · rintro v e' ⟨b, rfl, rfl⟩
    exact hk b
theorem WF.append {c : Call} {t et by_ j len m : Nat} {e : OwnE} {sv : Value} {new : List Value} (fr : WF B0 B own loc ids H) (hj : own[j]? = some e) (E : Elem P c t et e.sz by_) (hcs : e.cs.length = len * e.sz) (hl : lenD sv = some m) (hs : srcD H e.sz sv m = some new) (hnew : new.length = m * e.sz)
    (hone : (new.all fun v => v.oneCell') = true) (hb : (len + m) * by_ ≤ 140737488355328) (hm : len + m ≤ 140737488355328) :
    ∃ a' cap' H', appendD P H c.argTypes (.slice e.a len e.cap) sv = some (.slice a' (len + m) cap', H') ∧ WF B0 B (own.set j ⟨a', cap', e.sz, e.cs ++ new⟩) loc ids H' := by
  have hsp := E.pos
  have hL : LOOSE = 18446744073709551616 := rfl
  by_cases h0 : m = 0
  · subst h0
    have hn0 : new = [] := List.length_eq_zero_iff.1 (by simpa using hnew)
    subst hn0
    have hset : own.set j ⟨e.a, e.cap, e.sz, e.cs ++ []⟩ = own := by
      rw [List.append_nil]
      obtain ⟨h1, h2⟩ := List.getElem?_eq_some_iff.1 hj
      subst h2
      exact List.set_getElem_self h1
    refine ⟨e.a, e.cap, H, ?_, by rw [hset]; exact fr⟩
    obtain ⟨u, d, hu, hd, hk⟩ := E.a1
    obtain ⟨z, hz, hzs⟩ := E.zero
    have hcap : e.a ≠ none → len ≤ e.cap := by
      intro hne
      rcases fr.mine j e hj with ⟨q, _, _⟩ | ⟨b, _, _, _, h4⟩
      · exact absurd q hne
      · rcases h4 with ⟨q, _, _⟩ | ⟨q, r, _⟩ | ⟨q, _⟩
        rotate_right
        · omega
        · omega
        · rw [hcs] at r; exact Nat.le_of_mul_le_mul_right (by omega) hsp
    have hnil : e.a = none → len = 0 ∧ e.cap = 0 := by
      intro q
      rcases fr.mine j e hj with ⟨_, r, s⟩ | ⟨b, r, _⟩
      · rw [s] at hcs
        refine ⟨?_, r⟩
        rcases Nat.mul_eq_zero.1 hcs.symm with w | w <;> omega
      · rw [q] at r; cases r
    unfold appendD
    simp only [E.a0, hu, E.ut, hd]
    cases d <;> first | exact absurd rfl (hk _) | skip
    all_goals
      simp only [E.size, E.byt, hz, hl]
      rw [if_pos ⟨hsp, hzs⟩]
      simp only [hs]
      cases ha : e.a with
      | none =>
        obtain ⟨r1, r2⟩ := hnil ha
        rw [r1, r2]; rfl
      | some ad =>
        have : ad.spot = none := by
          rcases fr.mine j e hj with ⟨q, _, _⟩ | ⟨b, q, _⟩
          · rw [ha] at q; cases q
          · rw [ha] at q; cases q; rfl
        obtain ⟨b, o, s⟩ := ad
        simp only at this
        subst this
        simp only [if_true]
        rw [if_pos (hcap (by simp [ha]))]; rfl
  · have h0 : 0 < m := by omega
    rcases fr.mine j e hj with ⟨q1, q2, q3⟩ | ⟨b, q1, q2, q3, q4⟩
    · have hlen : len = 0 := by
        rw [q3] at hcs
        rcases Nat.mul_eq_zero.1 hcs.symm with w | w <;> omega
      subst hlen
      rw [q1, q2, q3]
      refine ⟨_, _, _, by rw [append_nil E hl hs h0 (by simpa using hb) (by simpa using hm), Nat.zero_add], ?_⟩
      refine fr.setOwn hj (Nat.le_succ _) (fun c hc _ => by rw [Hp.get_alloc, if_neg (by omega)]) ?_ (fun c hc => .inl (by simp [OwnE.blk] at hc; omega))
      refine .inr ⟨H.next, rfl, fr.ext0.next, by rw [Hp.next_alloc]; omega, .inl ⟨rfl, ?_, _, by rw [Hp.get_alloc, if_pos rfl]; rfl⟩⟩
      intro q
      have := congrArg List.length q
      simp only [List.nil_append, List.length_nil, hnew] at this
      rcases Nat.mul_eq_zero.1 this with w | w <;> omega
    · have hne : ∀ (cs : List Value), cs ++ new ≠ [] := by
        intro cs q
        have := congrArg List.length q
        simp only [List.length_append, List.length_nil, hnew] at this
        have w : m * e.sz = 0 := by omega
        rcases Nat.mul_eq_zero.1 w with w | w <;> omega
      rw [q1]
      rcases q4 with ⟨r1, r2, mt, r3⟩ | ⟨r1, r2, r3⟩ | ⟨r1, _⟩
      rotate_right
      · omega
      · rw [r1]
        have hpos : 0 < len := by
          rcases Nat.eq_zero_or_pos len with w | w
          · subst w; exact absurd (List.length_eq_zero_iff.1 (by simpa using hcs)) r2
          · exact w
        refine ⟨_, _, _, append_more E hl hs h0 r3 hpos hb hm (by omega) hone, ?_⟩
        have hbl : e.blk = some b := by simp [OwnE.blk, q1]
        refine fr.setOwn hj (Nat.le_succ _) (fun c hc hcb => ?_) ?_ (fun c hc => .inl (by simp [OwnE.blk] at hc; subst hc; exact Nat.le_refl _))
        · rw [Hp.get_alloc, if_neg (by show c ≠ H.next; omega), Hp.get_kill, if_neg (fun w => hcb (by rw [hbl, w]))]
        · refine .inr ⟨H.next, rfl, fr.ext0.next, by rw [Hp.next_alloc]; show H.next < H.next + 1; omega, .inl ⟨rfl, hne _, tyJ 0 mt (tyU P et), ?_⟩⟩
          rw [Hp.get_alloc, if_pos (show H.next = (H.kill b).next from rfl)]; simp
      · have hcap : e.cap = len := by
          rw [hcs] at r2; exact Nat.eq_of_mul_eq_mul_right hsp r2
        refine ⟨_, _, _, append_fix E hl hs h0 r3 (by omega) (by omega) hb hm (by omega), ?_⟩
        refine fr.setOwn hj (Nat.le_succ _) (fun c hc _ => by rw [Hp.get_alloc, if_neg (by omega)]) ?_ (fun c hc => .inl (by simp [OwnE.blk] at hc; omega))
        refine .inr ⟨H.next, rfl, fr.ext0.next, by rw [Hp.next_alloc]; omega, .inl ⟨rfl, hne _, tyU P et, ?_⟩⟩
        rw [Hp.get_alloc, if_pos rfl]
        simp only [List.drop_zero]
        rw [List.take_of_length_le (by omega)]
section flat
variable {α : Type} {enc : α → List Value}
theorem encL_append (l l' : List α) : encL enc (l ++ l') = encL enc l ++ encL enc l' := by simp [encL]
theorem encL_length {sz : Nat} (he : ∀ x, (enc x).length = sz) : ∀ l : List α, (encL enc l).length = l.length * sz
  | [] => by simp [encL]
  | x :: l => by
    have := encL_length he l
    simp only [encL, List.flatMap_cons, List.length_append, List.length_cons] at *
    rw [this, he, Nat.succ_mul]; omega
end flat
end ops
end Go.Det
