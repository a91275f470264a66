import Derived.Test.YtmkcobpgmcfbkaaGreatDoorD21
set_option linter.unusedSimpArgs false
set_option linter.unusedVariables false
namespace Go.Det
open Go Go.RowKit
def Is (e : Ex) (t : St) : Ex → St → Prop := fun e1 t1 => e1 = e ∧ t1 = t
def CallOk (P : Program) (call : CallFn) : Prop := ∀ f args H en H', call f args H = some (en, H') → SCall P f args H (fun e h => e = en ∧ h = H') ∧ LoX H H'
def EvOk (P : Program) (ev : Code → ES → Option (Ex × ES)) : Prop :=
  ∀ c s e s', ev c s = some (e, s') → SC P c (Is e s'.st) s.st ∧ (∀ c', c = .loop c' → SI P (.inLoop c') (Is e s'.st) s.st) ∧ LoX s.H s'.H
section rules
variable {P : Program}
theorem SI.preH {it : Item} {Q : Ex → St → Prop} {st : St} {H2 : Hp} (hg : ∀ b, H2.get b = st.H.get b) (hn : H2.next = st.H.next) (h : SI P it Q { st with H := H2 }) : SI P it Q st := by
  obtain ⟨ex, s, q, k⟩ := h
  exact ⟨ex, s, q, fun X R a w hG hR hS hM b K cs hb => k X R a w hG (hR.congr hg hn) ⟨hS.size, hS.env, hS.defs⟩ hM b K cs hb⟩
theorem SI.postH {it : Item} {Q Q' : Ex → St → Prop} {st : St} (h : SI P it Q st) (hq : ∀ e t, Q e t → ∃ H2 : Hp, (∀ b, H2.get b = t.H.get b) ∧ H2.next = t.H.next ∧ Q' e { t with H := H2 }) : SI P it Q' st := by
  obtain ⟨ex, s, q, k⟩ := h
  obtain ⟨H2, hg, hn, q'⟩ := hq _ _ q
  refine ⟨ex, _, q', fun X R a w hG hR hS hM b K cs hb => ?_⟩
  obtain ⟨X1, R1, a1, w1, ex1, x1, l1, r1, t1, m1, e1, d1, A1⟩ := k X R a w hG hR hS hM b K cs hb
  exact ⟨X1, R1, a1, w1, ex1, x1, l1, r1.congr hg hn, ⟨t1.size, t1.env, t1.defs⟩, m1, e1, d1, A1⟩
theorem evOps_ok {call : CallFn} (hc : CallOk P call) {ops : Array Oper} : ∀ (k i : Nat) (s : ES) {e : Ex} {s' : ES}, evOps P call ops k i s = some (e, s') → SL P ops (List.range' i k) (Is e s'.st) s.st ∧ LoX s.H s'.H
  | 0, i, s, e, s', h => by
    simp only [evOps, Option.some.injEq, Prod.mk.injEq] at h
    obtain ⟨h1, h2⟩ := h
    subst h1 h2
    exact ⟨SL.nil ⟨rfl, rfl⟩, LoX.refl _⟩
  | k + 1, i, s, e, s', h => by
    unfold evOps at h
    rw [List.range'_succ]
    split at h
    · rename_i s1 h1
      obtain ⟨f1, x1⟩ := doE_val h1
      obtain ⟨f2, x2⟩ := evOps_ok hc k (i + 1) s1 h
      exact ⟨SL.step f1.step f2, x1.trans x2⟩
    · rename_i f args d h1
      obtain ⟨o, ho, hg, hd, he, hf, hdd⟩ := doE_call h1
      split at h
      · rename_i v H' h2
        obtain ⟨c1, x1⟩ := hc _ _ _ _ _ h2
        split at h
        · rename_i s1 h3
          obtain ⟨h4, h5⟩ := putE_ok h3
          have h6 : s1.H = H' := by have := congrArg St.H h4; rw [(put_facts _ _ _).2.1] at this; exact this
          obtain ⟨f2, x2⟩ := evOps_ok hc k (i + 1) s1 h
          refine ⟨SL.call ho hg hd he hf (c1.mono fun en H'' q => ?_), x1.trans (by rw [← h6]; exact x2)⟩
          obtain ⟨q1, q2⟩ := q
          subst q1 q2
          simp only
          rw [hdd, ← h4]; exact f2
        · cases h
      · rename_i v H' h2
        obtain ⟨c1, x1⟩ := hc _ _ _ _ _ h2
        cases h
        refine ⟨SL.call ho hg hd he hf (c1.mono fun en H'' q => ?_), x1⟩
        obtain ⟨q1, q2⟩ := q
        subst q1 q2
        exact ⟨rfl, rfl⟩
      · cases h
    · rename_i v h1
      obtain ⟨o, ho, hg, hd, he⟩ := doE_panic h1
      cases h
      exact ⟨SL.panic ho hg hd he ⟨rfl, rfl⟩, LoX.refl _⟩
    · cases h
theorem fineE_ok {ops : Array Oper} {fl : Bool} {i : Nat} {s : ES} {st0 : St} (hx : fl = true → LoX st0.H s.H) (h : fineE P ops fl st0.H.next i s = true) : side P ops fl st0 i s.st := by
  intro hfl
  subst hfl
  unfold fineE at h
  simp only at h
  split at h
  · cases h
  · rename_i hb
    have hb := Nat.le_of_ble_eq_true hb
    refine ⟨(hx rfl).ext hb, fun hf o ho b hr => ?_⟩
    split at h
    · rename_i hf'; rw [hf] at hf'; cases hf'
    · rw [ho] at h
      simp only at h
      rw [evE_eq] at hr
      rw [hr] at h
      simp only at h
      rw [Nat.blt_eq] at h
      exact h
theorem evDraw_ok {call : CallFn} (hc : CallOk P call) {ops : Array Oper} {fl : Bool} {st0 : St} : ∀ (k i : Nat) (s : ES) {s' : ES}, (fl = true → LoX st0.H s.H) → evDraw P call ops fl st0.H.next k i s = some s' →
    SD P ops fl st0 k i (fun t => (fl = true → Ext st0.H t.H) ∧ t = s'.st) s.st ∧ LoX s.H s'.H
  | 0, i, s, s', hx, h => by
    unfold evDraw at h
    split at h
    · cases h; exact ⟨SD.nil ⟨fun q => (by cases q), rfl⟩, LoX.refl _⟩
    · split at h
      · rename_i hb
        cases h
        exact ⟨SD.nil ⟨fun q => (hx q).ext (Nat.le_of_ble_eq_true hb), rfl⟩, LoX.refl _⟩
      · cases h
  | k + 1, i, s, s', hx, h => by
    unfold evDraw at h
    split at h
    · cases h
    · rename_i hfine
      have hs := fineE_ok hx hfine
      split at h
      · rename_i s1 h1
        obtain ⟨f1, x1⟩ := doE_val h1
        obtain ⟨f2, x2⟩ := evDraw_ok hc k (i + 1) s1 (fun q => (hx q).trans x1) h
        exact ⟨SD.cons f1 hs f2, x1.trans x2⟩
      · rename_i f args d h1
        obtain ⟨o, ho, hg, hd, he, hf, hdd⟩ := doE_call h1
        split at h
        · rename_i v H' h2
          obtain ⟨c1, x1⟩ := hc _ _ _ _ _ h2
          split at h
          · rename_i s1 h3
            obtain ⟨h4, h5⟩ := putE_ok h3
            have h6 : s1.H = H' := by have := congrArg St.H h4; rw [(put_facts _ _ _).2.1] at this; exact this
            obtain ⟨f2, x2⟩ := evDraw_ok hc k (i + 1) s1 (fun q => (hx q).trans (by rw [h6]; exact x1)) h
            refine ⟨SD.call ho hg hd he hf hs (c1.mono fun en H'' q => ?_), x1.trans (by rw [← h6]; exact x2)⟩
            obtain ⟨q1, q2⟩ := q
            subst q1 q2
            simp only
            rw [hdd, ← h4]; exact f2
          · cases h
        · cases h
      · cases h
theorem callE_ok {ev : Code → ES → Option (Ex × ES)} (he : EvOk P ev) : CallOk P (callE P ev) := by
  intro f args H en H' h
  unfold callE at h
  split at h
  · cases h
  · rename_i fn hf
    split at h
    · cases h
    · rename_i c hb
      split at h
      · cases h
      · rename_i hn
        have hn := Nat.le_of_ble_eq_true hn
        have hi : ∀ s : ES, s = { t := initT args 0 .nil, n := fn.ntmps, H := H, defs := [], dok := true } → s.st = init fn.ntmps args H ∧ s.H = H := by
          intro s hs; subst hs
          refine ⟨?_, rfl⟩
          simp only [ES.st, init]
          congr 1
          funext j
          rw [initT_get]
          simp only [initEnv, T.get, Nat.zero_le, true_and, Nat.zero_add, Nat.sub_zero]
          split
          · rfl
          · rw [List.getElem?_eq_none (by omega)]
        generalize hs : (({ t := initT args 0 .nil, n := fn.ntmps, H := H, defs := [], dok := true } : ES)) = s0 at h
        obtain ⟨i1, i2⟩ := hi s0 hs.symm
        split at h
        · rename_i v s hv
          obtain ⟨k1, _, x1⟩ := he _ _ _ _ hv
          rw [i2] at x1
          split at h
          · rename_i hd
            cases h
            refine ⟨SCall.of hf hb hn ?_, x1⟩
            rw [← i1]
            refine SI.mono k1 fun e t q => ?_
            obtain ⟨q1, q2⟩ := q; subst q1 q2
            exact ⟨hd, rfl, rfl⟩
          · cases h
        · cases h
        · rename_i s hv
          obtain ⟨k1, _, x1⟩ := he _ _ _ _ hv
          rw [i2] at x1
          split at h
          · rename_i hd
            split at h
            · rename_i vs hvs
              cases h
              refine ⟨SCall.of hf hb hn ?_, x1⟩
              rw [← i1]
              refine SI.mono k1 fun e t q => ?_
              obtain ⟨q1, q2⟩ := q; subst q1 q2
              exact ⟨hd, vs, by rw [ressE_eq]; exact hvs, rfl, rfl⟩
            · cases h
          · cases h
        · rename_i s hv
          obtain ⟨k1, _, x1⟩ := he _ _ _ _ hv
          rw [i2] at x1
          split at h
          · rename_i hd
            split at h
            · rename_i vs hvs
              cases h
              refine ⟨SCall.of hf hb hn ?_, x1⟩
              rw [← i1]
              refine SI.mono k1 fun e t q => ?_
              obtain ⟨q1, q2⟩ := q; subst q1 q2
              exact ⟨hd, vs, by rw [ressE_eq]; exact hvs, rfl, rfl⟩
            · cases h
          · cases h
        · cases h
theorem LoX.relo {H H' : Hp} (h : LoX { H with lo := H.next } H') : LoX H { H' with lo := min H.lo H'.lo } :=
  ⟨Nat.min_le_left _ _, h.next, fun b h1 h2 => h.get b h1 (by simp only at h2; omega)⟩
theorem evStep_ok {ev : Code → ES → Option (Ex × ES)} (he : EvOk P ev) : EvOk P (evStep P ev) := by
  intro c s e s' h
  have noloop : (∀ c', c = .loop c' → False) → (∀ c', c = .loop c' → SI P (.inLoop c') (Is e s'.st) s.st) := fun k c' hc => (k c' hc).elim
  unfold evStep at h
  split at h
  · cases h; exact ⟨SC.skip ⟨rfl, rfl⟩, noloop (by intro _ k; cases k), LoX.refl _⟩
  · cases h; exact ⟨SC.label ⟨rfl, rfl⟩, noloop (by intro _ k; cases k), LoX.refl _⟩
  · cases h; exact ⟨SC.exit ⟨rfl, rfl⟩, noloop (by intro _ k; cases k), LoX.refl _⟩
  · cases h; exact ⟨SC.ret ⟨rfl, rfl⟩, noloop (by intro _ k; cases k), LoX.refl _⟩
  · rename_i x y
    split at h
    · rename_i s1 h1
      obtain ⟨a1, _, x1⟩ := he _ _ _ _ h1
      obtain ⟨a2, _, x2⟩ := he _ _ _ _ h
      refine ⟨SC.seq (SI.mono a1 fun e1 t1 q => ?_), noloop (by intro _ k; cases k), x1.trans x2⟩
      obtain ⟨q1, q2⟩ := q; subst q1 q2
      exact a2
    · rename_i hr
      obtain ⟨a1, _, x1⟩ := he _ _ _ _ h
      refine ⟨SC.seq (SI.mono a1 fun e1 t1 q => ?_), noloop (by intro _ k; cases k), x1⟩
      obtain ⟨q1, q2⟩ := q; subst q1 q2
      cases e1 with
      | normal => exact (hr _ h).elim
      | _ => exact ⟨rfl, rfl⟩
  · rename_i id c
    split at h
    · rename_i id' s1 h1
      obtain ⟨a1, _, x1⟩ := he _ _ _ _ h1
      split at h
      · rename_i hi
        have hi := Nat.eq_of_beq_eq_true hi
        subst hi
        cases h
        refine ⟨SC.block (SI.mono a1 fun e1 t1 q => ?_), noloop (by intro _ k; cases k), x1⟩
        obtain ⟨q1, q2⟩ := q; subst q1 q2
        simp only [inBlock, if_true]; exact ⟨rfl, rfl⟩
      · rename_i hi
        have hi := Nat.ne_of_beq_eq_false hi
        cases h
        refine ⟨SC.block (SI.mono a1 fun e1 t1 q => ?_), noloop (by intro _ k; cases k), x1⟩
        obtain ⟨q1, q2⟩ := q; subst q1 q2
        simp only [inBlock, if_neg hi]; exact ⟨rfl, rfl⟩
    · rename_i hr
      obtain ⟨a1, _, x1⟩ := he _ _ _ _ h
      refine ⟨SC.block (SI.mono a1 fun e1 t1 q => ?_), noloop (by intro _ k; cases k), x1⟩
      obtain ⟨q1, q2⟩ := q; subst q1 q2
      cases e1 with
      | exit id' => exact (hr _ _ h).elim
      | _ => exact ⟨rfl, rfl⟩
  · rename_i c x y
    split at h
    · rename_i hv
      obtain ⟨a1, _, x1⟩ := he _ _ _ _ h
      exact ⟨SC.cond (t := true) (by rw [evE_eq]; exact hv) a1, noloop (by intro _ k; cases k), x1⟩
    · rename_i hv
      obtain ⟨a1, _, x1⟩ := he _ _ _ _ h
      exact ⟨SC.cond (t := false) (by rw [evE_eq]; exact hv) a1, noloop (by intro _ k; cases k), x1⟩
    · cases h
  · rename_i c
    split at h
    · rename_i s1 h1
      obtain ⟨a1, _, x1⟩ := he _ _ _ _ h1
      obtain ⟨_, a2, x2⟩ := he _ _ _ _ h
      have a2 := a2 c rfl
      have key : SC P c (andThen (Is e s'.st) (SI P (.inLoop c) (Is e s'.st))) s.st := SI.mono a1 fun e1 t1 q => by
        obtain ⟨q1, q2⟩ := q; subst q1 q2
        exact a2
      exact ⟨SC.loop key, fun c' hc => by cases hc; exact SI.loop key, x1.trans x2⟩
    · rename_i hr
      obtain ⟨a1, _, x1⟩ := he _ _ _ _ h
      have key : SC P c (andThen (Is e s'.st) (SI P (.inLoop c) (Is e s'.st))) s.st := SI.mono a1 fun e1 t1 q => by
        obtain ⟨q1, q2⟩ := q; subst q1 q2
        cases e1 with
        | normal => exact (hr _ h).elim
        | _ => exact ⟨rfl, rfl⟩
      exact ⟨SC.loop key, fun c' hc => by cases hc; exact SI.loop key, x1⟩
  · rename_i id ops
    obtain ⟨a1, x1⟩ := evOps_ok (callE_ok he) _ _ _ h
    exact ⟨SC.region (by rw [List.range_eq_range']; exact a1), noloop (by intro _ k; cases k), x1⟩
  · rename_i id ops
    split at h
    · cases h
    · rename_i hmix
      split at h
      · cases h
      · rename_i hok
        split at h
        · rename_i hfl
          split at h
          · rename_i s1 h1
            cases h
            have hfl' : ((List.range ops.size).any fun i => floating P ops (masks ops.toList []) i) = false := hfl
            have h1' : evDraw P (callE P ev) ops false s.st.H.next ops.size 0 s = some s' := by
              have : ∀ (k i n1 n2 : Nat) (s : ES), evDraw P (callE P ev) ops false n1 k i s = evDraw P (callE P ev) ops false n2 k i s := by
                intro k
                induction k with
                | zero => intros; rfl
                | succ k ih =>
                  intro i n1 n2 s
                  unfold evDraw
                  simp only [fineE, ih _ n1 n2]
              rw [this _ _ _ 0]; exact h1
            obtain ⟨a1, x1⟩ := evDraw_ok (st0 := s.st) (callE_ok he) _ _ _ (fun q => by cases q) h1'
            refine ⟨SC.regionDraw hmix hok hfl' ?_, noloop (by intro _ k; cases k), x1⟩
            obtain ⟨f, b1, b2, b3, b4⟩ := a1
            exact ⟨f, b1, b2, b3, rfl, b4⟩
          · cases h
        · rename_i hfl
          split at h
          · rename_i s1 h1
            cases h
            have hfl' : ((List.range ops.size).any fun i => floating P ops (masks ops.toList []) i) = true := hfl
            obtain ⟨s2, hs2⟩ : ∃ s2 : ES, s2 = s.setH { s.H with lo := s.H.next } := ⟨_, rfl⟩
            rw [← hs2] at h1
            have e1 : s2.st = { s.st with H := { s.H with lo := s.H.next } } := by subst hs2; rfl
            have e2 : s2.H = { s.H with lo := s.H.next } := by subst hs2; rfl
            have e3 : s.H.next = s2.st.H.next := by rw [e1]
            rw [e3] at h1
            obtain ⟨a1, x1⟩ := evDraw_ok (st0 := s2.st) (callE_ok he) _ _ _ (fun _ => LoX.refl _) h1
            have x2 := LoX.relo (by rw [← e2]; exact x1)
            refine ⟨?_, noloop (by intro _ k; cases k), x2⟩
            refine SI.preH (H2 := { s.H with lo := s.H.next }) (fun _ => rfl) rfl ?_
            have : SC P (.region id ops true) (Is .normal s1.st) s2.st := SC.regionDraw hmix hok hfl' (by
              obtain ⟨f, b1, b2, b3, b4⟩ := a1
              exact ⟨f, b1, b2, b3, rfl, b4⟩)
            rw [e1] at this
            refine SI.postH this fun e t q => ?_
            obtain ⟨q1, q2⟩ := q; subst q1 q2
            exact ⟨{ s1.H with lo := min s.H.lo s1.H.lo }, fun _ => rfl, rfl, rfl, rfl⟩
          · cases h
  · cases h
theorem evC_ok : ∀ n, EvOk P (evC P n)
  | 0 => fun c s e s' h => by cases h
  | n + 1 => evStep_ok (evC_ok n)
theorem SCall.run {n : Nat} {f : FuncId} {args : List Value} {H H' : Hp} {en : En} (h : callE P (evC P n) f args H = some (en, H')) : SCall P f args H (fun e h => e = en ∧ h = H') := (callE_ok (evC_ok n) _ _ _ _ _ h).1
end rules
end Go.Det
