import Derived.Test.YtmkcobpgmcfbkaaGreatDoorD30
set_option linter.unusedSimpArgs false
set_option linter.unusedVariables false
namespace Go.Det
open Go Go.RowKit
section ok
variable {P : Program} {x : VS} {ids : Nat → Nat} {n : NN} {H B0 B : Hp} {o : Oper}
theorem opV_enter {f : FuncId} {args : List SV} (h : opV P x o = .enter f args) : opD P H (evS P (x.ss ids n H)) o = some (.enter f (args.map (den ids))) := by
  unfold opV at h
  cases ho : o.op
  all_goals rw [ho] at h
  case makeFunc fn first caps =>
    cases fn <;> simp only at h
    all_goals
      repeat' split at h
      all_goals first
        | (cases h; done)
        | exact (genV_enter h).elim
  all_goals simp only at h
  case call c => exact callV_enter ho h
  all_goals
    repeat' split at h
    all_goals first
      | (cases h; done)
      | exact callV_enter ho h
      | exact (genV_enter h).elim
theorem callV_only {c : Call} {v : OV} (h : callV P x o c = v) : (∃ w, v = .val w) ∨ (∃ f args, v = .enter f args) ∨ v = .hard ∨ v = .stuck := by
  unfold callV at h
  repeat' split at h
  all_goals (subst h; simp)
theorem opV_val {v : SV} (h : opV P x o = .val v) (fr : Fr B0 B x.cl x.kB x.loc ids H) : opD P H (evS P (x.ss ids n H)) o = some (.val (den ids v) H) := by
  have gen : genV P x o = .val v → opD P H (evS P (x.ss ids n H)) o = some (.val (den ids v) H) := fun h => genV_ok h
  unfold opV at h
  cases ho : o.op
  all_goals rw [ho] at h
  case makeFunc fn first caps =>
    cases fn <;> simp only at h
    case func f =>
      split at h
      · rename_i hfirst
        split at h
        · rename_i l hl
          split at h
          · rename_i l0 hl0; cases h
            have a1 := argsV_eq (ids := ids) (n := n) (H := H) hfirst
            have a2 := argsV_eq (ids := ids) (n := n) (H := H) hl
            unfold opD; simp only [ho, a1, a2, den, List.map_nil, sv0s_den hl0]
          · cases h
        · cases h
      · exact gen h
    all_goals first | (cases h; done) | skip
  all_goals simp only at h
  case call c => exact callV_val ho h
  case move a =>
    split at h
    · rename_i w hw; cases h
      unfold opD; simp only [ho, evV_eq P x ids n H hw]
    · cases h
  case assign a =>
    split at h
    · rename_i w hw; cases h
      unfold opD; simp only [ho, evV_eq P x ids n H hw]
    · cases h
  case pick c a b =>
    split at h
    · rename_i hc
      split at h
      · rename_i w hw; cases h
        unfold opD; simp only [ho, evV_eq P x ids n H hc, evV_eq P x ids n H hw, den]
      · cases h
    · rename_i hc
      split at h
      · rename_i w hw; cases h
        unfold opD; simp only [ho, evV_eq P x ids n H hc, evV_eq P x ids n H hw, den]
      · cases h
    · cases h
  case load t a =>
    split at h
    · rename_i k off hk
      split at h
      · rename_i cs hcs
        split at h
        · rename_i w hw; cases h
          obtain ⟨g1, g2, g3⟩ := fr.here k cs hcs
          refine opD_load ho (evV_eq P x ids n H hk) ?_
          unfold loadC at hw
          simp only [den, loadD, g1]
          split at hw
          · rename_i hg
            split at hw
            · rename_i m hm
              split at hw
              · rename_i hb; cases hw
                simp only [hg, hm]
                rw [if_pos (Nat.le_of_ble_eq_true hb)]
              · cases hw
            · cases hw
          · rename_i hg; simp only [hg]; exact hw
          · cases hw
        · cases h
      · cases h
    · cases h
  case fieldAddr t a f =>
    split at h
    · rename_i k off hk
      split at h
      · rename_i fields hu
        split at h
        · rename_i fd hfd
          split at h
          · rename_i m hm; cases h
            unfold opD; simp only [ho, evV_eq P x ids n H hk, den, fieldAddrD, hu, hfd, hm]
            rfl
          · cases h
        · cases h
      · cases h
    · exact gen h
  case nilCheck a =>
    split at h
    · rename_i k off hk; cases h
      unfold opD; simp only [ho, evV_eq P x ids n H hk, den]
    · rename_i f c hk; cases h
      unfold opD; simp only [ho, evV_eq P x ids n H hk, den]
    · exact gen h
  case binOp op t a b u =>
    split at h <;> first | (cases h; done) | skip
    all_goals
      split at h
      · exact gen h
      · cases h
  all_goals first
    | exact gen h
    | (cases h; done)
    | (repeat' split at h
       all_goals (cases h; done))
theorem opV_new {cs : List Value} (h : opV P x o = .new cs) : opD P H (evS P (x.ss ids n H)) o = some (.val (newD H cs).1 (newD H cs).2) ∧ apartE x.loc.length x.l = true := by
  have gen : genV P x o = .new cs → False := fun h => by rcases genV_only h with ⟨w, e⟩ | e | e <;> cases e
  unfold opV at h
  cases ho : o.op
  all_goals rw [ho] at h
  case makeFunc fn first caps =>
    cases fn <;> simp only at h
    all_goals
      repeat' split at h
      all_goals first | (cases h; done) | exact (gen h).elim
  all_goals simp only at h
  case call c => rcases callV_only h with ⟨w, e⟩ | ⟨f, a, e⟩ | e | e <;> cases e
  case alloc t =>
    split at h
    · cases h
    · rename_i hb
      split at h
      · rename_i z hz
        split at h
        · rename_i hf
          split at h
          · rename_i ha; cases h
            have hbm : bM P t = .fix := by unfold bM; rw [hb]
            exact ⟨by unfold opD; simp only [ho, hz, hf, if_true, hbm]; rfl, ha⟩
          · cases h
        · cases h
      · cases h
  case box t a =>
    split at h
    · rename_i u hu
      split at h
      · rename_i ha; cases h
        exact ⟨by unfold opD; simp only [ho, evV_eq P x ids n H hu, den], ha⟩
      · cases h
    · cases h
  all_goals
    repeat' split at h
    all_goals first | (cases h; done) | exact (gen h).elim
theorem opV_upd {k : Nat} {cs' : List Value} (h : opV P x o = .upd k cs') (fr : Fr B0 B x.cl x.kB x.loc ids H) : ∃ cs, x.loc[k]? = some cs ∧ opD P H (evS P (x.ss ids n H)) o = some (.val undef (H.put (ids k) (.cells .fix cs'))) := by
  have gen : genV P x o = .upd k cs' → False := fun h => by rcases genV_only h with ⟨w, e⟩ | e | e <;> cases e
  unfold opV at h
  cases ho : o.op
  all_goals rw [ho] at h
  case makeFunc fn first caps =>
    cases fn <;> simp only at h
    all_goals
      repeat' split at h
      all_goals first | (cases h; done) | exact (gen h).elim
  all_goals simp only at h
  case call c => rcases callV_only h with ⟨w, e⟩ | ⟨f, a, e⟩ | e | e <;> cases e
  case store t a b =>
    split at h
    · rename_i k off hk
      split at h
      · rename_i u hu
        split at h
        · rename_i cs hcs
          split at h
          · rename_i cs' hw; cases h
            obtain ⟨g1, g2, g3⟩ := fr.here _ cs hcs
            refine ⟨cs, hcs, opD_store ho (evV_eq P x ids n H hk) (evV_eq P x ids n H hu) ?_⟩
            unfold storeC at hw
            split at hw
            · rename_i m hm
              split at hw
              · rename_i h1
                split at hw
                · rename_i h2
                  split at hw
                  · rename_i h3
                    cases hw
                    simp only [den, storeD, g1]
                    exact if_pos ⟨by decide, by rw [hm, Nat.eq_of_beq_eq_true h1], Nat.le_of_ble_eq_true h2, h3⟩
                  · cases hw
                · cases hw
              · cases hw
            · cases hw
          · cases h
        · cases h
      · cases h
    · cases h
  all_goals
    repeat' split at h
    all_goals first | (cases h; done) | exact (gen h).elim
end ok
end Go.Det
