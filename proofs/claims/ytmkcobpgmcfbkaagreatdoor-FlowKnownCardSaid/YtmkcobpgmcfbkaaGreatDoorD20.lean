import Derived.Test.YtmkcobpgmcfbkaaGreatDoorD19
set_option linter.unusedSimpArgs false
set_option linter.unusedVariables false
namespace Go.Det
open Go Go.RowKit
structure LoX (H H' : Hp) : Prop where
  lo : H'.lo ≤ H.lo
  next : H.next ≤ H'.next
  get : ∀ b, b < H.next → b < H'.lo → H'.get b = H.get b
theorem LoX.refl (H : Hp) : LoX H H := ⟨Nat.le_refl _, Nat.le_refl _, fun _ _ _ => rfl⟩
theorem LoX.trans {A B C : Hp} (h : LoX A B) (k : LoX B C) : LoX A C :=
  ⟨Nat.le_trans k.lo h.lo, Nat.le_trans h.next k.next, fun b h1 h2 => (k.get b (Nat.lt_of_lt_of_le h1 h.next) h2).trans (h.get b h1 (Nat.lt_of_lt_of_le h2 k.lo))⟩
theorem LoX.alloc (H : Hp) (x : Blk) : LoX H (H.alloc x) :=
  ⟨Nat.le_refl _, Nat.le_succ _, fun b h1 _ => by rw [Hp.get_alloc, if_neg (by omega)]⟩
theorem LoX.put (H : Hp) (b : Nat) (x : Blk) : LoX H (H.put b x) :=
  ⟨Nat.min_le_left _ _, Nat.le_refl _, fun c h1 h2 => by
    have h3 : c < min H.lo b := h2
    rw [Hp.get_put, if_neg (by omega)]⟩
theorem LoX.kill (H : Hp) (b : Nat) : LoX H (H.kill b) :=
  ⟨Nat.min_le_left _ _, Nat.le_refl _, fun c h1 h2 => by
    have h3 : c < min H.lo b := h2
    rw [Hp.get_kill, if_neg (by omega)]⟩
theorem LoX.ext {H H' : Hp} (h : LoX H H') (hl : H.next ≤ H'.lo) : Ext H H' := ⟨h.next, fun b hb => h.get b hb (Nat.lt_of_lt_of_le hb hl)⟩
theorem convD_lox {P : Program} {H H' : Hp} {s d : TypeId} {x v : Value} (e : convD P H s d x = some (v, H')) : LoX H H' := by
  unfold convD at e
  repeat' split at e
  all_goals first | (cases e; done) | (cases e; first | exact LoX.refl _ | exact LoX.alloc _ _)
theorem storeD_lox {P : Program} {H H' : Hp} {t : TypeId} {a v : Value} (e : storeD P H t a v = some H') : LoX H H' := by
  unfold storeD at e
  repeat' split at e
  all_goals first | (cases e; done) | (cases e; exact LoX.put _ _ _)
theorem buildSliceD_lox {P : Program} {H H' : Hp} {t : TypeId} {n : Nat} {l : List (Nat × Value)} {v : Value} (e : buildSliceD P H t n l = some (v, H')) : LoX H H' := by
  unfold buildSliceD at e
  repeat' split at e
  all_goals first | (cases e; done) | (cases e; exact LoX.alloc _ _)
theorem makeSliceD_lox {P : Program} {H H' : Hp} {t : TypeId} {l c v : Value} (e : makeSliceD P H t l c = some (v, H')) : LoX H H' := by
  unfold makeSliceD at e
  repeat' split at e
  all_goals first | (cases e; done) | (cases e; exact LoX.alloc _ _)
theorem appendZD_lox {P : Program} {H H' : Hp} {el : TypeId} {s x v : Value} (e : appendZD P H el s x = some (v, H')) : LoX H H' := by
  unfold appendZD at e
  repeat' split at e
  all_goals first | (cases e; done) | (cases e; exact LoX.alloc _ _)
theorem appendD_lox {P : Program} {H H' : Hp} {a : Array TypeId} {s x v : Value} (e : appendD P H a s x = some (v, H')) : LoX H H' := by
  unfold appendD at e
  repeat' split at e
  all_goals first
    | exact appendZD_lox e
    | (cases e; done)
    | (cases e; first | exact LoX.refl _ | exact LoX.alloc _ _ | exact LoX.put _ _ _ | exact (LoX.kill _ _).trans (LoX.alloc _ _))
theorem copyD_lox {P : Program} {H H' : Hp} {a : Array TypeId} {s x v : Value} (e : copyD P H a s x = some (v, H')) : LoX H H' := by
  unfold copyD at e
  repeat' split at e
  all_goals first
    | (cases e; done)
    | (cases e; first | exact LoX.refl _ | exact LoX.alloc _ _ | exact LoX.put _ _ _)
theorem nextD_lox {H H' : Hp} {x v : Value} (e : nextD H x = some (v, H')) : LoX H H' := by
  unfold nextD at e
  repeat' split at e
  all_goals first
    | (cases e; done)
    | (cases e; first | exact LoX.refl _ | exact LoX.alloc _ _ | exact LoX.put _ _ _)
theorem mapUpdateD_lox {P : Program} {H H' : Hp} {t : TypeId} {m k v : Value} (e : mapUpdateD P H t m k v = some H') : LoX H H' := by
  unfold mapUpdateD at e
  repeat' split at e
  all_goals first | (cases e; done) | (cases e; exact LoX.put _ _ _)
theorem clearD_lox {P : Program} {H H' : Hp} {a : Array TypeId} {x : Value} (e : clearD P H a x = some H') : LoX H H' := by
  unfold clearD at e
  repeat' split at e
  all_goals first | (cases e; done) | (cases e; first | exact LoX.refl _ | exact LoX.put _ _ _)
theorem unsafeStrD_lox {P : Program} {H H' : Hp} {a : Array TypeId} {p n v : Value} (e : unsafeStrD P H a p n = some (v, H')) : LoX H H' := by
  unfold unsafeStrD at e
  repeat' split at e
  all_goals first | (cases e; done) | (cases e; first | exact LoX.refl _ | exact LoX.kill _ _)
theorem callD_lox {P : Program} {H H' : Hp} {ev : Ev} {o : Oper} {c : Call} {v : Value} (e : callD P H ev o c = some (.val v H')) : LoX H H' := by
  unfold callD at e
  have en : ∀ {f : FuncId} {args : List Value}, enterD P f args = some (.val v H') → False := by
    intro f args h
    unfold enterD at h
    split at h
    · split at h <;> cases h
    · cases h
  have mp : ∀ {q : Option (Value × Hp)}, (q.map fun (v, H') => Res.val v H') = some (.val v H') → q = some (v, H') := by
    intro q h
    cases q with
    | none => cases h
    | some r => obtain ⟨a, b⟩ := r; cases h; rfl
  have mq : ∀ {q : Option Value}, (q.map fun v => Res.val v H) = some (.val v H') → H' = H := by
    intro q h
    cases q with
    | none => cases h
    | some r => cases h; rfl
  have mr : ∀ {q : Option Hp}, (q.map fun H' => Res.val undef H') = some (.val v H') → q = some H' := by
    intro q h
    cases q with
    | none => cases h
    | some r => cases h; rfl
  have go : ∀ {f : FuncId} {args : List Value}, goD P H f args = some (.val v H') → LoX H H' := by
    intro f args h
    unfold goD at h
    split at h
    · rename_i r hr; cases h; exact (en hr).elim
    · unfold externD at h
      split at h
      · split at h
        · split at h
          · rename_i v1 H1 hx
            cases h
            unfold xtN at hx
            repeat' split at hx
            all_goals first | (cases hx; done) | (cases hx; exact LoX.alloc _ _)
          · rw [mq h]; exact LoX.refl _
        · cases h
      · cases h
  repeat' split at e
  all_goals first
    | (cases e; done)
    | (exact (en e).elim)
    | exact go e
    | exact unsafeStrD_lox (mp e)
    | (cases e; exact LoX.refl _)
    | exact clearD_lox (mr e)
    | exact appendD_lox (mp e)
    | exact copyD_lox (mp e)
    | (rw [mq e]; exact LoX.refl _)
theorem opD_lox {P : Program} {H H' : Hp} {ev : Ev} {o : Oper} {v : Value} (e : opD P H ev o = some (.val v H')) : LoX H H' := by
  have pv : ∀ {q : Option Value}, (match q with | some v => some (Res.val v H) | none => none) = some (.val v H') → H' = H := by
    intro q h
    cases q with
    | none => cases h
    | some r => cases h; rfl
  have mv : ∀ {q : Option (Value × Hp)}, (match q with | some (v, H') => some (Res.val v H') | none => none) = some (.val v H') → q = some (v, H') := by
    intro q h
    cases q with
    | none => cases h
    | some r => obtain ⟨a, b⟩ := r; cases h; rfl
  have hv : ∀ {q : Option Hp}, (match q with | some H' => some (Res.val undef H') | none => none) = some (.val v H') → q = some H' := by
    intro q h
    cases q with
    | none => cases h
    | some r => cases h; rfl
  unfold opD at e
  cases ho : o.op
  all_goals rw [ho] at e
  all_goals simp only at e
  case call c => exact callD_lox e
  case store t a x =>
    split at e
    · exact storeD_lox (hv e)
    · cases e
  case makeMap t r =>
    cases r
    · simp only [Option.some.injEq, Res.val.injEq] at e
      obtain ⟨_, rfl⟩ := e
      exact LoX.alloc _ _
    · cases e
  case mapUpdate t m k v =>
    split at e
    · exact mapUpdateD_lox (hv e)
    · cases e
  case buildSlice t n l =>
    split at e
    · exact buildSliceD_lox (mv e)
    · cases e
  case makeSlice t a c =>
    split at e
    · exact makeSliceD_lox (mv e)
    · cases e
  case convert s d x =>
    split at e
    · split at e
      · rename_i r hr
        cases e
        exact convD_lox hr
      · rw [pv e]; exact LoX.refl _
    · cases e
  case next x b =>
    cases b
    · cases e
    · simp only at e
      split at e
      · exact nextD_lox (mv e)
      · cases e
  all_goals
    repeat' split at e
    all_goals first
      | (cases e; done)
      | (rw [pv e]; exact LoX.refl _)
      | (cases e; first | exact LoX.refl _ | exact LoX.alloc _ _)
      | skip
end Go.Det
