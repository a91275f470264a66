import Derived.Test.YtppedainpmjbmaaGreatDoorD75
set_option linter.unusedSimpArgs false
set_option linter.unusedVariables false
namespace Go.Det.Fast
open Go Go.Det Go.RowKit

/-! ## 71. The evaluator in small pieces, second part -/
abbrev RE := Option (Ex × ES)
abbrev KE := ES → RE
noncomputable def eoRet : Option ES → KE → RE := @Option.rec ES (fun _ => KE → RE) (fun _ => none) (fun s ih => ih s)
noncomputable def eoEn : En → Hp → KE → ES → Option Tmp → RE := @En.rec (fun _ => Hp → KE → ES → Option Tmp → RE) (fun v H ih s d => eoRet (putF s d v H) ih) (fun v H _ s _ => some (.panic v, { s with H := H }))
noncomputable def eoCall : Option (En × Hp) → KE → ES → Option Tmp → RE := @Option.rec (En × Hp) (fun _ => KE → ES → Option Tmp → RE) (fun _ _ _ => none) (@Prod.rec En Hp (fun _ => KE → ES → Option Tmp → RE) fun e H => eoEn e H)
noncomputable def eoYield2 : Option (Bool × Hp) → KE → ES → Option Tmp → RE := @Option.rec (Bool × Hp) (fun _ => KE → ES → Option Tmp → RE) (fun _ _ _ => none) (@Prod.rec Bool Hp (fun _ => KE → ES → Option Tmp → RE) fun b H ih s d => eoRet (putF s d (.bool b) H) ih)
noncomputable def eoYield : Option (Nat × List Value × Option Tmp) → EvFn → KE → ES → RE := @Option.rec (Nat × List Value × Option Tmp) (fun _ => EvFn → KE → ES → RE) (fun _ _ _ => none) (fun q ev ih s => eoYield2 (roundE ev q.1 q.2.1 s.H) ih s q.2.2)

/-! calls -/
abbrev OC := Option (En × Hp)
noncomputable def caRes : Option (List Value) → Hp → OC := @Option.rec (List Value) (fun _ => Hp → OC) (fun _ => none) (fun vs H => some (.ret (oneD vs), H))
noncomputable def caEnd : DF → Program → Func → ES → OC := @List.rec (Value × List Value) (fun _ => Program → Func → ES → OC) (fun P fn s => caRes (ressE P s fn.results.toList) s.H) (fun _ _ _ _ _ _ => none)
noncomputable def caPan : DF → Value → ES → OC := @List.rec (Value × List Value) (fun _ => Value → ES → OC) (fun v s => some (.panic v, s.H)) (fun _ _ _ _ _ => none)
noncomputable def caEx : Ex → Program → Func → ES → OC := @Ex.rec (fun _ => Program → Func → ES → OC) (fun P fn s => caEnd s.defs P fn s) (fun _ _ _ _ => none) (fun P fn s => caEnd s.defs P fn s) (fun v _ _ s => caPan s.defs v s)
noncomputable def caOut : RE → Program → Func → OC := @Option.rec (Ex × ES) (fun _ => Program → Func → OC) (fun _ _ => none) (@Prod.rec Ex ES (fun _ => Program → Func → OC) fun e s P fn => caEx e P fn s)
noncomputable def initF : List Value → Nat → T Value → T Value := @List.rec Value (fun _ => Nat → T Value → T Value) (fun _ t => t) (fun v _ ih i t => ih (Nat.succ i) (setV t i (some v)))
theorem initF_eq : ∀ l i t, initF l i t = initT l i t
  | [], _, _ => rfl
  | v :: l, i, t => by
    show initF l (Nat.succ i) (setV t i (some v)) = _
    rw [initT, initF_eq l, setV_eq]
noncomputable def tfC : T Value → Program → EvFn → Func → Code → Hp → OC := @T.rec Value (fun _ => Program → EvFn → Func → Code → Hp → OC) (fun P ev fn c H => caOut (ev c { t := .nil, n := fn.ntmps, H := H, defs := [], dok := true }) P fn) (fun v l r _ _ P ev fn c H => caOut (ev c { t := .node v l r, n := fn.ntmps, H := H, defs := [], dok := true }) P fn)
theorem tfC_eq (t : T Value) (P : Program) (ev : EvFn) (fn : Func) (c : Code) (H : Hp) : tfC t P ev fn c H = caOut (ev c { t := t, n := fn.ntmps, H := H, defs := [], dok := true }) P fn := by cases t <;> rfl
noncomputable def caRun : Bool → Program → EvFn → Func → Code → List Value → Hp → OC := @Bool.rec (fun _ => Program → EvFn → Func → Code → List Value → Hp → OC) (fun _ _ _ _ _ _ => none) (fun P ev fn c args H => lforce args fun args => tfC (initF args 0 .nil) P ev fn c H)
noncomputable def caBody : Option Code → Program → EvFn → Func → List Value → Hp → OC := @Option.rec Code (fun _ => Program → EvFn → Func → List Value → Hp → OC) (fun _ _ _ _ _ => none) (fun c P ev fn args H => caRun (Nat.ble args.length fn.ntmps) P ev fn c args H)
noncomputable def caFn : Option Func → Program → EvFn → List Value → Hp → OC := @Option.rec Func (fun _ => Program → EvFn → List Value → Hp → OC) (fun _ _ _ _ => none) (fun fn P ev args H => caBody fn.body P ev fn args H)
noncomputable def caF (P : Program) (ev : EvFn) (f : FuncId) (args : List Value) (H : Hp) : OC := hforce H fun H => caFn P.funcs[f]? P ev args H
theorem caF_eq (P : Program) (ev : EvFn) (f : FuncId) (args : List Value) (H : Hp) : caF P ev f args H = callE P ev f args H := by
  unfold caF callE
  rw [hforce_eq]
  cases P.funcs[f]? with
  | none => rfl
  | some fn =>
    show caBody fn.body P ev fn args H = _
    simp only
    cases fn.body with
    | none => rfl
    | some c =>
      show caRun (Nat.ble args.length fn.ntmps) P ev fn c args H = _
      simp only
      cases Nat.ble args.length fn.ntmps with
      | false => rfl
      | true =>
        simp only [caRun, lforce_eq, tfC_eq, initF_eq]
        cases ev c { t := initT args 0 .nil, n := fn.ntmps, H := H, defs := [], dok := true } with
        | none => rfl
        | some r =>
          obtain ⟨e, s⟩ := r
          show caEx e P fn s = _
          skip
          cases e with
          | panic v => show caPan s.defs v s = _; simp only; cases s.defs <;> rfl
          | exit id => rfl
          | normal =>
            show caEnd s.defs P fn s = _
            simp only
            cases s.defs with
            | nil => show caRes (ressE P s fn.results.toList) s.H = _; simp only; cases ressE P s fn.results.toList <;> rfl
            | cons => rfl
          | ret =>
            show caEnd s.defs P fn s = _
            simp only
            cases s.defs with
            | nil => show caRes (ressE P s fn.results.toList) s.H = _; simp only; cases ressE P s fn.results.toList <;> rfl
            | cons => rfl

/-! the operations of a region, one after the other -/
noncomputable def eoOE : OE → CallFn → KE → ES → RE := @OE.rec (fun _ => CallFn → KE → ES → RE) (fun s' _ ih _ => ih s') (fun f args d call ih s => eoCall (call f args s.H) ih s d) (fun v _ _ s => some (.panic v, s))
noncomputable def eoOp : OO → CallFn → EvFn → KE → ES → Option (Nat × List Value × Option Tmp) → RE := @Option.rec OE (fun _ => CallFn → EvFn → KE → ES → Option (Nat × List Value × Option Tmp) → RE) (fun _ ev ih s y => eoYield y ev ih s) (fun e call _ ih s _ => eoOE e call ih s)
noncomputable def eoL : List Oper → Nat → Program → CallFn → EvFn → Array Oper → KE :=
  @List.rec Oper (fun _ => Nat → Program → CallFn → EvFn → Array Oper → KE) (fun _ _ _ _ _ s => some (.normal, s))
    (fun o _ ih i P call ev ops s => eoOp (doF P ops s o) call ev (ih (Nat.succ i) P call ev ops) s (yieldE P ops i s))
noncomputable def eoF (P : Program) (call : CallFn) (ev : EvFn) (ops : Array Oper) (l : List Oper) (i : Nat) : KE := eoL l i P call ev ops
section
variable {P : Program}
theorem eoF_ok {call : CallFn} (hc : CallOk P call) {ev : EvFn} (he : EvOk P ev) {ops : Array Oper} : ∀ (l : List Oper) (i : Nat) (s : ES) {e : Ex} {s' : ES}, (∀ j, l[j]? = ops[i + j]?) → eoF P call ev ops l i s = some (e, s') → SL P ops (List.range' i l.length) (Is e s'.st) s.st ∧ LoX s.H s'.H
  | [], i, s, e, s', _, h => by
    have h : some (Ex.normal, s) = some (e, s') := h
    simp only [Option.some.injEq, Prod.mk.injEq] at h
    obtain ⟨h1, h2⟩ := h
    subst h1 h2
    exact ⟨SL.nil ⟨rfl, rfl⟩, LoX.refl _⟩
  | o :: l, i, s, e, s', hl, h => by
    have h0 : ops[i]? = some o := by have := hl 0; simp at this; exact this.symm
    have hl' : ∀ j, l[j]? = ops[i + 1 + j]? := fun j => by
      have := hl (j + 1); simp only [List.getElem?_cons_succ] at this; rw [this]; congr 1; omega
    have h : eoOp (doF P ops s o) call ev (eoF P call ev ops l (Nat.succ i)) s (yieldE P ops i s) = some (e, s') := h
    rw [doF_eq h0] at h
    rw [List.length_cons, List.range'_succ]
    cases hd1 : doE P ops i s with
    | some oe =>
      rw [hd1] at h
      cases oe with
      | val s1 =>
        obtain ⟨f1, x1⟩ := doE_val hd1
        obtain ⟨f2, x2⟩ := eoF_ok hc he l (i + 1) s1 hl' h
        exact ⟨SL.step f1.step f2, x1.trans x2⟩
      | call f args d =>
        obtain ⟨o, ho, hg, hd, hev, hf, hdd⟩ := doE_call hd1
        have h : eoCall (call f args s.H) (eoF P call ev ops l (Nat.succ i)) s d = some (e, s') := h
        cases h2 : call f args s.H with
        | none => rw [h2] at h; cases h
        | some q =>
          obtain ⟨en, H'⟩ := q
          rw [h2] at h
          obtain ⟨c1, x1⟩ := hc _ _ _ _ _ h2
          cases en with
          | panic v =>
            cases h
            refine ⟨SL.call ho hg hd hev hf (c1.mono fun en H'' q => ?_), x1⟩
            obtain ⟨q1, q2⟩ := q
            subst q1 q2
            exact ⟨rfl, rfl⟩
          | ret v =>
            have h : eoRet (putF s d v H') (eoF P call ev ops l (Nat.succ i)) = some (e, s') := h
            rw [putF_eq] at h
            cases h3 : putE s d v H' with
            | none => rw [h3] at h; cases h
            | some s1 =>
              rw [h3] at h
              obtain ⟨h4, h5⟩ := putE_ok h3
              have h6 : s1.H = H' := by have := congrArg St.H h4; rw [(put_facts _ _ _).2.1] at this; exact this
              obtain ⟨f2, x2⟩ := eoF_ok hc he l (i + 1) s1 hl' h
              refine ⟨SL.call ho hg hd hev hf (c1.mono fun en H'' q => ?_), x1.trans (by rw [← h6]; exact x2)⟩
              obtain ⟨q1, q2⟩ := q
              subst q1 q2
              simp only
              rw [hdd, ← h4]; exact f2
      | panic v =>
        obtain ⟨o, ho, hg, hd, hev⟩ := doE_panic hd1
        cases h
        exact ⟨SL.panic ho hg hd hev ⟨rfl, rfl⟩, LoX.refl _⟩
    | none =>
      rw [hd1] at h
      have h : eoYield (yieldE P ops i s) ev (eoF P call ev ops l (Nat.succ i)) s = some (e, s') := h
      cases h1 : yieldE P ops i s with
      | none => rw [h1] at h; cases h
      | some q =>
        obtain ⟨l', args, d⟩ := q
        rw [h1] at h
        obtain ⟨o, ho, hg, hd, hev, hf, hdd⟩ := yieldE_ok h1
        have h : eoYield2 (roundE ev l' args s.H) (eoF P call ev ops l (Nat.succ i)) s d = some (e, s') := h
        cases h2 : roundE ev l' args s.H with
        | none => rw [h2] at h; cases h
        | some q =>
          obtain ⟨b, H'⟩ := q
          rw [h2] at h
          obtain ⟨rec, hlr, hn, c1, x1⟩ := roundE_ok he h2
          have h : eoRet (putF s d (.bool b) H') (eoF P call ev ops l (Nat.succ i)) = some (e, s') := h
          rw [putF_eq] at h
          cases h3 : putE s d (.bool b) H' with
          | none => rw [h3] at h; cases h
          | some s1 =>
            rw [h3] at h
            obtain ⟨h4, h5⟩ := putE_ok h3
            have h6 : s1.H = H' := by have := congrArg St.H h4; rw [(put_facts _ _ _).2.1] at this; exact this
            obtain ⟨f2, x2⟩ := eoF_ok hc he l (i + 1) s1 hl' h
            refine ⟨SL.yield ho hg hd hev hf hlr hn (fun b1 H1 q => ?_) c1, x1.trans (by rw [← h6]; exact x2)⟩
            obtain ⟨q1, q2⟩ := q
            subst q1 q2
            rw [hdd, ← h4]; exact f2
end

/-! regions that draw -/
abbrev KS := ES → Option ES
noncomputable def edRet : Option ES → KS → Option ES := @Option.rec ES (fun _ => KS → Option ES) (fun _ => none) (fun s ih => ih s)
noncomputable def edEn : En → Hp → KS → ES → Option Tmp → Option ES := @En.rec (fun _ => Hp → KS → ES → Option Tmp → Option ES) (fun v H ih s d => edRet (putF s d v H) ih) (fun _ _ _ _ _ => none)
noncomputable def edCall : Option (En × Hp) → KS → ES → Option Tmp → Option ES := @Option.rec (En × Hp) (fun _ => KS → ES → Option Tmp → Option ES) (fun _ _ _ => none) (@Prod.rec En Hp (fun _ => KS → ES → Option Tmp → Option ES) fun e H => edEn e H)
noncomputable def edOE : OE → CallFn → KS → ES → Option ES := @OE.rec (fun _ => CallFn → KS → ES → Option ES) (fun s' _ ih _ => ih s') (fun f args d call ih s => edCall (call f args s.H) ih s d) (fun _ _ _ _ => none)
noncomputable def edOp : OO → CallFn → KS → ES → Option ES := @Option.rec OE (fun _ => CallFn → KS → ES → Option ES) (fun _ _ _ => none) edOE
noncomputable def edDo : Bool → Program → CallFn → Array Oper → Oper → KS → ES → Option ES := @Bool.rec (fun _ => Program → CallFn → Array Oper → Oper → KS → ES → Option ES) (fun _ _ _ _ _ _ => none) (fun P call ops o ih s => edOp (doF P ops s o) call ih s)
def edNil (fl : Bool) (nx : Nat) (s : ES) : Option ES :=
  match fl with
  | false => some s
  | true => match Nat.ble nx s.H.lo with | true => some s | false => none
noncomputable def fineK : Bool → Program → Array Oper → Nat → Nat → ES → Bool := @Bool.rec (fun _ => Program → Array Oper → Nat → Nat → ES → Bool) (fun _ _ _ _ _ => true) (fun P ops nx i s => fineE P ops true nx i s)
theorem fineK_eq (fl : Bool) (P : Program) (ops : Array Oper) (nx i : Nat) (s : ES) : fineK fl P ops nx i s = fineE P ops fl nx i s := by cases fl <;> rfl
noncomputable def edL : List Oper → Nat → Program → CallFn → Array Oper → Bool → Nat → KS :=
  @List.rec Oper (fun _ => Nat → Program → CallFn → Array Oper → Bool → Nat → KS) (fun _ _ _ _ fl nx s => edNil fl nx s)
    (fun o _ ih i P call ops fl nx s => edDo (fineK fl P ops nx i s) P call ops o (ih (Nat.succ i) P call ops fl nx) s)
noncomputable def edF (P : Program) (call : CallFn) (ops : Array Oper) (fl : Bool) (nx : Nat) (l : List Oper) (i : Nat) : KS := edL l i P call ops fl nx
theorem edF_eq (P : Program) (call : CallFn) (ops : Array Oper) (fl : Bool) (nx : Nat) : ∀ (l : List Oper) (i : Nat) (s : ES), (∀ j, l[j]? = ops[i + j]?) → edF P call ops fl nx l i s = evDraw P call ops fl nx l.length i s
  | [], i, s, _ => by cases fl <;> rfl
  | o :: l, i, s, h => by
    have h0 : ops[i]? = some o := by have := h 0; simp at this; exact this.symm
    have ih : ∀ s', edF P call ops fl nx l (Nat.succ i) s' = evDraw P call ops fl nx l.length (i + 1) s' := fun s' => edF_eq P call ops fl nx l (i + 1) s' fun j => by
      have := h (j + 1); simp only [List.getElem?_cons_succ] at this; rw [this]; congr 1; omega
    show edDo (fineK fl P ops nx i s) P call ops o (edF P call ops fl nx l (Nat.succ i)) s = _
    rw [show edF P call ops fl nx l (Nat.succ i) = evDraw P call ops fl nx l.length (i + 1) from funext ih, List.length_cons, fineK_eq]
    unfold evDraw
    cases fineE P ops fl nx i s with
    | false => rfl
    | true =>
      show edOp (doF P ops s o) call _ s = _
      rw [doF_eq h0]
      simp only
      cases doE P ops i s with
      | none => rfl
      | some r =>
        cases r with
        | val s' => rfl
        | panic v => rfl
        | call f args d =>
          show edCall (call f args s.H) _ s d = _
          simp only
          cases call f args s.H with
          | none => rfl
          | some q =>
            obtain ⟨x, y⟩ := q
            cases x with
            | panic v => rfl
            | ret v => show edRet (putF s d v y) _ = _; rw [putF_eq]; simp only; cases putE s d v y <;> rfl

noncomputable def drPlain (P : Program) (ev : EvFn) (ops : Array Oper) (s : ES) : Option ES → Option (Ex × ES)
  | some s' => some (.normal, s')
  | none => drawT P ev ops s
noncomputable def drFl (P : Program) (ev : EvFn) (ops : Array Oper) (s : ES) : Option ES → Option (Ex × ES)
  | some s' => some (.normal, s'.setH { s'.H with lo := min s.H.lo s'.H.lo })
  | none => drawT P ev ops s
noncomputable def drGo (P : Program) (call : CallFn) (ev : EvFn) (ops : Array Oper) (s : ES) : Bool → Option (Ex × ES)
  | false => drPlain P ev ops s (edF P call ops false 0 ops.toList 0 s)
  | true => drFl P ev ops s (edF P call ops true s.H.next ops.toList 0 (s.setH { s.H with lo := s.H.next }))
noncomputable def drOk (P : Program) (call : CallFn) (ev : EvFn) (ops : Array Oper) (s : ES) : Bool → Option (Ex × ES)
  | false => none
  | true => drGo P call ev ops s (flOf P ops)
noncomputable def drMix (P : Program) (call : CallFn) (ev : EvFn) (ops : Array Oper) (s : ES) : Bool → Option (Ex × ES)
  | false => none
  | true => drOk P call ev ops s (okDraw P ops)
section
variable {P : Program}
theorem drMix_ok {call : CallFn} (hc : CallOk P call) {ev : EvFn} (he : EvOk P ev) {id : Nat} {ops : Array Oper} {s : ES} {e : Ex} {s' : ES} (h : drMix P call ev ops s (P.follows .mixedOrders) = some (e, s')) :
    SC P (.region id ops true) (Is e s'.st) s.st ∧ LoX s.H s'.H := by
  have hl : ∀ j : Nat, ops.toList[j]? = ops[0 + j]? := fun j => by simp
  cases hmix : P.follows .mixedOrders with
  | false => rw [hmix] at h; cases h
  | true =>
    rw [hmix] at h
    simp only [drMix] at h
    cases hok : okDraw P ops with
    | false => rw [hok] at h; cases h
    | true =>
      rw [hok] at h
      simp only [drOk] at h
      cases hfl : flOf P ops with
      | false =>
        rw [hfl] at h
        simp only [drGo, edF_eq P call ops false 0 ops.toList 0 s hl, Array.length_toList] at h
        unfold drPlain at h
        split at h
        · rename_i s1 h1
          cases h
          have hfl' : ((List.range ops.size).any fun i => floating P ops (masks ops.toList []) i) = false := hfl
          have h1' : evDraw P call ops false s.st.H.next ops.size 0 s = some s' := by
            have : ∀ (k i n1 n2 : Nat) (s : ES), evDraw P call ops false n1 k i s = evDraw P call ops false n2 k i s := by
              intro k
              induction k with
              | zero => intros; rfl
              | succ k ih =>
                intro i n1 n2 s
                unfold evDraw
                simp only [fineE, ih _ n1 n2]
            rw [this _ _ _ 0]; exact h1
          obtain ⟨a1, x1⟩ := evDraw_ok (st0 := s.st) hc _ _ _ (fun q => by cases q) h1'
          refine ⟨SC.regionDraw hmix hok hfl' ?_, x1⟩
          obtain ⟨f, b1, b2, b3, b4⟩ := a1
          exact ⟨f, b1, b2, b3, rfl, b4⟩
        · exact drawT_ok (id := id) he hmix hok h
      | true =>
        rw [hfl] at h
        simp only [drGo, edF_eq P call ops true s.H.next ops.toList 0 _ hl, Array.length_toList] at h
        unfold drFl at h
        split at h
        · rename_i s1 h1
          cases h
          have hfl' : ((List.range ops.size).any fun i => floating P ops (masks ops.toList []) i) = true := hfl
          obtain ⟨s2, hs2⟩ : ∃ s2 : ES, s2 = s.setH { s.H with lo := s.H.next } := ⟨_, rfl⟩
          rw [← hs2] at h1
          have e1 : s2.st = { s.st with H := { s.H with lo := s.H.next } } := by subst hs2; rfl
          have e2 : s2.H = { s.H with lo := s.H.next } := by subst hs2; rfl
          have e3 : s.H.next = s2.st.H.next := by rw [e1]
          rw [e3] at h1
          obtain ⟨a1, x1⟩ := evDraw_ok (st0 := s2.st) hc _ _ _ (fun _ => LoX.refl _) h1
          have x2 := LoX.relo (by rw [← e2]; exact x1)
          refine ⟨?_, x2⟩
          refine SI.preH (H2 := { s.H with lo := s.H.next }) (fun _ => rfl) rfl ?_
          have : SC P (.region id ops true) (Is .normal s1.st) s2.st := SC.regionDraw hmix hok hfl' (by
            obtain ⟨f, b1, b2, b3, b4⟩ := a1
            exact ⟨f, b1, b2, b3, rfl, b4⟩)
          rw [e1] at this
          refine SI.postH this fun e t q => ?_
          obtain ⟨q1, q2⟩ := q; subst q1 q2
          exact ⟨{ s1.H with lo := min s.H.lo s1.H.lo }, fun _ => rfl, rfl, rfl, rfl⟩
        · exact drawT_ok (id := id) he hmix hok h
end

/-! code -/
noncomputable def seEx : Ex → EvFn → Code → ES → RE := @Ex.rec (fun _ => EvFn → Code → ES → RE) (fun ev y s => ev y s) (fun id _ _ s => some (.exit id, s)) (fun _ _ s => some (.ret, s)) (fun v _ _ s => some (.panic v, s))
noncomputable def seF : RE → EvFn → Code → RE := @Option.rec (Ex × ES) (fun _ => EvFn → Code → RE) (fun _ _ => none) (@Prod.rec Ex ES (fun _ => EvFn → Code → RE) fun e s ev y => seEx e ev y s)
noncomputable def blB : Bool → Nat → ES → RE := @Bool.rec (fun _ => Nat → ES → RE) (fun id s => some (.exit id, s)) (fun _ s => some (.normal, s))
noncomputable def blEx : Ex → Nat → ES → RE := @Ex.rec (fun _ => Nat → ES → RE) (fun _ s => some (.normal, s)) (fun id' id s => blB (Nat.beq id' id) id' s) (fun _ s => some (.ret, s)) (fun v _ s => some (.panic v, s))
noncomputable def blF : RE → Nat → RE := @Option.rec (Ex × ES) (fun _ => Nat → RE) (fun _ => none) (@Prod.rec Ex ES (fun _ => Nat → RE) fun e s id => blEx e id s)
noncomputable def coB : Bool → EvFn → Code → Code → ES → RE := @Bool.rec (fun _ => EvFn → Code → Code → ES → RE) (fun ev _ y s => ev y s) (fun ev x _ s => ev x s)
noncomputable def coV : Value → EvFn → Code → Code → ES → RE := @Value.rec (fun _ => EvFn → Code → Code → ES → RE) (fun _ => PUnit) (fun _ => PUnit)
    (fun b => coB b)
    (fun q1 q2 => fun _ _ _ _ => none)
    (fun q1 q2 => fun _ _ _ _ => none)
    (fun q1 q2 q3 => fun _ _ _ _ => none)
    (fun q1 => fun _ _ _ _ => none)
    (fun q1 => fun _ _ _ _ => none)
    (fun q1 q2 q3 => fun _ _ _ _ => none)
    (fun q1 => fun _ _ _ _ => none)
    (fun q1 => fun _ _ _ _ => none)
    (fun q1 q2 q3 _ _ => fun _ _ _ _ => none)
    (fun _ _ _ _ => none)
    (fun q1 q2 _ => fun _ _ _ _ => none)
    (fun _ _ _ _ => none)
    (fun q1 _ => fun _ _ _ _ => none)
    (fun q1 _ => fun _ _ _ _ => none)
    (fun _ _ => ⟨⟩) ⟨⟩ (fun _ _ _ _ => ⟨⟩)
noncomputable def coF : Option Value → EvFn → Code → Code → ES → RE := @Option.rec Value (fun _ => EvFn → Code → Code → ES → RE) (fun _ _ _ _ => none) coV
noncomputable def reB : Bool → Nat → Array Oper → Program → CallFn → EvFn → ES → RE := @Bool.rec (fun _ => Nat → Array Oper → Program → CallFn → EvFn → ES → RE) (fun _ ops P call ev s => eoF P call ev ops ops.toList 0 s) (fun _ ops P call ev s => drMix P call ev ops s (P.follows .mixedOrders))
abbrev CK := Program → CallFn → EvFn → ES → RE
noncomputable def stepK : Code → CK := @Code.rec (fun _ => CK)
  (fun _ _ _ s => some (.normal, s)) (fun id ops b P call ev s => reB b id ops P call ev s) (fun x y _ _ _ _ ev s => seF (ev x s) ev y) (fun c x y _ _ P _ ev s => coF (evF P s c) ev x y s)
  (fun id c _ _ _ ev s => blF (ev c s) id) (fun c _ _ _ ev s => seF (ev c s) ev (.loop c)) (fun f ps a b _ _ P _ ev s => evStep2 P ev (.rangeFunc f ps a b) s) (fun id _ _ _ s => some (.exit id, s))
  (fun c _ _ _ ev s => ev c s) (fun _ _ _ _ s => some (.normal, s)) (fun l P _ ev s => evStep2 P ev (.goto l) s) (fun _ _ _ s => some (.ret, s)) (fun w P _ ev s => evStep2 P ev (.refuse w) s)
noncomputable def stepF (P : Program) (call : CallFn) (ev : EvFn) (c : Code) (s : ES) : RE := stepK c P call ev s
theorem seF_eq (r : RE) (ev : EvFn) (y : Code) : seF r ev y = match r with | some (.normal, s') => ev y s' | r => r := by
  cases r with
  | none => rfl
  | some q => obtain ⟨e, s⟩ := q; cases e <;> rfl
theorem stepF_ok {P : Program} {call : CallFn} (hc : CallOk P call) {ev : EvFn} (he : EvOk P ev) : EvOk P (stepF P call ev) := by
  intro c s e s' h
  have old : evStep2 P ev c s = some (e, s') → SC P c (Is e s'.st) s.st ∧ (∀ c', c = .loop c' → SI P (.inLoop c') (Is e s'.st) s.st) ∧ LoX s.H s'.H := fun h => evStep2_ok he c s e s' h
  cases c
  case cond c x y =>
    refine old ?_
    rw [← h]
    show (match evE P s c with | some (.bool true) => ev x s | some (.bool false) => ev y s | _ => none) = coF (evF P s c) ev x y s
    rw [evF_eq]
    cases evE P s c with
    | none => rfl
    | some v =>
      cases v <;> try rfl
      rename_i b
      cases b <;> rfl
  case seq x y => exact old (by rw [← h]; exact (seF_eq (ev x s) ev y).symm)
  case loop x => exact old (by rw [← h]; exact (seF_eq (ev x s) ev (.loop x)).symm)
  case block id c =>
    refine old ?_
    rw [← h]
    show (match ev c s with | some (.exit id', s') => (match Nat.beq id' id with | true => some (.normal, s') | false => some (.exit id', s')) | r => r) = blF (ev c s) id
    cases ev c s with
    | none => rfl
    | some q =>
      obtain ⟨e1, s1⟩ := q
      cases e1 <;> try rfl
      rename_i id'
      show _ = blB (Nat.beq id' id) id' s1
      simp only
      cases Nat.beq id' id <;> rfl
  case region id ops b =>
    cases b with
    | false =>
      have hl : ∀ j : Nat, ops.toList[j]? = ops[0 + j]? := fun j => by simp
      obtain ⟨a, x⟩ := eoF_ok hc he ops.toList 0 s hl h
      rw [Array.length_toList] at a
      exact ⟨SC.region (by rw [List.range_eq_range']; exact a), fun c' q => (by cases q), x⟩
    | true =>
      obtain ⟨a, x⟩ := drMix_ok (id := id) hc he h
      exact ⟨a, fun c' q => (by cases q), x⟩
  all_goals exact old h

/-! ### What is known of some calls, and the rest by the evaluator itself -/
noncomputable def callT (tab : FuncId → List Value → Hp → Option (En × Hp)) (P : Program) (ev : EvFn) (f : FuncId) (args : List Value) (H : Hp) : Option (En × Hp) :=
  match tab f args H with
  | some r => some r
  | none => caF P ev f args H
noncomputable def evCT (P : Program) (tab : CallFn) (n : Nat) : EvFn := Nat.rec (motive := fun _ => EvFn) (fun _ _ => none) (fun _ ev c s => stepF P (callT tab P ev) ev c s) n
theorem callT_ok {P : Program} {tab : CallFn} (ht : CallOk P tab) {ev : EvFn} (he : EvOk P ev) : CallOk P (callT tab P ev) := by
  intro f args H en H' h
  unfold callT at h
  split at h
  · rename_i r hr; cases h; exact ht _ _ _ _ _ hr
  · rw [caF_eq] at h; exact callE_ok he _ _ _ _ _ h
theorem evCT_ok {P : Program} {tab : CallFn} (ht : CallOk P tab) : ∀ n, EvOk P (evCT P tab n)
  | 0 => fun c s e s' h => by cases h
  | n + 1 => stepF_ok (callT_ok ht (evCT_ok ht n)) (evCT_ok ht n)
def noTab : CallFn := fun _ _ _ => none
theorem noTab_ok {P : Program} : CallOk P noTab := fun _ _ _ _ _ h => by cases h
def oneR : Option (En × Hp) → Option En
  | some (e, _) => some e
  | none => none
theorem SCall.closed4 {P : Program} {tab : CallFn} (ht : CallOk P tab) {f : FuncId} {args : List Value} {v : Value} (n : Nat) (hf : seatFlat = true) (hs : (seatCells.all fun p => Nat.blt p.1 P.globals.size) = true)
    (h : oneR (caF P (evCT P tab n) f args (HG P.globals.size)) = some (.ret v)) (ha : flats args = true) (hv : flat v = true) (H : Hp) :
    SCall P f args H (Ret fun v' H' => H' = H ∧ v' = v) := by
  rw [caF_eq] at h
  cases q : callE P (evCT P tab n) f args (HG P.globals.size) with
  | none => rw [q] at h; cases h
  | some p =>
    obtain ⟨en, H'⟩ := p
    rw [q] at h
    simp only [oneR, Option.some.injEq] at h
    subst h
    exact SCall.closedG hf hs ((callE_ok (evCT_ok ht n) _ _ _ _ _ q).1.mono fun e _ k => k.1) ha hv H
end Go.Det.Fast
