import Derived.Test.YtmkcobpgmcfbkaaGreatDoorD52
set_option linter.unusedSimpArgs false
set_option linter.unusedVariables false
namespace Go.Det
open Go Go.RowKit
structure TR (R : Ren) (x x' : Array Value) : Prop where
  size : x.size = x'.size
  get : ∀ (t : Nat) (v : Value), x[t]? = some v → v.cells ≠ #[] → ∃ v', x'[t]? = some v' ∧ VR R v v'
def fillT (x : Array Value) (pa : List (Tmp × Value)) : Array Value := pa.foldl (fun tmps (t, a) => tmps.setIfInBounds t a) x
theorem TR.set {R : Ren} {x x' : Array Value} (h : TR R x x') (t : Nat) {v v' : Value} (hv : VR R v v') : TR R (x.setIfInBounds t v) (x'.setIfInBounds t v') := by
  refine ⟨by simp [h.size], fun u w e hc => ?_⟩
  rw [Array.getElem?_setIfInBounds] at e ⊢
  by_cases q : t = u
  · subst q
    rw [if_pos rfl] at e ⊢
    split at e
    · rename_i hl; cases e; rw [if_pos (by rw [← h.size]; exact hl)]; exact ⟨_, rfl, hv⟩
    · cases e
  · rw [if_neg q] at e ⊢
    exact h.get u w e hc
theorem TR.fill {R : Ren} : ∀ {ps : List Tmp} {vs vs' : List Value} {x x' : Array Value}, VRs R vs vs' → TR R x x' → TR R (fillT x (ps.zip vs)) (fillT x' (ps.zip vs'))
  | [], vs, vs', x, x', hv, h => by simpa [fillT] using h
  | p :: ps, [], vs', x, x', hv, h => by cases hv; simpa [fillT] using h
  | p :: ps, v :: vs, _, x, x', hv, h => by
    cases hv with
    | cons h1 h2 =>
      simp only [fillT, List.zip_cons_cons, List.foldl_cons]
      exact TR.fill h2 (h.set p h1)
theorem TR.mono {R R' : Ren} (hR : R.le R') {x x' : Array Value} (h : TR R x x') : TR R' x x' :=
  ⟨h.size, fun t v e hc => by obtain ⟨v', a, b⟩ := h.get t v e hc; exact ⟨v', a, b.mono hR⟩⟩
theorem zip_toList (x : Array Value) (ps : Array Tmp) (vs : List Value) : ((ps.zip (⟨vs⟩ : Array Value)).foldl (fun tmps (t, a) => tmps.setIfInBounds t a) (x : Array Value)) = fillT x (ps.toList.zip vs) := by
  unfold fillT
  rw [← Array.foldl_toList, Array.toList_zip]
def roundSt (rec : Loop) (args : List Value) (H : Hp) : St :=
  { env := fun t => match (fillT rec.tmps (rec.params.toList.zip args))[t]? with | some v => if v.cells = #[] then none else some v | none => none, n := rec.tmps.size, H := H, defs := [], dok := false }
theorem roundSt_ok {R : Ren} {rec : Loop} {args args' : List Value} {H : Hp} {x' : Array Value} (h : TR R rec.tmps x') (hv : VRs R args args') : StR R (roundSt rec args H) { tmps := fillT x' (rec.params.toList.zip args'), defers := [] } := by
  have hf := TR.fill (ps := rec.params.toList) hv h
  have hs : (fillT rec.tmps (rec.params.toList.zip args)).size = rec.tmps.size := by
    have : ∀ (pa : List (Tmp × Value)) (x : Array Value), (fillT x pa).size = x.size := by
      intro pa
      induction pa with
      | nil => intro x; rfl
      | cons p pa ih => intro x; simp only [fillT, List.foldl_cons] at ih ⊢; rw [ih]; simp
    exact this _ _
  refine ⟨by show _ = rec.tmps.size; rw [← hs, hf.size], fun t v e => ?_, .nil⟩
  simp only [roundSt] at e
  split at e
  · rename_i u hu
    split at e
    · cases e
    · rename_i hc; cases e
      obtain ⟨v', h1, h2⟩ := hf.get t v hu hc
      refine ⟨?_, ?_⟩
      · show t < rec.tmps.size
        rw [← hs]; exact (Array.getElem?_eq_some_iff.1 hu).1
      · show VR R v ((fillT x' (rec.params.toList.zip args')).getD t undef)
        rw [Array.getD_eq_getD_getElem?, h1]; exact h2
  · cases e
theorem LoopR.tr {R : Ren} {l l' : Loop} (h : LoopR R l l') : TR R l.tmps l'.tmps := ⟨h.size, h.tmps⟩
section rules
variable {P : Program} {Q : Ex → St → Prop} {st : St} {ops : Array Oper} {i : Nat} {is : List Nat} {o : Oper}
def endR (l : Nat) (K : Bool → Hp → Prop) : Ex → St → Prop
  | .normal, s => ∃ r, s.H.get l = some (.loop r) ∧ K true (s.H.put l (.loop { r with state := .ready, pending := none }))
  | .ret, s => ∃ r, s.H.get l = some (.loop r) ∧ K false (s.H.put l (.loop { r with state := .done, pending := some .ret }))
  | .exit id, s => ∃ r, s.H.get l = some (.loop r) ∧ K false (s.H.put l (.loop { r with state := .done, pending := some (.exit id) }))
  | .panic _, _ => False
def beginR (P : Program) (l : Nat) (body : Code) (K : Bool → Hp → Prop) : Ex → St → Prop
  | .normal, s => ∃ r, s.H.get l = some (.loop r) ∧ r.state = .ready ∧ SC P body (endR l K) (s.at_ (s.H.put l (.loop { r with state := .busy })))
  | _, _ => False
theorem Rel.loopBlk {X : Cx} {w : World} {R : Ren} {H : Hp} (h : Rel X R H w) {l : Nat} {r : Loop} (hl : H.get l = some (.loop r)) : ∃ i r', R l = some i ∧ i.own = true ∧ X.B ≤ i.blk ∧ w.heap[i.blk]? = some (.loop r') ∧ LoopR R r r' := by
  obtain ⟨i, hi, br⟩ := h.blk l _ hl
  cases br with
  | loop _ r' ho hb hw hlr => exact ⟨i, r', hi, ho, hb, hw, hlr⟩
theorem Rel.putLoop {X : Cx} {w : World} {R : Ren} {H : Hp} (h : Rel X R H w) {l : Nat} {r r' : Loop} {i : RI} (hl : H.get l = some (.loop r)) (hi : R l = some i) (ho : i.own = true) (hb : X.B ≤ i.blk) (hw : w.heap[i.blk]? = some (.loop r')) (hlr : LoopR R r r') (s : LoopState) (p : Option Code) :
    Rel X R (H.put l (.loop { r with state := s, pending := p })) (w.putObj i.blk (.loop { r' with state := s, pending := p })) :=
  h.putObj hl hi ho hb _ (.loop _ { r' with state := s, pending := p } ho hb (World.putObj_heap_same (Array.getElem?_eq_some_iff.1 hw).1) ⟨rfl, rfl, hlr.params, hlr.assign, hlr.body, hlr.size, hlr.tmps⟩)
theorem SL.yield {l : Nat} {args : List Value} {rec : Loop} {K : Bool → Hp → Prop} (ho : ops[i]? = some o) (hg : gd ops st o = some true) (hd : notDefer o.op = true) (he : opD P st.H (evOf P st) o = some (.yield l args)) (hf : st.fits o.dst) (hH : st.H.get l = some (.loop rec)) (hn : args.length = rec.params.size)
    (hK : ∀ b H', K b H' → SL P ops is Q ((st.at_ H').put o.dst (.bool b)))
    (h : SC P rec.assign (beginR P l rec.body K) (roundSt rec args st.H)) : SL P ops (i :: is) Q st := by
  obtain ⟨ex1, s1, q1, k1⟩ := h
  cases ex1 with
  | exit id => exact q1.elim
  | ret => exact q1.elim
  | panic v => exact q1.elim
  | normal =>
    obtain ⟨r1, hl1, hr1, ex2, s2, q2, k2⟩ := q1
    -- the round, as the machine runs it
    have key : ∀ (b2 : Bool) (st2 : LoopState) (p2 : Option Code) (r2 : Loop), s2.H.get l = some (.loop r2) → (∀ (X : Cx) (R : Ren) (a : Act) (w : World) (i : RI) (fn : FuncId) (c : Frame) (cs : List Frame) (ex2' : Ex) (r2' : Loop), ExR R ex2 ex2' → w.heap[i.blk]? = some (.loop r2') →
          Arr P (lone (fr { (default : Frame) with fn := fn, kind := .normal, roundOf := some i.blk } a [.code rec.body]) (c :: cs) w) { (default : Frame) with fn := fn, kind := .normal, roundOf := some i.blk } [] (c :: cs) ex2' a w → True) →
        (∀ (l' : Nat) (r2' : Loop) (w : World) (fn : FuncId) (a2 : Act) (ex2' : Ex) (R : Ren) (m : Machine) (c : Frame) (cs : List Frame), ExR R ex2 ex2' → w.heap[l']? = some (.loop r2') →
          Arr P m { (default : Frame) with fn := fn, kind := .normal, roundOf := some l' } [] (c :: cs) ex2' a2 w → Steps P m (lone (c.finish (.bool b2)) cs (w.putObj l' (.loop { r2' with state := st2, pending := p2 })))) →
        SL P ops is Q ((st.at_ (s2.H.put l (.loop { r2 with state := st2, pending := p2 }))).put o.dst (.bool b2)) → SL P ops (i :: is) Q st := by
      intro b2 st2 p2 r2 hl2 _ hend hk
      obtain ⟨ex, s', q, k⟩ := hk
      refine ⟨ex, s', q, fun X R a w hG hR hS hM b K cs hb => ?_⟩
      have hres := opD_ok hR (evOf_ok hG hR hS) he
      have hw := gd_ok hS hg
      generalize hrun : (execOp a.eval o).run P w = res at hres
      obtain ⟨i0, rl, hi0, ho0, hb0, hw0, hlr0⟩ := hR.loopBlk hH
      have hyield : ∃ args', VRs R args args' ∧ (execOp a.eval o).run P w = (Instr.yield i0.blk ⟨args'⟩).run P w := by
        cases hres with
        | yield hl hown hv hs => rw [hi0] at hl; cases hl; exact ⟨_, hv, by rw [hrun, hs]⟩
      obtain ⟨args', hv, hrun'⟩ := hyield
      have hn' : (⟨args'⟩ : Array Value).size = rl.params.size := by
        rw [hlr0.params, ← hn]; exact hv.length
      rw [run_yield hw0 hn', zip_toList] at hrun'
      rw [hlr0.params, hlr0.assign, hlr0.body] at hrun'
      have henter : Go.step P (lone (fr b a (.inRegion ops (i :: is) :: K)) cs w) = .next (lone (Frame.round i0.blk rl.fn (fillT rl.tmps (rec.params.toList.zip args')) rec.assign rec.body .normal) (fr b a (.inRegion ops (i :: is) :: K) :: cs) w) := by
        refine step_lone_go ?_
        rw [s_op ho hw (.inr (notDefer_ok hd))]; simp [stepG.apply, hrun', fr]
      have hround : Frame.round i0.blk rl.fn (fillT rl.tmps (rec.params.toList.zip args')) rec.assign rec.body .normal = fr { (default : Frame) with fn := rl.fn, kind := .normal, roundOf := some i0.blk } { tmps := fillT rl.tmps (rec.params.toList.zip args'), defers := [] } [.code rec.assign, .beginRound, .code rec.body] := by
        simp [Frame.round, fr]
      rw [hround] at henter
      obtain ⟨X1, R1, a1, w1, ex1', x1, l1, r1R, t1, m1, e1, d1, A1⟩ := k1 X R { tmps := fillT rl.tmps (rec.params.toList.zip args'), defers := [] } w hG hR (roundSt_ok hlr0.tr hv) MK.init { (default : Frame) with fn := rl.fn, kind := .normal, roundOf := some i0.blk } [.beginRound, .code rec.body] (fr b a (.inRegion ops (i :: is) :: K) :: cs) (fun q => by cases q)
      cases e1
      have hX1 := x1.le.B
      obtain ⟨i1, rl1, hi1, ho1, hb1, hw1, hlr1⟩ := r1R.loopBlk hl1
      have : i1 = i0 := by have := l1 _ _ hi0; rw [this] at hi1; exact (Option.some.inj hi1).symm
      subst this
      have hbeg : Go.step P (lone (fr { (default : Frame) with fn := rl.fn, kind := .normal, roundOf := some i1.blk } a1 (.beginRound :: [.code rec.body])) (fr b a (.inRegion ops (i :: is) :: K) :: cs) w1) = .next (lone (fr { (default : Frame) with fn := rl.fn, kind := .normal, roundOf := some i1.blk } a1 [.code rec.body]) (fr b a (.inRegion ops (i :: is) :: K) :: cs) (w1.putObj i1.blk (.loop { rl1 with state := .busy }))) :=
        stepR_beginRound (b := { (default : Frame) with fn := rl.fn, kind := .normal, roundOf := some i1.blk }) (a := a1) (k := [.code rec.body]) rfl (run_beginRound hw1 (hlr1.state.trans hr1))
      have hR1b := r1R.putLoop hl1 hi1 ho1 hb1 hw1 hlr1 .busy r1.pending
      have hbusy : ({ rl1 with state := .busy, pending := r1.pending } : Loop) = { rl1 with state := .busy } := by rw [← hlr1.pending]
      rw [hbusy] at hR1b
      have hS1 : StR R1 (s1.at_ (s1.H.put l (.loop { r1 with state := .busy }))) a1 := ⟨t1.size, t1.env, t1.defs⟩
      obtain ⟨X2, R2, a2, w2, ex2', x2, l2, r2R, t2, m2, e2, d2, A2⟩ := k2 X1 R1 a1 _ (x1.gx hG) hR1b hS1 m1 { (default : Frame) with fn := rl.fn, kind := .normal, roundOf := some i1.blk } [] (fr b a (.inRegion ops (i :: is) :: K) :: cs) (fun q => by rw [show (s1.at_ (s1.H.put l (.loop { r1 with state := .busy }))).dok = s1.dok from rfl, d1] at q; cases q)
      obtain ⟨i2, rl2, hi2, ho2, hb2, hw2, hlr2⟩ := r2R.loopBlk hl2
      have : i2 = i1 := by have := l2 _ _ hi1; rw [this] at hi2; exact (Option.some.inj hi2).symm
      subst this
      have hfin := hend i2.blk rl2 w2 rl.fn a2 ex2' R2 _ _ _ e2 hw2 A2
      have hcf : (fr b a (.inRegion ops (i :: is) :: K)).finish (.bool b2) = fr b (a.put o.dst (.bool b2)) (.inRegion ops is :: K) := by rw [fr_finish, ho]; rfl
      rw [hcf] at hfin
      have hR2 := r2R.putLoop hl2 hi2 ho2 hb2 hw2 hlr2 st2 p2
      obtain ⟨p1, p2', p3, p4⟩ := put_facts (st.at_ (s2.H.put l (.loop { r2 with state := st2, pending := p2 }))) o.dst (.bool b2)
      have hle : X.le X2 := x1.le.trans x2.le
      have hS2 : StR R2 ((st.at_ (s2.H.put l (.loop { r2 with state := st2, pending := p2 }))).put o.dst (.bool b2)) (a.put o.dst (.bool b2)) :=
        StR.put (st := st.at_ (s2.H.put l (.loop { r2 with state := st2, pending := p2 }))) ⟨hS.size, (hS.mono (Ren.le_trans l1 l2)).env, (hS.mono (Ren.le_trans l1 l2)).defs⟩ hf (.bool b2)
      obtain ⟨X3, R3, a3, w3, ex3, x3, l3, r3, t3, m3, e3, d3, A3⟩ := k X2 R2 (a.put o.dst (.bool b2)) _ (hle.gx hG) (by rw [p2']; exact hR2) hS2 ⟨by rw [put_defers]; exact fun m q => hle.kept _ _ (hM.kept m q), by rw [put_defers]; exact hM.nodup⟩ b K cs (by rw [p1]; exact hb)
      refine ⟨X3, R3, a3, w3, ex3, ⟨hle.trans x3.le, fun m q => ?_⟩, Ren.le_trans l1 (Ren.le_trans l2 l3), r3, t3, m3, e3, d3.trans p1, .of_steps (.head henter (Steps.trans A1 (.head hbeg hfin))) A3⟩
      rcases x3.new m q with r | r
      · left; rw [put_defers] at r; exact r
      · right
        cases e : X.kept m with
        | none => rfl
        | some o => have := hle.kept m o e; rw [r] at this; cases this
    cases ex2 with
    | normal =>
      obtain ⟨r2, hl2, hq⟩ := q2
      refine key true .ready none r2 hl2 (fun _ _ _ _ _ _ _ _ _ _ _ _ _ => trivial) ?_ (hK _ _ hq)
      intro l' r2' w fn a2 ex2' R m c cs e hw A
      cases e
      exact Steps.trans A (.one (stepR_round_end (b := { (default : Frame) with fn := fn, kind := .normal, roundOf := some l' }) (a := a2) rfl rfl (run_endRound none hw)))
    | ret =>
      obtain ⟨r2, hl2, hq⟩ := q2
      refine key false .done (some .ret) r2 hl2 (fun _ _ _ _ _ _ _ _ _ _ _ _ _ => trivial) ?_ (hK _ _ hq)
      intro l' r2' w fn a2 ex2' R m c cs e hw A
      cases e
      obtain ⟨J, hJ⟩ := A
      exact Steps.trans hJ (.one (stepR_round_ret (b := { (default : Frame) with fn := fn, kind := .normal, roundOf := some l' }) (a := a2) rfl rfl (run_endRound (some .ret) hw)))
    | exit id =>
      obtain ⟨r2, hl2, hq⟩ := q2
      refine key false .done (some (.exit id)) r2 hl2 (fun _ _ _ _ _ _ _ _ _ _ _ _ _ => trivial) ?_ (hK _ _ hq)
      intro l' r2' w fn a2 ex2' R m c cs e hw A
      cases e
      obtain ⟨J, hJ, hs⟩ := A
      exact Steps.trans hs (.one (stepR_round_exit (b := { (default : Frame) with fn := fn, kind := .normal, roundOf := some l' }) (a := a2) rfl rfl (by rw [hJ]; rfl) (run_endRound (some (.exit id)) hw)))
    | panic v => exact q2.elim
theorem SC.rangeFunc {g : Operand} {ps : Array Tmp} {assign body : Code} {f : FuncId} {first caps : List Value} {T : List Value} {r0 : Res} (hg : evOf P st g = some (.func (.func f) ⟨first⟩ ⟨caps⟩)) (he : enterD P f [] = some r0) (hdok : st.dok = true) (hT : T.length = st.n) (hTv : ∀ (t : Nat) (v : Value), T[t]? = some v → v.cells ≠ #[] → st.env t = some v)
    (h : SCall P f (first ++ [.func (.yield st.H.next) ⟨[]⟩ ⟨[]⟩] ++ caps) (st.H.alloc (.loop { state := .ready, pending := none, fn := 0, tmps := ⟨T⟩, params := ps, assign := assign, body := body, defers := 0 })) fun
      | .ret _, H2 => ∃ (r : Loop) (p : Option Code), H2.get st.H.next = some (.loop r) ∧ r.state ≠ .busy ∧ r.pending = p ∧ (match p with
        | none => Q .normal (st.at_ (H2.put st.H.next (.loop { r with state := .exhausted })))
        | some c => SC P c Q (st.at_ (H2.put st.H.next (.loop { r with state := .exhausted }))))
      | .panic v, H2 => Q (.panic v) (st.at_ H2)) : SC P (.rangeFunc g ps assign body) Q st := by
  obtain ⟨en, H2, q, k⟩ := h
  -- what the machine does up to the function's end
  have key : ∀ (X : Cx) (R : Ren) (a : Act) (w : World), GX P X → Rel X R st.H w → StR R st a → MK X a → ∀ (b : Frame) (K : List Item) (cs : List Frame), (st.dok = true → b.roundOf = none) →
      ∃ (X1 : Cx) (R1 : Ren) (a1 : Act) (w1 : World) (en' : En) (f' : Frame) (l : Nat), Grow X a X1 a1 ∧ MK X1 a1 ∧ R.le R1 ∧ Rel X1 R1 H2 w1 ∧ StR R1 (st.at_ H2) a1 ∧ EnR R1 en en' ∧ R1 st.H.next = some ⟨l, 0, 1, 0, true⟩ ∧
        Steps P (lone (fr b a (.code (.rangeFunc g ps assign body) :: K)) cs w) (lone f' (fr b a1 (.inRangeFunc l :: K) :: cs) w1) ∧ f'.leaving P w1 (match en' with | .ret v => .returned v | .panic v => .panicked [{ v, recovered := false }]) := by
    intro X R a w hG hR hS hM b K cs hb
    have hro := hb hdok
    have hsz : X.kept w.heap.size = none := by
      cases q : X.kept w.heap.size with
      | none => rfl
      | some o => have := (hR.kept _ _ q).2.1; rw [Array.getElem?_eq_none (Nat.le_refl _)] at this; cases this
    have hR1 := hR.garbage (.deferred (some []))
    have hgv := evOf_ok hG hR hS g _ hg
    generalize hgg : a.eval g = gv at hgv
    cases hgv with
    | func hfn hx hy =>
      cases hfn
      rename_i first' caps'
      let i : RI := ⟨(w.alloc (.deferred (some []))).heap.size, 0, 1, 0, true⟩
      have hle : R.le (R.add st.H.next i) := Ren.le_add i (hR.free _ (Nat.le_refl _))
      have htr : LoopR (R.add st.H.next i) { state := .ready, pending := none, fn := 0, tmps := ⟨T⟩, params := ps, assign := assign, body := body, defers := 0 } { state := .ready, pending := none, fn := b.fn, tmps := a.tmps, params := ps, assign := assign, body := body, defers := w.heap.size } := by
        refine ⟨rfl, rfl, rfl, rfl, rfl, by show T.length = a.tmps.size; rw [hT, hS.size], fun t v e hc => ?_⟩
        have e' : T[t]? = some v := by simpa using e
        obtain ⟨h1, h2⟩ := hS.env t v (hTv t v e' hc)
        have hlt : t < a.tmps.size := by rw [hS.size]; exact h1
        refine ⟨a.tmps[t], Array.getElem?_eq_getElem hlt, ?_⟩
        rw [Array.getD_eq_getD_getElem?, Array.getElem?_eq_getElem hlt] at h2
        exact h2.mono hle
      have hR2 := hR1.alloc (.loop { state := .ready, pending := none, fn := 0, tmps := ⟨T⟩, params := ps, assign := assign, body := body, defers := 0 }) (.loop { state := .ready, pending := none, fn := b.fn, tmps := a.tmps, params := ps, assign := assign, body := body, defers := w.heap.size }) i rfl rfl
        (.loop _ _ rfl hR1.size (heap_alloc_new _ _) htr)
      have hgx : Grow X a (X.keep fun k => if k = w.heap.size then some (.deferred (some [])) else X.kept k) { a with defers := { target := .collected w.heap.size, args := #[] } :: a.defers } := by
        refine ⟨⟨rfl, rfl, rfl, fun k o e => ?_⟩, fun m q => ?_⟩
        · show (if k = w.heap.size then _ else X.kept k) = _
          rw [if_neg (fun q => by rw [q, hsz] at e; cases e)]; exact e
        · simp only [marks, List.mem_cons] at q
          rcases q with rfl | q
          · exact .inr hsz
          · exact .inl q
      have hmk : MK (X.keep fun k => if k = w.heap.size then some (.deferred (some [])) else X.kept k) { a with defers := { target := .collected w.heap.size, args := #[] } :: a.defers } := by
        refine ⟨fun m q => ?_, ?_⟩
        · simp only [marks, List.mem_cons] at q
          rcases q with rfl | q
          · show (if w.heap.size = w.heap.size then _ else _) = _
            rw [if_pos rfl]
          · exact hgx.le.kept _ _ (hM.kept m q)
        · simp only [marks, List.nodup_cons]
          exact ⟨fun q => (by have := hM.kept _ q; rw [hsz] at this; cases this), hM.nodup⟩
      have hsz1 : (w.alloc (.deferred (some []))).heap.size = w.heap.size + 1 := World.size_alloc ..
      have henter : (Instr.enterLoop b.fn a.tmps ps assign body none).run P w = .ok ((w.alloc (.deferred (some []))).heap.size, [{ target := .collected w.heap.size, args := #[] }]) ((w.alloc (.deferred (some []))).alloc (.loop { state := .ready, pending := none, fn := b.fn, tmps := a.tmps, params := ps, assign := assign, body := body, defers := w.heap.size })) := by
        rw [hsz1]; exact run_enterLoop_outer (P := P) (w := w) b.fn a.tmps ps assign body
      have hres : (resolve a.eval (rangeCall g ((w.alloc (.deferred (some []))).heap.size)) 0).run P ((w.alloc (.deferred (some []))).alloc (.loop { state := .ready, pending := none, fn := b.fn, tmps := a.tmps, params := ps, assign := assign, body := body, defers := w.heap.size })) = .ok { target := .fn (.func f) ⟨caps'⟩, args := ⟨first'⟩ ++ #[.func (.yield (w.alloc (.deferred (some []))).heap.size) #[] #[]] } ((w.alloc (.deferred (some []))).alloc (.loop { state := .ready, pending := none, fn := b.fn, tmps := a.tmps, params := ps, assign := assign, body := body, defers := w.heap.size })) := by
        have hc : (#[Operand.const (.func (.yield (w.alloc (.deferred (some []))).heap.size) #[] #[])] : Array Operand).map a.eval = #[.func (.yield (w.alloc (.deferred (some []))).heap.size) #[] #[]] := by simp [Act.eval]
        simp only [resolve, rangeCall, hgg, Deferred.ofValue, hc]
        rfl
      have hargs : VRs (R.add st.H.next i) (first ++ [.func (.yield st.H.next) ⟨[]⟩ ⟨[]⟩] ++ caps) (first' ++ [.func (.yield (w.alloc (.deferred (some []))).heap.size) ⟨[]⟩ ⟨[]⟩] ++ caps') :=
        ((hx.mono hle).append (.one (.func (.yield _ i (Ren.add_same _ _ _) rfl) .nil .nil))).append (hy.mono hle)
      have hinv : (invoke (.fn (.func f) ⟨caps'⟩) (⟨first'⟩ ++ #[.func (.yield (w.alloc (.deferred (some []))).heap.size) #[] #[]])).run P ((w.alloc (.deferred (some []))).alloc (.loop { state := .ready, pending := none, fn := b.fn, tmps := a.tmps, params := ps, assign := assign, body := body, defers := w.heap.size })) = .ok (.enter f ⟨first' ++ [.func (.yield (w.alloc (.deferred (some []))).heap.size) ⟨[]⟩ ⟨[]⟩] ++ caps'⟩) ((w.alloc (.deferred (some []))).alloc (.loop { state := .ready, pending := none, fn := b.fn, tmps := a.tmps, params := ps, assign := assign, body := body, defers := w.heap.size })) := by
        have e1 := enterD_any he (first ++ [.func (.yield st.H.next) ⟨[]⟩ ⟨[]⟩] ++ caps)
        have := enterD_ok (X := X.keep fun k => if k = w.heap.size then some (.deferred (some [])) else X.kept k) (H := st.H) (w := ((w.alloc (.deferred (some []))).alloc (.loop { state := .ready, pending := none, fn := b.fn, tmps := a.tmps, params := ps, assign := assign, body := body, defers := w.heap.size }))) e1 hargs
        simp only [invoke, aapp]
        generalize hr : Sem.run P (callFunc f _) _ = res at this ⊢
        cases this with
        | @enter _ _ args2 hv2 =>
          unfold callFunc at hr
          unfold enterD at he
          split at he
          · rename_i fn hf
            split at he
            · cases he
            · rename_i hc
              simp only [Bool.or_eq_true, not_or, Bool.not_eq_true] at hc
              simp only [Sem.run_bind, run_program, Result.andThen_ok, hf, hc.1, hc.2, Bool.false_eq_true, if_false] at hr
              exact hr.symm
          · cases he
      have hstep := stepR_rangeFunc (P := P) (b := b) (a := a) (k := K) (cs := cs) (w := w) (g := g) (ps := ps) (assign := assign) (body := body) (by rw [hro]; exact henter) hres hinv
      obtain ⟨R2, w2, en', f', l2, r2, e2, hfn, hsteps, hleave⟩ := k _ (R.add st.H.next i) _ _ (hgx.gx hG) hR2 hargs (fr b { a with defers := { target := .collected w.heap.size, args := #[] } :: a.defers } (.inRangeFunc (w.alloc (.deferred (some []))).heap.size :: K) :: cs)
      refine ⟨_, R2, _, w2, en', f', (w.alloc (.deferred (some []))).heap.size, hgx, hmk, Ren.le_trans hle l2, r2, ⟨hS.size, (hS.mono (Ren.le_trans hle l2)).env, .mark _ (hS.mono (Ren.le_trans hle l2)).defs⟩, e2, l2 _ _ (Ren.add_same _ _ _), .head ?_ hsteps, hleave⟩
      exact hstep
  cases en with
  | panic v =>
    refine ⟨.panic v, st.at_ H2, q, fun X R a w hG hR hS hM b K cs hb => ?_⟩
    obtain ⟨X1, R1, a1, w1, en', f', l, hgr, hmk, l1, r1, t1, e1, hl, hst, hlv⟩ := key X R a w hG hR hS hM b K cs hb
    cases e1 with
    | panic hv =>
      exact ⟨X1, R1, a1, w1, _, hgr, l1, r1, t1, hmk, .panic hv, rfl, .inRangeFunc l :: K, hst.trans (.one (step_leave_panicked hlv))⟩
  | ret v =>
    obtain ⟨r, p, hget, hnb, hp, hq⟩ := q
    have fin : ∀ {ex : Ex} {s' : St}, (∀ (X : Cx) (R : Ren) (a : Act) (w : World) (jump : Option Code), GX P X → Rel X R (H2.put st.H.next (.loop { r with state := .exhausted })) w → StR R (st.at_ (H2.put st.H.next (.loop { r with state := .exhausted }))) a → MK X a → ∀ (b : Frame) (K : List Item) (cs : List Frame), (st.dok = true → b.roundOf = none) → jump = r.pending →
          ∃ (X' : Cx) (R' : Ren) (a' : Act) (w' : World) (ex' : Ex), Grow X a X' a' ∧ R.le R' ∧ Rel X' R' s'.H w' ∧ StR R' s' a' ∧ MK X' a' ∧ ExR R' ex ex' ∧ s'.dok = st.dok ∧ Arr P (lone (fr b a ((jump.map Item.code).toList ++ K)) cs w) b K cs ex' a' w') → Q ex s' → SC P (.rangeFunc g ps assign body) Q st := by
      intro ex s' hk hQ
      refine ⟨ex, s', hQ, fun X R a w hG hR hS hM b K cs hb => ?_⟩
      obtain ⟨X1, R1, a1, w1, en', f', l, hgr, hmk, l1, r1, t1, e1, hl, hst, hlv⟩ := key X R a w hG hR hS hM b K cs hb
      cases e1 with
      | ret hv =>
        rename_i v'
        obtain ⟨i, rl, hi, ho, hb', hw, hlr⟩ := r1.loopBlk hget
        rw [hl] at hi; cases hi
        have hR2 := r1.putLoop hget hl rfl hb' hw hlr .exhausted r.pending
        have he : ({ rl with state := .exhausted, pending := r.pending } : Loop) = { rl with state := .exhausted } := by rw [← hlr.pending]
        rw [he] at hR2
        obtain ⟨X2, R2, a2, w2, ex2, x2, l2, r2, t2, m2, e2, d2, A2⟩ := hk X1 R1 a1 _ rl.pending (hgr.gx hG) hR2 ⟨t1.size, t1.env, t1.defs⟩ hmk b K cs hb hlr.pending
        refine ⟨X2, R2, a2, w2, ex2, hgr.trans x2, Ren.le_trans l1 l2, r2, t2, m2, e2, d2, .of_steps (hst.trans (.head (step_leave_returned hlv) ?_)) A2⟩
        have hfin := finish_atR_inRangeFunc (b := b) (a := a1) (k := K) l v'
        have h1 := stepR_endRangeFunc (P := P) (b := b) (a := a1) (k := K) (cs := cs) (w := w1) (l := l) (run_endLoop hw (by rw [hlr.state]; exact hnb))
        refine .one ?_
        rw [show (fr b a1 (.inRangeFunc l :: K)).finish v' = fr b a1 (.endRangeFunc l :: K) from hfin]
        exact h1
    cases p with
    | none =>
      refine fin (ex := .normal) (fun X R a w jump hG hR hS hM b K cs hb hj => ?_) hq
      have hj := hj.trans hp
      subst hj
      exact ⟨X, R, a, w, .normal, Grow.refl X a, Ren.le_refl R, hR, hS, hM, .normal, rfl, .refl _ _⟩
    | some c =>
      obtain ⟨ex, s', hQ, kk⟩ := hq
      refine fin (ex := ex) (fun X R a w jump hG hR hS hM b K cs hb hj => ?_) hQ
      have hj := hj.trans hp
      subst hj
      exact kk X R a w hG hR hS hM b K cs hb
end rules
end Go.Det
