import Derived.Test.YtmkcobpgmcfbkaaGreatDoorD61
set_option linter.unusedSimpArgs false
set_option linter.unusedVariables false
namespace Go.Det
open Go Go.RowKit
abbrev EvFn := Code → ES → Option (Ex × ES)
def fillL : List Value → List (Tmp × Value) → List Value
  | x, [] => x
  | x, (t, a) :: r => fillL (x.set t a) r
theorem fillL_eq : ∀ (pa : List (Tmp × Value)) (x : List Value), (⟨fillL x pa⟩ : Array Value) = fillT ⟨x⟩ pa
  | [], x => rfl
  | (t, a) :: r, x => by
    rw [fillL, fillL_eq r]
    show fillT _ r = fillT ((⟨x⟩ : Array Value).setIfInBounds t a) r
    congr 1
    apply Array.ext'
    simp
def slotsT : List Value → Nat → T Value → T Value
  | [], _, t => t
  | v :: l, i, t => match v with
    | .agg ⟨[]⟩ => slotsT l (i + 1) t
    | v => slotsT l (i + 1) (t.set i (some v))
theorem cells_nil {v : Value} : v.cells = #[] ↔ v = .agg ⟨[]⟩ := by
  cases v <;> simp [Value.cells]
theorem slotsT_get : ∀ (l : List Value) (i : Nat) (t : T Value) (j : Nat), (∀ k, i ≤ k → t.get k = none) → (slotsT l i t).get j = if i ≤ j then (match l[j - i]? with | some v => if v.cells = #[] then none else some v | none => none) else t.get j
  | [], i, t, j, ht => by
    simp only [slotsT, List.getElem?_nil]
    by_cases h : i ≤ j
    · rw [if_pos h, ht j h]
    · rw [if_neg h]
  | v :: l, i, t, j, ht => by
    have step : ∀ t' : T Value, (∀ k, i + 1 ≤ k → t'.get k = none) → (∀ k, k < i → t'.get k = t.get k) → t'.get i = (if v.cells = #[] then none else some v) →
        (slotsT l (i + 1) t').get j = if i ≤ j then (match (v :: l)[j - i]? with | some v => if v.cells = #[] then none else some v | none => none) else t.get j := by
      intro t' h1 h2 h3
      rw [slotsT_get l (i + 1) t' j h1]
      by_cases h : j = i
      · subst h
        rw [if_neg (by omega), if_pos (Nat.le_refl _), h3]; simp
      · by_cases k : i ≤ j
        · rw [if_pos (by omega), if_pos k, show j - i = (j - (i + 1)) + 1 by omega]; simp
        · rw [if_neg (by omega), if_neg k, h2 j (by omega)]
    unfold slotsT
    split
    · refine step t (fun k hk => ht k (by omega)) (fun k _ => rfl) ?_
      rw [ht i (Nat.le_refl _), if_pos (cells_nil.2 rfl)]
    · rename_i h1
      have hc : v.cells ≠ #[] := fun h => h1 (cells_nil.1 h)
      refine step (t.set i (some v)) (fun k hk => ?_) (fun k hk => ?_) ?_
      · rw [T.get_set, if_neg (by omega)]; exact ht k (by omega)
      · rw [T.get_set, if_neg (by omega)]
      · rw [T.get_set, if_pos rfl, if_neg hc]
def rstate : LoopState → Nat
  | .ready => 0
  | .busy => 1
  | _ => 2
def roundE (ev : EvFn) (l : Nat) (args : List Value) (H : Hp) : Option (Bool × Hp) :=
  match H.get l with
  | some (.loop rec) =>
    match Nat.beq args.length rec.params.size with
    | false => none
    | true =>
      match (tforce (slotsT (fillL rec.tmps.toList (rec.params.toList.zip args)) 0 .nil) fun t => nforce rec.tmps.size fun n => ev rec.assign { t := t, n := n, H := H, defs := [], dok := false }) with
      | some (.normal, s1) =>
        match s1.H.get l with
        | some (.loop r1) =>
          match rstate r1.state with
          | 0 => match ev rec.body (s1.setH (s1.H.put l (.loop { r1 with state := .busy }))) with
            | some (.normal, s2) => match s2.H.get l with
              | some (.loop r2) => some (true, s2.H.put l (.loop { r2 with state := .ready, pending := none }))
              | _ => none
            | some (.ret, s2) => match s2.H.get l with
              | some (.loop r2) => some (false, s2.H.put l (.loop { r2 with state := .done, pending := some .ret }))
              | _ => none
            | some (.exit id, s2) => match s2.H.get l with
              | some (.loop r2) => some (false, s2.H.put l (.loop { r2 with state := .done, pending := some (.exit id) }))
              | _ => none
            | _ => none
          | _ => none
        | _ => none
      | _ => none
  | _ => none
def yieldE (P : Program) (ops : Array Oper) (i : Nat) (s : ES) : Option (Nat × List Value × Option Tmp) :=
  match ops[i]? with
  | none => none
  | some o =>
    match gdE ops s o with
    | some true =>
      match o.op with
      | .call c => match opD P s.H (evE P s) o with
        | some (.yield l args) => match putE s o.dst undef s.H with
          | some _ => some (l, args, o.dst)
          | none => none
        | _ => none
      | _ => none
    | _ => none
def evOps2 (P : Program) (ev : EvFn) (ops : Array Oper) : Nat → Nat → ES → Option (Ex × ES)
  | 0, _, s => some (.normal, s)
  | k + 1, i, s =>
    match doE P ops i s with
    | some (.val s') => evOps2 P ev ops k (i + 1) s'
    | some (.call f args d) =>
      match callE P ev f args s.H with
      | some (.ret v, H') => match putE s d v H' with
        | some s' => evOps2 P ev ops k (i + 1) s'
        | none => none
      | some (.panic v, H') => some (.panic v, { s with H := H' })
      | none => none
    | some (.panic v) => some (.panic v, s)
    | none => match yieldE P ops i s with
      | some (l, args, d) => match roundE ev l args s.H with
        | some (b, H') => match putE s d (.bool b) H' with
          | some s' => evOps2 P ev ops k (i + 1) s'
          | none => none
        | none => none
      | none => none
def allSlots (t : T Value) : Nat → Nat → List Value
  | 0, _ => []
  | n + 1, i => ((t.get i).getD (.agg ⟨[]⟩)) :: allSlots t n (i + 1)
theorem allSlots_length (t : T Value) : ∀ n i, (allSlots t n i).length = n
  | 0, _ => rfl
  | n + 1, i => by rw [allSlots, List.length_cons, allSlots_length t n]
theorem allSlots_get (t : T Value) : ∀ n i k v, (allSlots t n i)[k]? = some v → v = (t.get (i + k)).getD (.agg ⟨[]⟩)
  | 0, _, k, v, h => by simp [allSlots] at h
  | n + 1, i, 0, v, h => by simp [allSlots] at h; rw [← h]; rfl
  | n + 1, i, k + 1, v, h => by
    rw [allSlots, List.getElem?_cons_succ] at h
    rw [allSlots_get t n (i + 1) k v h, show i + 1 + k = i + (k + 1) by omega]
def rangeE (P : Program) (ev : EvFn) (g : Operand) (ps : Array Tmp) (assign body : Code) (s : ES) : Option (Ex × ES) :=
  match s.dok with
  | false => none
  | true =>
    match evE P s g with
    | some (.func (.func f) ⟨first⟩ ⟨caps⟩) =>
      match enterD P f [] with
      | none => none
      | some _ =>
        match (lforce (allSlots s.t s.n 0) fun sl => callE P ev f (first ++ [.func (.yield s.H.next) ⟨[]⟩ ⟨[]⟩] ++ caps) (s.H.alloc (.loop { state := .ready, pending := none, fn := 0, tmps := ⟨sl⟩, params := ps, assign := assign, body := body, defers := 0 }))) with
        | some (.panic v, H2) => some (.panic v, { s with H := H2 })
        | some (.ret _, H2) =>
          match H2.get s.H.next with
          | some (.loop r) =>
            match rstate r.state with
            | 1 => none
            | _ => match r.pending with
              | none => some (.normal, s.setH (H2.put s.H.next (.loop { r with state := .exhausted })))
              | some c => ev c (s.setH (H2.put s.H.next (.loop { r with state := .exhausted })))
          | _ => none
        | none => none
    | _ => none
inductive Tch where
  | no
  | one (b : Nat)
  | above (lo : Nat)
def Tch.ok : Tch → Nat → Bool
  | .no, _ => true
  | .one c, b => !Nat.beq b c
  | .above lo, b => Nat.blt b lo
def tchE (P : Program) (ops : Array Oper) (nx i : Nat) (s : ES) (lo : Nat) : Tch :=
  match ops[i]? with
  | none => .above 0
  | some o => match cls P o.op with
    | some .pure => .no
    | some .read => .no
    | _ => match o.op with
      | .store _ a _ => match blkOf (evE P s a) with
        | some b => .one b
        | none => .above 0
      | _ => match Nat.ble nx s.H.lo with
        | true => .above lo
        | false => .above 0
def addT (P : Program) (ops : Array Oper) (nx i : Nat) (s : ES) (T : List Nat) : Option (List Nat) :=
  match floating P ops (masks ops.toList []) i with
  | false => some T
  | true => match ops[i]? with
    | some o => match readBlk (evE P s) o.op with
      | some b => match Nat.blt b nx with
        | true => some (b :: T)
        | false => none
      | none => some T
    | none => some T
def addW (c i : Nat) (w : Tch) (W : List Tch) : List Tch := match Nat.blt i c with
  | true => w :: W
  | false => W
def evDrawT (P : Program) (ev : EvFn) (ops : Array Oper) (c nx : Nat) : Nat → Nat → ES → List Nat → List Tch → Option (ES × List Nat × List Tch)
  | 0, _, s, T, W => some (s, T, W)
  | k + 1, i, s, T, W =>
    match addT P ops nx i s T with
    | none => none
    | some T1 =>
      match doE P ops i s with
      | some (.val s') => evDrawT P ev ops c nx k (i + 1) s' T1 (addW c i (tchE P ops nx i s s'.H.lo) W)
      | some (.call f args d) =>
        match callE P ev f args s.H with
        | some (.ret v, H') => match putE s d v H' with
          | some s' => evDrawT P ev ops c nx k (i + 1) s' T1 (addW c i (tchE P ops nx i s s'.H.lo) W)
          | none => none
        | _ => none
      | _ => none
def cutOf (P : Program) (ops : Array Oper) : Nat :=
  (List.range ops.size).foldl (fun c i => match floating P ops (masks ops.toList []) i with
    | false => c
    | true => (List.range ops.size).foldl (fun c j => match floatPair P ops (masks ops.toList []) i j with
      | true => max c (max (i + 1) (j + 1))
      | false => c) c) 0
def drawT (P : Program) (ev : EvFn) (ops : Array Oper) (s : ES) : Option (Ex × ES) :=
  nforce (cutOf P ops) fun c =>
  match cutOk P ops c with
  | false => none
  | true => match evDrawT P ev ops c s.H.next ops.size 0 (s.setH { s.H with lo := s.H.next }) [] [] with
    | some (s', T, W) => match W.all fun w => T.all fun b => w.ok b with
      | true => some (.normal, s'.setH { s'.H with lo := min s.H.lo s'.H.lo })
      | false => none
    | none => none
def evStep2 (P : Program) (ev : EvFn) (c : Code) (s : ES) : Option (Ex × ES) :=
  match c with
  | .scope c => ev c s
  | .rangeFunc g ps assign body => rangeE P ev g ps assign body s
  | .region _ ops false => evOps2 P ev ops ops.size 0 s
  | .region id ops true => match evStep P ev (.region id ops true) s with
    | some r => some r
    | none => match P.follows .mixedOrders with
      | false => none
      | true => match okDraw P ops with
        | false => none
        | true => drawT P ev ops s
  | .skip => some (.normal, s)
  | .label _ => some (.normal, s)
  | .exit id => some (.exit id, s)
  | .ret => some (.ret, s)
  | .seq x y => match ev x s with
    | some (.normal, s') => ev y s'
    | r => r
  | .block id c => match ev c s with
    | some (.exit id', s') => match Nat.beq id' id with
      | true => some (.normal, s')
      | false => some (.exit id', s')
    | r => r
  | .cond c x y => match evE P s c with
    | some (.bool true) => ev x s
    | some (.bool false) => ev y s
    | _ => none
  | .loop c => match ev c s with
    | some (.normal, s') => ev (.loop c) s'
    | r => r
  | c => evStep P ev c s
section rules
variable {P : Program}
theorem yieldE_ok {ops : Array Oper} {i : Nat} {s : ES} {l : Nat} {args : List Value} {d : Option Tmp} (h : yieldE P ops i s = some (l, args, d)) :
    ∃ o, ops[i]? = some o ∧ gd ops s.st o = some true ∧ notDefer o.op = true ∧ opD P s.st.H (evOf P s.st) o = some (.yield l args) ∧ s.st.fits o.dst ∧ o.dst = d := by
  unfold yieldE at h
  split at h
  · cases h
  · rename_i o ho
    split at h
    · rename_i hg
      split at h
      · rename_i c hc
        split at h
        · rename_i l' args' he
          split at h
          · rename_i q hq
            cases h
            obtain ⟨h1, h2⟩ := putE_ok hq
            exact ⟨o, ho, by rw [gdE_eq]; exact hg, by rw [hc]; rfl, by rw [evE_eq]; exact he, h2, rfl⟩
          · cases h
        · cases h
      · cases h
    · cases h
theorem roundE_ok {ev : EvFn} (he : EvOk P ev) {l : Nat} {args : List Value} {H H' : Hp} {b : Bool} (h : roundE ev l args H = some (b, H')) :
    ∃ rec, H.get l = some (.loop rec) ∧ args.length = rec.params.size ∧ SC P rec.assign (beginR P l rec.body (fun b1 H1 => b1 = b ∧ H1 = H')) (roundSt rec args H) ∧ LoX H H' := by
  unfold roundE at h
  simp only [tforce_eq, nforce_eq, ES.setH_eq] at h
  split at h
  · rename_i rec hl
    split at h
    · cases h
    · rename_i hn
      refine ⟨rec, hl, Nat.eq_of_beq_eq_true hn, ?_⟩
      generalize hs0 : (({ t := slotsT (fillL rec.tmps.toList (rec.params.toList.zip args)) 0 .nil, n := rec.tmps.size, H := H, defs := [], dok := false } : ES)) = s0 at h
      have e0 : s0.st = roundSt rec args H ∧ s0.H = H := by
        subst hs0
        refine ⟨?_, rfl⟩
        simp only [ES.st, roundSt]
        congr 1
        funext t
        rw [slotsT_get _ 0 .nil t (fun k _ => rfl), if_pos (Nat.zero_le _)]
        have := fillL_eq (rec.params.toList.zip args) rec.tmps.toList
        have e1 : (⟨rec.tmps.toList⟩ : Array Value) = rec.tmps := by simp
        rw [e1] at this
        rw [← this]
        simp only [List.getElem?_toArray, Nat.sub_zero]
        generalize (fillL rec.tmps.toList (rec.params.toList.zip args))[t]? = q
        cases q <;> rfl
      split at h
      · rename_i s1 h1
        obtain ⟨a1, _, x1⟩ := he _ _ _ _ h1
        rw [e0.2] at x1
        split at h
        · rename_i r1 hr1
          split at h
          · rename_i hst
            have hst : r1.state = .ready := by
              cases q : r1.state <;> rw [q] at hst <;> first | rfl | cases hst
            have fin : ∀ (e2 : Ex) (s2 : ES), ev rec.body { s1 with H := s1.H.put l (.loop { r1 with state := .busy }) } = some (e2, s2) → endR l (fun b1 H1 => b1 = b ∧ H1 = H') e2 s2.st →
                (∃ y, H' = s2.H.put l y) → SC P rec.assign (beginR P l rec.body (fun b1 H1 => b1 = b ∧ H1 = H')) (roundSt rec args H) ∧ LoX H H' := by
              intro e2 s2 h2 hend hput
              obtain ⟨a2, _, x2⟩ := he _ _ _ _ h2
              refine ⟨?_, ?_⟩
              · rw [← e0.1]
                refine SI.mono a1 fun e t q => ?_
                obtain ⟨q1, q2⟩ := q; subst q1 q2
                refine ⟨r1, hr1, hst, ?_⟩
                refine SI.mono a2 fun e t q => ?_
                obtain ⟨q1, q2⟩ := q; subst q1 q2
                exact hend
              · obtain ⟨y, rfl⟩ := hput
                exact x1.trans ((LoX.put _ _ _).trans (x2.trans (LoX.put _ _ _)))
            split at h
            · rename_i s2 h2
              split at h
              · rename_i r2 hr2; cases h
                exact fin _ _ h2 ⟨r2, hr2, rfl, rfl⟩ ⟨_, rfl⟩
              · cases h
            · rename_i s2 h2
              split at h
              · rename_i r2 hr2; cases h
                exact fin _ _ h2 ⟨r2, hr2, rfl, rfl⟩ ⟨_, rfl⟩
              · cases h
            · rename_i id s2 h2
              split at h
              · rename_i r2 hr2; cases h
                exact fin _ _ h2 ⟨r2, hr2, rfl, rfl⟩ ⟨_, rfl⟩
              · cases h
            · cases h
          · cases h
        · cases h
      · cases h
  · cases h
theorem evOps2_ok {ev : EvFn} (he : EvOk P ev) {ops : Array Oper} : ∀ (k i : Nat) (s : ES) {e : Ex} {s' : ES}, evOps2 P ev ops k i s = some (e, s') → SL P ops (List.range' i k) (Is e s'.st) s.st ∧ LoX s.H s'.H
  | 0, i, s, e, s', h => by
    simp only [evOps2, Option.some.injEq, Prod.mk.injEq] at h
    obtain ⟨h1, h2⟩ := h
    subst h1 h2
    exact ⟨SL.nil ⟨rfl, rfl⟩, LoX.refl _⟩
  | k + 1, i, s, e, s', h => by
    have hc := callE_ok he
    unfold evOps2 at h
    rw [List.range'_succ]
    split at h
    · rename_i s1 h1
      obtain ⟨f1, x1⟩ := doE_val h1
      obtain ⟨f2, x2⟩ := evOps2_ok he k (i + 1) s1 h
      exact ⟨SL.step f1.step f2, x1.trans x2⟩
    · rename_i f args d h1
      obtain ⟨o, ho, hg, hd, hev, hf, hdd⟩ := doE_call h1
      split at h
      · rename_i v H' h2
        obtain ⟨c1, x1⟩ := hc _ _ _ _ _ h2
        split at h
        · rename_i s1 h3
          obtain ⟨h4, h5⟩ := putE_ok h3
          have h6 : s1.H = H' := by have := congrArg St.H h4; rw [(put_facts _ _ _).2.1] at this; exact this
          obtain ⟨f2, x2⟩ := evOps2_ok he k (i + 1) s1 h
          refine ⟨SL.call ho hg hd hev hf (c1.mono fun en H'' q => ?_), x1.trans (by rw [← h6]; exact x2)⟩
          obtain ⟨q1, q2⟩ := q
          subst q1 q2
          simp only
          rw [hdd, ← h4]; exact f2
        · cases h
      · rename_i v H' h2
        obtain ⟨c1, x1⟩ := hc _ _ _ _ _ h2
        cases h
        refine ⟨SL.call ho hg hd hev hf (c1.mono fun en H'' q => ?_), x1⟩
        obtain ⟨q1, q2⟩ := q
        subst q1 q2
        exact ⟨rfl, rfl⟩
      · cases h
    · rename_i v h1
      obtain ⟨o, ho, hg, hd, hev⟩ := doE_panic h1
      cases h
      exact ⟨SL.panic ho hg hd hev ⟨rfl, rfl⟩, LoX.refl _⟩
    · split at h
      · rename_i l args d h1
        obtain ⟨o, ho, hg, hd, hev, hf, hdd⟩ := yieldE_ok h1
        split at h
        · rename_i b H' h2
          obtain ⟨rec, hl, hn, c1, x1⟩ := roundE_ok he h2
          split at h
          · rename_i s1 h3
            obtain ⟨h4, h5⟩ := putE_ok h3
            have h6 : s1.H = H' := by have := congrArg St.H h4; rw [(put_facts _ _ _).2.1] at this; exact this
            obtain ⟨f2, x2⟩ := evOps2_ok he k (i + 1) s1 h
            refine ⟨SL.yield ho hg hd hev hf hl hn (fun b1 H1 q => ?_) c1, x1.trans (by rw [← h6]; exact x2)⟩
            obtain ⟨q1, q2⟩ := q
            subst q1 q2
            rw [hdd, ← h4]; exact f2
          · cases h
        · cases h
      · cases h
theorem rangeE_ok {ev : EvFn} (he : EvOk P ev) {g : Operand} {ps : Array Tmp} {assign body : Code} {s s' : ES} {e : Ex} (h : rangeE P ev g ps assign body s = some (e, s')) :
    SC P (.rangeFunc g ps assign body) (Is e s'.st) s.st ∧ LoX s.H s'.H := by
  unfold rangeE at h
  simp only [lforce_eq, ES.setH_eq] at h
  split at h
  · cases h
  · rename_i hdok
    split at h
    · rename_i f first caps hg
      split at h
      · cases h
      · rename_i r0 hent
        have hT : (allSlots s.t s.n 0).length = s.st.n := allSlots_length _ _ _
        have hTv : ∀ (t : Nat) (v : Value), (allSlots s.t s.n 0)[t]? = some v → v.cells ≠ #[] → s.st.env t = some v := by
          intro t v hv hc
          have := allSlots_get _ _ _ _ _ hv
          rw [Nat.zero_add] at this
          show s.t.get t = some v
          cases q : s.t.get t with
          | none => rw [q] at this; subst this; exact absurd rfl hc
          | some u => rw [q] at this; rw [this]; rfl
        split at h
        · rename_i v H2 hc
          cases h
          obtain ⟨c1, x1⟩ := callE_ok he _ _ _ _ _ hc
          refine ⟨SC.rangeFunc (by rw [evE_eq]; exact hg) hent hdok hT hTv (c1.mono fun en H'' q => ?_), (LoX.alloc _ _).trans x1⟩
          obtain ⟨q1, q2⟩ := q
          subst q1 q2
          exact ⟨rfl, rfl⟩
        · rename_i v H2 hc
          obtain ⟨c1, x1⟩ := callE_ok he _ _ _ _ _ hc
          split at h
          · rename_i r hr
            have x2 : LoX s.H (H2.put s.H.next (.loop { r with state := .exhausted })) := ((LoX.alloc _ _).trans x1).trans (LoX.put _ _ _)
            split at h
            · cases h
            · rename_i hst
              have hb : r.state ≠ .busy := fun q => hst (by rw [q]; rfl)
              split at h
              · rename_i hp
                cases h
                refine ⟨SC.rangeFunc (by rw [evE_eq]; exact hg) hent hdok hT hTv (c1.mono fun en H'' q => ?_), x2⟩
                obtain ⟨q1, q2⟩ := q
                subst q1 q2
                exact ⟨r, none, hr, hb, hp, rfl, rfl⟩
              · rename_i c hp
                obtain ⟨a2, _, x3⟩ := he _ _ _ _ h
                refine ⟨SC.rangeFunc (by rw [evE_eq]; exact hg) hent hdok hT hTv (c1.mono fun en H'' q => ?_), x2.trans x3⟩
                obtain ⟨q1, q2⟩ := q
                subst q1 q2
                exact ⟨r, some c, hr, hb, hp, a2⟩
          · cases h
        · cases h
    · cases h
theorem addT_sub {ops : Array Oper} {nx i : Nat} {s : ES} {T T1 : List Nat} (h : addT P ops nx i s T = some T1) : (∀ b ∈ T, b ∈ T1) ∧ (floating P ops (masks ops.toList []) i = true → ∀ o, ops[i]? = some o → ∀ b, readBlk (evE P s) o.op = some b → b ∈ T1) ∧ (∀ b ∈ T1, b ∈ T ∨ b < nx) := by
  unfold addT at h
  split at h
  · rename_i hf
    cases h
    exact ⟨fun b hb => hb, fun hf' => (by rw [hf] at hf'; cases hf'), fun b hb => .inl hb⟩
  · split at h
    · rename_i o ho
      split at h
      · rename_i b hb
        split at h
        · rename_i hlt
          cases h
          refine ⟨fun c hc => List.mem_cons_of_mem _ hc, fun _ o' ho' b' hb' => ?_, fun c hc => ?_⟩
          · rw [ho] at ho'; cases ho'; rw [hb] at hb'; cases hb'; exact List.mem_cons_self ..
          · rcases List.mem_cons.1 hc with rfl | hc
            · right; rw [Nat.blt_eq] at hlt; exact hlt
            · exact .inl hc
        · cases h
      · rename_i hn
        cases h
        exact ⟨fun b hb => hb, fun _ o' ho' b' hb' => (by rw [ho] at ho'; cases ho'; rw [hn] at hb'; cases hb'), fun b hb => .inl hb⟩
    · rename_i hn
      cases h
      exact ⟨fun b hb => hb, fun _ o' ho' => (by rw [hn] at ho'; cases ho'), fun b hb => .inl hb⟩
theorem addW_sub {c i : Nat} {w : Tch} {W : List Tch} : (∀ x ∈ W, x ∈ addW c i w W) ∧ (i < c → w ∈ addW c i w W) := by
  unfold addW
  split
  · exact ⟨fun x hx => List.mem_cons_of_mem _ hx, fun _ => List.mem_cons_self ..⟩
  · rename_i h
    exact ⟨fun x hx => hx, fun q => by
      have : Nat.blt i c = true := by rw [Nat.blt_eq]; exact q
      rw [this] at h; cases h⟩
theorem evDrawT_mono {ev : EvFn} {ops : Array Oper} {c nx : Nat} : ∀ (k i : Nat) (s : ES) (T : List Nat) (W : List Tch) {r : ES × List Nat × List Tch}, evDrawT P ev ops c nx k i s T W = some r → (∀ b ∈ T, b ∈ r.2.1) ∧ (∀ w ∈ W, w ∈ r.2.2) ∧ ((∀ b ∈ T, b < nx) → ∀ b ∈ r.2.1, b < nx)
  | 0, i, s, T, W, r, h => by simp only [evDrawT, Option.some.injEq] at h; subst h; exact ⟨fun _ h => h, fun _ h => h, fun h => h⟩
  | k + 1, i, s, T, W, r, h => by
    unfold evDrawT at h
    split at h
    · cases h
    · rename_i T1 hT
      obtain ⟨t1, _, t3⟩ := addT_sub hT
      have t4 : (∀ b ∈ T, b < nx) → ∀ b ∈ T1, b < nx := fun q b hb => by
        rcases t3 b hb with g | g
        · exact q b g
        · exact g
      split at h
      · obtain ⟨a, b, d⟩ := evDrawT_mono k _ _ _ _ h
        exact ⟨fun x hx => a x (t1 x hx), fun w hw => b w (addW_sub.1 w hw), fun q => d (t4 q)⟩
      · split at h
        · split at h
          · obtain ⟨a, b, d⟩ := evDrawT_mono k _ _ _ _ h
            exact ⟨fun x hx => a x (t1 x hx), fun w hw => b w (addW_sub.1 w hw), fun q => d (t4 q)⟩
          · cases h
        · cases h
      · cases h
theorem storeD_get {H H' : Hp} {t : TypeId} {a v : Value} {b : Nat} (h : storeD P H t a v = some H') (hb : blkOf (some a) = some b) : ∀ c, c ≠ b → H'.get c = H.get c := by
  intro c hc
  unfold storeD at h
  split at h
  · simp only [blkOf, Option.some.injEq] at hb
    subst hb
    split at h
    · split at h
      · cases h; rw [Hp.get_put, if_neg hc]
      · cases h
    · cases h
  · cases h
theorem opD_store_get {H H' : Hp} {ev : Ev} {o : Oper} {t : TypeId} {a x : Operand} {v : Value} {b : Nat} (ho : o.op = .store t a x) (h : opD P H ev o = some (.val v H')) (hb : blkOf (ev a) = some b) : ∀ c, c ≠ b → H'.get c = H.get c := by
  unfold opD at h
  rw [ho] at h
  simp only at h
  split at h
  · rename_i av xv ha hx
    rw [ha] at hb
    cases hq : storeD P H t av xv with
    | none => rw [hq] at h; cases h
    | some H2 => rw [hq] at h; cases h; exact storeD_get hq hb
  · cases h
theorem tchE_ok {ops : Array Oper} {nx i : Nat} {s s' : ES} (hf : OpFact P ops i s.st s'.st) (hx : LoX s.H s'.H) {b : Nat} (hb : b < nx) (hn : nx ≤ s.H.next) (h : (tchE P ops nx i s s'.H.lo).ok b = true) : s'.H.get b = s.H.get b := by
  unfold tchE at h
  split at h
  · simp [Tch.ok] at h
  · rename_i o ho
    have still : cls P o.op = some .pure ∨ cls P o.op = some .read → s'.H.get b = s.H.get b := by
      intro hc
      have : s'.st.H = s.st.H := hf.still fun o' ho' => by
        rw [ho] at ho'; cases ho'
        rcases hc with hc | hc <;> simp [isMut, hc]
      show s'.st.H.get b = s.st.H.get b
      rw [this]
    split at h
    · rename_i hc; exact still (.inl hc)
    · rename_i hc; exact still (.inr hc)
    · split at h
      · rename_i t a x hop
        split at h
        · rename_i c hc
          simp only [Tch.ok, Bool.not_eq_true'] at h
          have hne := Nat.ne_of_beq_eq_false h
          have hs : ∀ {s1 : St}, OpFact P ops i s.st s1 → s1.H.get b = s.H.get b := by
            intro s1 hf
            cases hf with
            | @skip o' ho' hg hf => rw [(put_facts _ _ _).2.1]; rfl
            | @val o' v H' ho' hg hd he hf =>
              rw [ho] at ho'; cases ho'
              rw [(put_facts _ _ _).2.1]
              rw [evE_eq] at he
              exact opD_store_get hop he hc b hne
            | @call o' f args v H' ho' hg hd he hf k =>
              rw [ho] at ho'; cases ho'
              unfold opD at he
              rw [hop] at he
              simp only at he
              split at he
              · split at he <;> cases he
              · cases he
          exact hs hf
        · simp [Tch.ok] at h
      · split at h
        · simp only [Tch.ok, Nat.blt_eq] at h
          exact hx.get b (Nat.lt_of_lt_of_le hb hn) h
        · simp [Tch.ok] at h
theorem evDrawT_ok {ev : EvFn} (he : EvOk P ev) {ops : Array Oper} {c nx : Nat} {st0 : St} {TF : Nat → Prop} : ∀ (k i : Nat) (s : ES) (T : List Nat) (W : List Tch) {s' : ES} {T' : List Nat} {W' : List Tch}, evDrawT P ev ops c nx k i s T W = some (s', T', W') →
    (∀ b ∈ T', TF b) → (∀ w ∈ W', ∀ b, TF b → w.ok b = true) → (∀ b, TF b → b < nx) → nx ≤ s.H.next → (i ≤ c → ∀ b, TF b → s.H.get b = st0.H.get b) →
    ST P ops c TF st0 k i (fun t => (i + k ≤ c → ∀ b, TF b → t.H.get b = st0.H.get b) ∧ t = s'.st) s.st ∧ LoX s.H s'.H
  | 0, i, s, T, W, s', T', W', h, hT, hW, hlt, hn, hq => by
    simp only [evDrawT, Option.some.injEq, Prod.mk.injEq] at h
    obtain ⟨rfl, rfl, rfl⟩ := h
    exact ⟨ST.nil ⟨hq, rfl⟩, LoX.refl _⟩
  | k + 1, i, s, T, W, s', T', W', h, hT, hW, hlt, hn, hq => by
    unfold evDrawT at h
    split at h
    · cases h
    · rename_i T1 hT1
      obtain ⟨t1, t2, _⟩ := addT_sub hT1
      have hside : ∀ {s1 : ES} {W1 : List Tch}, evDrawT P ev ops c nx k (i + 1) s1 T1 W1 = some (s', T', W') → sideT P ops c TF st0 i s.st := by
        intro s1 W1 h1
        refine ⟨hq, fun hf o ho b hb => hT b ((evDrawT_mono k _ _ _ _ h1).1 b (t2 hf o ho b ?_))⟩
        rw [evE_eq] at hb; exact hb
      have step : ∀ {s1 : ES}, OpFact P ops i s.st s1.st → LoX s.H s1.H → evDrawT P ev ops c nx k (i + 1) s1 T1 (addW c i (tchE P ops nx i s s1.H.lo) W) = some (s', T', W') →
          ST P ops c TF st0 (k + 1) i (fun t => (i + (k + 1) ≤ c → ∀ b, TF b → t.H.get b = st0.H.get b) ∧ t = s'.st) s.st ∧ LoX s.H s'.H := by
        intro s1 f1 x1 h1
        obtain ⟨f2, x2⟩ := evDrawT_ok he (st0 := st0) (TF := TF) k (i + 1) s1 _ _ h1 hT hW hlt (Nat.le_trans hn x1.next) (fun hic b hb => by
          have hw := hW _ ((evDrawT_mono k _ _ _ _ h1).2.1 _ (addW_sub.2 (by omega))) b hb
          rw [tchE_ok f1 x1 (hlt b hb) hn hw]
          exact hq (by omega) b hb)
        have e : i + 1 + k = i + (k + 1) := by omega
        rw [e] at f2
        exact ⟨ST.cons f1 (hside h1) f2, x1.trans x2⟩
      split at h
      · rename_i s1 h1
        obtain ⟨f1, x1⟩ := doE_val h1
        exact step f1 x1 h
      · rename_i f args d h1
        obtain ⟨o, ho, hg, hd, hev, hf, hdd⟩ := doE_call h1
        split at h
        · rename_i v H' h2
          obtain ⟨c1, x1⟩ := callE_ok he _ _ _ _ _ h2
          split at h
          · rename_i s1 h3
            obtain ⟨h4, h5⟩ := putE_ok h3
            have h6 : s1.H = H' := by have := congrArg St.H h4; rw [(put_facts _ _ _).2.1] at this; exact this
            obtain ⟨en, H'', ⟨rfl, rfl⟩, kk⟩ := c1
            have f1 : OpFact P ops i s.st s1.st := by
              rw [h4, ← hdd]
              exact .call ho hg hd hev hf (CFact.of kk)
            exact step f1 (by rw [h6]; exact x1) h
          · cases h
        · cases h
      · cases h
theorem drawT_ok {ev : EvFn} (he : EvOk P ev) {id : Nat} {ops : Array Oper} {s s' : ES} {e : Ex} (hmix : P.follows .mixedOrders = true) (hok : okDraw P ops = true) (h : drawT P ev ops s = some (e, s')) : SC P (.region id ops true) (Is e s'.st) s.st ∧ LoX s.H s'.H := by
  unfold drawT at h
  rw [nforce_eq] at h
  simp only [ES.setH_eq] at h
  split at h
  · cases h
  · rename_i hc
    split at h
    · rename_i s1 T W h1
      split at h
      · rename_i hall
        cases h
        obtain ⟨s2, hs2⟩ : ∃ s2 : ES, s2 = { s with H := { s.H with lo := s.H.next } } := ⟨_, rfl⟩
        rw [← hs2] at h1
        have e1 : s2.st = { s.st with H := { s.H with lo := s.H.next } } := by subst hs2; rfl
        have e2 : s2.H = { s.H with lo := s.H.next } := by subst hs2; rfl
        have hmono := evDrawT_mono _ _ _ _ _ h1
        obtain ⟨a1, x1⟩ := evDrawT_ok he (st0 := s2.st) (TF := fun b => b ∈ T) ops.size 0 s2 [] [] h1 (fun b hb => hb)
          (fun w hw b hb => List.all_eq_true.1 (List.all_eq_true.1 hall w hw) b hb) (fun b hb => hmono.2.2 (fun x hx => by cases hx) b hb) (by rw [e2]; exact Nat.le_refl _) (fun _ b _ => rfl)
        have x2 := LoX.relo (by rw [← e2]; exact x1)
        refine ⟨?_, x2⟩
        refine SI.preH (H2 := { s.H with lo := s.H.next }) (fun _ => rfl) rfl ?_
        have hcle : cutOf P ops ≤ ops.size := by
          simp only [cutOk, Bool.and_eq_true, Nat.ble_eq] at hc; exact hc.1
        have : SC P (.region id ops true) (Is .normal s1.st) s2.st := SC.regionDrawT (c := cutOf P ops) (T := fun b => b ∈ T) hmix hok hc (by
          obtain ⟨f, b1, b2, b3, b4⟩ := a1
          refine ⟨f, b1, b2, fun q => b3 (by rw [q]; omega), ?_⟩
          exact ⟨rfl, b4⟩)
        rw [e1] at this
        refine SI.postH this fun e t q => ?_
        obtain ⟨q1, q2⟩ := q; subst q1 q2
        exact ⟨{ s1.H with lo := min s.H.lo s1.H.lo }, fun _ => rfl, rfl, rfl, rfl⟩
      · cases h
    · cases h
theorem evStep2_ok {ev : EvFn} (he : EvOk P ev) : EvOk P (evStep2 P ev) := by
  intro c s e s' h
  have old : evStep P ev c s = some (e, s') → SC P c (Is e s'.st) s.st ∧ (∀ c', c = .loop c' → SI P (.inLoop c') (Is e s'.st) s.st) ∧ LoX s.H s'.H := fun h => evStep_ok he c s e s' h
  unfold evStep2 at h
  split at h
  · rename_i c
    obtain ⟨a, _, x⟩ := he _ _ _ _ h
    exact ⟨SC.scope a, fun c' q => (by cases q), x⟩
  · obtain ⟨a, x⟩ := rangeE_ok he h
    exact ⟨a, fun c' q => (by cases q), x⟩
  · obtain ⟨a, x⟩ := evOps2_ok he _ _ _ h
    exact ⟨SC.region (by rw [List.range_eq_range']; exact a), fun c' q => (by cases q), x⟩
  · split at h
    · rename_i r hr; cases h; exact old hr
    · split at h
      · cases h
      · rename_i hmix
        split at h
        · cases h
        · rename_i hok
          obtain ⟨a, x⟩ := drawT_ok (id := _) he hmix hok h
          exact ⟨a, fun c' q => (by cases q), x⟩
  all_goals exact old h
end rules
end Go.Det

set_option linter.unusedSimpArgs false
set_option linter.unusedVariables false
namespace Go.Det
open Go Go.RowKit
def layT : List (Nat × List Value) → T Blk → T Blk
  | [], t => t
  | (g, cs) :: r, t => lforce cs fun cs => layT r (t.set g (some (.cells .old cs)))
theorem layT_get : ∀ (l : List (Nat × List Value)) (t : T Blk) (b : Nat) (x : Blk), (layT l t).get b = some x → t.get b = some x ∨ ∃ p ∈ l, p.1 = b ∧ x = .cells .old p.2
  | [], t, b, x, h => .inl h
  | (g, cs) :: r, t, b, x, h => by
    rw [layT, lforce_eq] at h
    rcases layT_get r _ b x h with k | ⟨p, hp, k⟩
    · rw [T.get_set] at k
      by_cases q : b = g
      · rw [if_pos q] at k; cases k
        exact .inr ⟨(g, cs), by simp, q.symm, rfl⟩
      · rw [if_neg q] at k; exact .inl k
    · exact .inr ⟨p, by simp [hp], k⟩
def HGL (l : List (Nat × List Value)) (G : Nat) : Hp := { t := layT l .nil, next := G, lo := G }
theorem HGL_get {l : List (Nat × List Value)} {G b : Nat} {x : Blk} (e : (HGL l G).get b = some x) : ∃ p ∈ l, p.1 = b ∧ x = .cells .old p.2 := by
  rcases layT_get l .nil b x e with k | k
  · cases k
  · exact k
def HG (G : Nat) : Hp := HGL seatCells G
def seatFlat : Bool := seatCells.all fun p => flats p.2
theorem Rel.startG (P : Program) (w : World) (hL : Laid w w.heap.size) (hf : seatFlat = true) (hs : (seatCells.all fun p => Nat.blt p.1 P.globals.size) = true) : Rel ⟨w.heap.size, w, P.globals.size, fun _ => none⟩ (R0 P.globals.size) (HG P.globals.size) w := by
  have h0 := Rel.start P w
  have key : ∀ b x, (HG P.globals.size).get b = some x → ∃ p ∈ seatCells, p.1 = b ∧ x = .cells .old p.2 := by
    intro b x e
    exact HGL_get e
  refine ⟨?_, ?_, h0.free, h0.lt, h0.below, h0.size, h0.glob, Nat.le_refl _, h0.kept⟩
  · intro b x e
    obtain ⟨p, hp, rfl, rfl⟩ := key b x e
    have hlt := (Nat.blt_eq ▸ (List.all_eq_true.1 hs p hp) : p.1 < P.globals.size)
    refine ⟨⟨p.1, 0, 0, 0, false⟩, by simp only [R0]; rw [if_pos hlt], ?_⟩
    obtain ⟨h1, t, fr, h2⟩ := hL.1 p hp
    refine .old _ rfl h1 fun j v hj => ⟨v, ?_, ?_⟩
    · have hlen := (List.getElem?_eq_some_iff.1 hj).1
      simp only [World.cell?, h2]
      simpa using hj
    · have hfl := List.all_eq_true.1 hf p hp
      have : ∀ (l : List Value), flats l = true → ∀ (j : Nat) (v : Value), l[j]? = some v → flat v = true := by
        intro l
        induction l with
        | nil => intro _ j v h; simp at h
        | cons a l ih =>
          intro hl j v h
          simp only [flats, Bool.and_eq_true] at hl
          cases j with
          | zero => simp at h; rw [← h]; exact hl.1
          | succ j => exact ih hl.2 j v (by simpa using h)
      exact flat_refl (this _ hfl j v hj)
  · intro b c i j x y hb hc hi hj oi oj e
    obtain ⟨p, hp, rfl, rfl⟩ := key b x hb
    have hlt := (Nat.blt_eq ▸ (List.all_eq_true.1 hs p hp) : p.1 < P.globals.size)
    simp only [R0] at hi
    rw [if_pos hlt] at hi; cases hi; cases oi
theorem SCall.closedG {P : Program} {f : FuncId} {args : List Value} {v : Value} (hf : seatFlat = true) (hs : (seatCells.all fun p => Nat.blt p.1 P.globals.size) = true) (h : SCall P f args (HG P.globals.size) fun e _ => e = .ret v) (ha : flats args = true) (hv : flat v = true) (H : Hp) :
    SCall P f args H (Ret fun v' H' => H' = H ∧ v' = v) := by
  obtain ⟨en, H', q, k⟩ := h
  subst q
  refine ⟨.ret v, H, ⟨v, rfl, rfl, rfl⟩, fun X R w args' hG hR hargs cs => ?_⟩
  have he := flats_eq hargs ha
  subst he
  have hL : Laid w w.heap.size := (hG.laid.mono hR.below).le hR.size
  obtain ⟨R', w', en', f', l, r, e, hf, hs, hl⟩ := k ⟨w.heap.size, w, P.globals.size, fun _ => none⟩ (R0 P.globals.size) w args' ⟨rfl, hL⟩ (Rel.startG P w hL hf hs) (flats_refl ha) cs
  cases e with
  | @ret _ v' hv' =>
    have := flat_eq hv' hv
    subst this
    exact ⟨R, w', .ret v', f', Ren.le_refl R, hR.later r.below, .ret (flat_refl hv), hf, hs, hl⟩
end Go.Det
