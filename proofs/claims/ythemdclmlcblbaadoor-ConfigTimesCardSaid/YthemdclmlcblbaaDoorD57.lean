import Derived.Test.YthemdclmlcblbaaDoorD56
set_option linter.unusedSimpArgs false
set_option linter.unusedVariables false
namespace Go.Det
open Go Go.RowKit
structure LC where
  tmps : Array Value
  params : Array Tmp
  assign : Code
  body : Code
def LC.rec_ (c : LC) (s : LoopState) (p : Option Code) : Loop := { state := s, pending := p, fn := 0, tmps := c.tmps, params := c.params, assign := c.assign, body := c.body, defers := 0 }
def tmpsOf (l : VEnv) (n : Nat) : List Value := (List.range n).map fun t => match lookV l t with | some (.v v) => v | _ => .agg ⟨[]⟩
theorem tmpsOf_length (l : VEnv) (n : Nat) : (tmpsOf l n).length = n := by simp [tmpsOf]
theorem tmpsOf_look {l : VEnv} {n t : Nat} {v : Value} (h : (tmpsOf l n)[t]? = some v) (hc : v.cells ≠ #[]) : lookV l t = some (.v v) := by
  simp only [tmpsOf, List.getElem?_map] at h
  obtain ⟨u, hu, rfl⟩ := Option.map_eq_some_iff.1 h
  have : u = t := by
    rw [List.getElem?_range] at hu
    · exact (Option.some.inj hu).symm
    · have := (List.getElem?_eq_some_iff.1 hu).1; simpa using this
  subst this
  cases hl : lookV l u with
  | none => simp only [hl] at hc; exact absurd rfl hc
  | some y =>
    cases y with
    | v x => rfl
    | p a b => simp only [hl] at hc; exact absurd rfl hc
    | fn f c => simp only [hl] at hc; exact absurd rfl hc
def RfQ (P : Program) (n : NN) (lp : Nat) (k : KK) (Q : Ex → SS → Prop) (l : VEnv) : En → Hp → Prop
  | .ret _, H2 => ∃ (r : Loop) (p : Option Code), H2.get lp = some (.loop r) ∧ r.state ≠ .busy ∧ r.pending = p ∧ (match p with
    | none => JK P k Q (VS.ss ⟨l, [], true, 0⟩ (fun _ => 0) n (H2.put lp (.loop { r with state := .exhausted })))
    | some c => JK P (.code c :: k) Q (VS.ss ⟨l, [], true, 0⟩ (fun _ => 0) n (H2.put lp (.loop { r with state := .exhausted }))))
  | .panic v, H2 => Q (.panic v) (VS.ss ⟨l, [], true, 0⟩ (fun _ => 0) n H2)
def QB (l : Nat) (K : Bool → Hp → Prop) : Ex → SS → Prop
  | .normal, s => ∃ r, s.H.get l = some (.loop r) ∧ K true (s.H.put l (.loop { r with state := .ready, pending := none }))
  | .ret, s => ∃ r, s.H.get l = some (.loop r) ∧ K false (s.H.put l (.loop { r with state := .done, pending := some .ret }))
  | .exit id, s => ∃ r, s.H.get l = some (.loop r) ∧ K false (s.H.put l (.loop { r with state := .done, pending := some (.exit id) }))
  | .panic _, _ => False
def QA (P : Program) (l : Nat) (body : Code) (Q : Ex → SS → Prop) : Ex → SS → Prop
  | .normal, s => ∃ r, s.H.get l = some (.loop r) ∧ r.state = .ready ∧ J P body Q { s with H := s.H.put l (.loop { r with state := .busy }) }
  | _, _ => False
def YK (P : Program) (n : NN) (a : Array Oper) (m i : Nat) (k : KK) (Q : Ex → SS → Prop) (l : VEnv) (d : Option Tmp) : Bool → Hp → Prop :=
  fun b H' => ∃ s', putS (VS.ss ⟨l, [], true, 0⟩ (fun _ => 0) n H') d (.bool b) H' = some s' ∧ JK P (.ops a m (i + 1) :: k) Q s'
section jk
variable {P : Program} {Q : Ex → SS → Prop} {k : KK} {s : SS}
theorem JK.rangeFunc {g : Operand} {ps : Array Tmp} {assign body : Code} {f : FuncId} {first caps T : List Value} {r0 : Res} (hg : evS P s g = some (.func (.func f) ⟨first⟩ ⟨caps⟩)) (he : enterD P f [] = some r0) (hdok : s.dok = true) (hT : T.length = s.n) (hTv : ∀ (t : Nat) (v : Value), T[t]? = some v → v.cells ≠ #[] → look s.l t = some v)
    (h : SCall P f (first ++ [.func (.yield s.H.next) ⟨[]⟩ ⟨[]⟩] ++ caps) (s.H.alloc (.loop { state := .ready, pending := none, fn := 0, tmps := ⟨T⟩, params := ps, assign := assign, body := body, defers := 0 })) fun
      | .ret _, H2 => ∃ (r : Loop) (p : Option Code), H2.get s.H.next = some (.loop r) ∧ r.state ≠ .busy ∧ r.pending = p ∧ (match p with
        | none => JK P k Q { s with H := H2.put s.H.next (.loop { r with state := .exhausted }) }
        | some c => JK P (.code c :: k) Q { s with H := H2.put s.H.next (.loop { r with state := .exhausted }) })
      | .panic v, H2 => Q (.panic v) { s with H := H2 }) : JK P (.code (.rangeFunc g ps assign body) :: k) Q s := by
  show J P (.rangeFunc g ps assign body) (QK P k Q) s
  refine SC.rangeFunc (by rw [evS_eq]; exact hg) he hdok hT hTv (h.mono fun e H2 q => ?_)
  cases e with
  | ret v =>
    obtain ⟨r, p, h1, h2, h3, h4⟩ := q
    refine ⟨r, p, h1, h2, h3, ?_⟩
    cases p with
    | none => exact ⟨_, rfl, h4⟩
    | some c => exact h4
  | panic v => exact ⟨_, rfl, by rw [QK_panic]; exact q⟩
theorem JK.yield {a : Array Oper} {m i : Nat} {o : Oper} {l : Nat} {args : List Value} {rec : Loop} {K : Bool → Hp → Prop} {s1 : SS} (ho : a[i]? = some o) (hg : gdS a s o = some true) (hd : notDefer o.op = true) (he : opD P s.H (evS P s) o = some (.yield l args)) (hf : putS s o.dst undef s.H = some s1) (hH : s.H.get l = some (.loop rec)) (hn : args.length = rec.params.size)
    (hK : ∀ b H', K b H' → ∃ s', putS s o.dst (.bool b) H' = some s' ∧ JK P (.ops a m (i + 1) :: k) Q s')
    {s0 : SS} (hle : s0.st.le (roundSt rec args s.H)) (h : J P rec.assign (QA P l rec.body (QB l K)) s0) : JK P (.ops a (m + 1) i :: k) Q s := by
  show SL P a (List.range' i (m + 1)) _ s.st
  rw [List.range'_succ]
  refine SL.yield (K := K) ho (by rw [gdS_eq]; exact hg) hd (by rw [evS_eq]; exact he) (putS_ok hf).2 hH hn (fun b H' q => ?_) ?_
  · obtain ⟨s', h1, h2⟩ := hK b H' q
    obtain ⟨h3, _⟩ := putS_ok h1
    rw [← h3]; exact h2
  · refine SI.le hle (SI.mono h fun e t ⟨s', h1, h2⟩ => ?_)
    subst h1
    cases e with
    | normal =>
      obtain ⟨r, g1, g2, g3⟩ := h2
      refine ⟨r, g1, g2, SI.mono g3 fun e2 t2 ⟨s2, k1, k2⟩ => ?_⟩
      subst k1
      cases e2 <;> exact k2
    | _ => exact h2.elim
end jk
def lessT : VEnv → Array Value → Prop
  | [], _ => True
  | (t, .v v) :: r, x => x[t]? = some v ∧ Nat.blt 0 v.cells.size = true ∧ lessT r x
  | _ :: _, _ => False
theorem lessT_look {x : Array Value} {ids : Nat → Nat} : ∀ {l : VEnv}, lessT l x → ∀ (t : Nat) (v : Value), look (denE ids l) t = some v → x[t]? = some v ∧ v.cells ≠ #[]
  | [], _, t, v, h => by cases h
  | (u, .v w) :: r, hl, t, v, h => by
    obtain ⟨h1, h2, h3⟩ := hl
    simp only [denE, List.map_cons, look] at h
    split at h
    · rename_i e; cases h
      refine ⟨by rw [e]; exact h1, fun q => ?_⟩
      simp only [den] at q
      rw [q] at h2; cases h2
    · exact lessT_look h3 t v h
  | (u, .p a b) :: r, hl, t, v, h => hl.elim
  | (u, .fn f c) :: r, hl, t, v, h => hl.elim
theorem roundSt_le {l : VEnv} {rec : Loop} {args : List Value} {H : Hp} {ids : Nat → Nat} {num : Nat} (hs : rec.tmps.size = num) (h : lessT l (fillT rec.tmps (rec.params.toList.zip args))) : (VS.ss ⟨l, [], true, 0⟩ ids ⟨num, false⟩ H).st.le (roundSt rec args H) := by
  refine ⟨fun t v e => ?_, hs, rfl, rfl, rfl⟩
  obtain ⟨h1, h2⟩ := lessT_look h t v e
  simp only [roundSt, h1, if_neg h2]
section rules
variable {P : Program} {Q : Ex → SS → Prop} {n n' : NN} {B0 B : Hp} {own : List OwnE} {k k' : KK} {x x' x'' : VS} (N : Nat)
theorem WJ.rf {g : Operand} {ps : Array Tmp} {assign body : Code} {f : FuncId} {fn : Func} {cb : Code} {first caps : List Value} {r0 : Res} {l : VEnv} {cl : Bool} {kB m num : Nat} {res : List ResultVar} {lc : Nat → VEnv} (hpl : plainE l = true) (hn : n = ⟨num, true⟩) (hg : evV P l g = some (.v (.func (.func f) ⟨first⟩ ⟨caps⟩))) (he : enterD P f [] = some r0)
    (hf : P.funcs[f]? = some fn) (hb : fn.body = some cb) (hm : fn.ntmps = m) {ga : Nat} (hga : (first ++ [undef] ++ caps).length = ga) (hl : Nat.ble ga m = true) (hr : fn.results.toList = res) (hlc : ∀ ids lp, denE ids (lc lp) = envOf (first ++ [.func (.yield lp) ⟨[]⟩ ⟨[]⟩] ++ caps))
    (h : ∀ lp B' C, C = (⟨⟨tmpsOf l num⟩, ps, assign, body⟩ : LC) → Abv 0 B B' ∧ Itv B B' → B0.next ≤ lp → B'.get lp = some (.loop (C.rec_ .ready none)) → WJ P ⟨m, true⟩ B0 B' own [.code cb] (bodyS P res (RfQ P n lp k Q l)) ⟨lc lp, [], true, 0⟩) :
    WJ P n B0 B own (.code (.rangeFunc g ps assign body) :: k) Q ⟨l, [], cl, kB⟩ := by
  intro ids H fr
  have hB := fr.none_
  have hlt : ∀ c z, B.get c = some z → c ≠ H.next := fun c z e q => by rw [q, hB] at e; cases e
  have hw := h H.next (B.with_ H.next (H.next + 1) (.loop { state := .ready, pending := none, fn := 0, tmps := ⟨tmpsOf l num⟩, params := ps, assign := assign, body := body, defers := 0 })) _ rfl
    ⟨⟨Nat.le_succ_of_le fr.nextB, fun c m0 cs _ _ e => by rw [Hp.get_with, if_neg (hlt c _ e)]; exact e⟩, fun c z e => by rw [Hp.get_with, if_neg (hlt c _ e)]; exact e⟩ fr.ext0.next (by rw [Hp.get_with, if_pos rfl]; rfl) ids _ (fr.newB _)
  have hg' := evV_eq P ⟨l, [], cl, kB⟩ ids n H hg
  subst hn
  refine JK.rangeFunc (T := tmpsOf l num) hg' he rfl (tmpsOf_length _ _) (fun t v e hc => ?_) ?_
  · have := tmpsOf_look e hc
    show look (denE ids l) t = some v
    rw [look_denE, this]; rfl
  · simp only [VS.ss, hlc] at hw
    have hlen : (first ++ [Value.func (.yield H.next) ⟨[]⟩ ⟨[]⟩] ++ caps).length ≤ m := by
      have := Nat.le_of_ble_eq_true hl
      rw [← hga] at this
      simpa using this
    refine (SCall.body hf hb hm hlen hr hw).mono fun e H2 q => ?_
    have hd : denE ids l = denE (fun _ => 0) l := plainE_den hpl _ _
    cases e with
    | ret v =>
      obtain ⟨r, p, h1, h2, h3, h4⟩ := q
      refine ⟨r, p, h1, h2, h3, ?_⟩
      simp only [VS.ss, hd] at h4 ⊢
      cases p <;> exact h4
    | panic v =>
      simp only [RfQ, VS.ss] at q ⊢
      rw [hd]; exact q
theorem WF.putLoop {ids : Nat → Nat} {H : Hp} {lp : Nat} {C : LC} {s : LoopState} {p : Option Code} (fr : WF B0 B own [] ids H) (hB : B.get lp = some (.loop (C.rec_ s p))) (h0 : B0.next ≤ lp) (s' : LoopState) (p' : Option Code) :
    WF B0 (B.with_ lp B.next (.loop (C.rec_ s' p'))) own [] (fun _ => 0) (H.put lp (.loop (C.rec_ s' p'))) ∧ Abv 0 B (B.with_ lp B.next (.loop (C.rec_ s' p'))) ∧ (∀ c z, c ≠ lp → B.get c = some z → (B.with_ lp B.next (.loop (C.rec_ s' p'))).get c = some z) ∧ (B.with_ lp B.next (.loop (C.rec_ s' p'))).get lp = some (.loop (C.rec_ s' p')) :=
  ⟨(fr.putB hB h0).noLoc, ⟨Nat.le_refl _, fun c m0 cs _ _ e => by rw [Hp.get_with, if_neg (fun q => by rw [q, hB] at e; cases e)]; exact e⟩, fun c z q e => by rw [Hp.get_with, if_neg q]; exact e, by rw [Hp.get_with, if_pos rfl]⟩
theorem WJ.rfR {lp : Nat} {C : LC} {s : LoopState} {res : List ResultVar} {vs : List Value} {l l' : VEnv} {cl : Bool} {kB : Nat} {e : Ex} (he : e = .ret ∨ e = .normal) (hs : vSym P n' N k x = .fin e ⟨l', [], cl, kB⟩) (hr : ressV P ⟨l', [], cl, kB⟩ res = some vs) (hB : B.get lp = some (.loop (C.rec_ s none))) (h0 : B0.next ≤ lp) (hst : s ≠ .busy)
    (h : ∀ B', Abv 0 B B' → (∀ c z, c ≠ lp → B.get c = some z → B'.get c = some z) → WJ P n B0 B' own k' Q ⟨l, [], true, 0⟩) : WJ P n' B0 B own k (bodyS P res (RfQ P n lp k' Q l)) x := by
  refine WJ.sym N hs fun ids H fr => ?_
  obtain ⟨g1, g2, g3, g4⟩ := fr.putLoop hB h0 .exhausted none
  have hb : bodyS P res (RfQ P n lp k' Q l) .ret (VS.ss ⟨l', [], cl, kB⟩ ids n' H) := ⟨rfl, vs, wressV_ok fr hr, C.rec_ s none, none, fr.sub _ _ hB, hst, rfl, h _ g2 g3 (fun _ => 0) _ g1⟩
  rcases he with rfl | rfl <;> exact hb
theorem WJ.yl {a : Array Oper} {m i : Nat} {o : Oper} {c : Call} {gop : Operand} {lp : Nat} {args : List SV} {vs : List Value} {C : LC} {T : List Value} {ps : Array Tmp} {as_ bd : Code} {num : Nat} {l lr : VEnv} {cl : Bool} {kB : Nat} (hC : C = ⟨⟨T⟩, ps, as_, bd⟩) (hsz : T.length = num) (hpl : plainE l = true)
    (ho : a[i]? = some o) (hg : gdV a l o = some true) (hop : o.op = .call c) (hcal : c.callee = .value gop) (hgv : evV P l gop = some (.v (.func (.yield lp) ⟨[]⟩ ⟨[]⟩))) (hargs : argsV P l c.args.toList = some args) (hav : args.map (den fun _ => 0) = vs) (hpa : (args.all fun y => match y with | .v _ => true | _ => false) = true)
    (hput : putV ⟨l, [], true, 0⟩ n o.dst (.v undef) = some x'') (hB : B.get lp = some (.loop (C.rec_ .ready none))) (hn : vs.length = ps.size)
    (hl : lessT lr (fillT ⟨T⟩ (ps.toList.zip vs)))
    (h : WJ P ⟨num, false⟩ B0 B own [.code as_] (QA P lp bd (QB lp (YK P n a m i k' Q l o.dst))) ⟨lr, [], true, 0⟩) :
    WJ P n B0 B own (.ops a (m + 1) i :: k') Q ⟨l, [], cl, kB⟩ := by
  subst hC
  intro ids H fr
  have hw := h ids H fr
  have hd : denE ids l = denE (fun _ => 0) l := plainE_den hpl _ _
  have hv : args.map (den ids) = vs := by
    rw [← hav]
    refine List.map_congr_left fun y hy => ?_
    have := List.all_eq_true.1 hpa y hy
    cases y with
    | v u => rfl
    | p a b => simp at this
    | fn f c => simp at this
  obtain ⟨p1, _⟩ := putV_eq (fun _ => 0) H H hput
  have hop' : opD P H (evS P (VS.ss ⟨l, [], cl, kB⟩ ids n H)) o = some (.yield lp vs) := by
    unfold opD; simp only [hop]; unfold callD
    simp only [argsV_eq (x := ⟨l, [], cl, kB⟩) (ids := ids) (n := n) (H := H) hargs, hcal, evV_eq P ⟨l, [], cl, kB⟩ ids n H hgv, den, hv]
  have hS : (VS.ss ⟨l, [], cl, kB⟩ ids n H) = VS.ss ⟨l, [], true, 0⟩ (fun _ => 0) n H := by simp only [VS.ss, hd]
  refine JK.yield (rec := LC.rec_ ⟨⟨T⟩, ps, as_, bd⟩ .ready none) (K := YK P n a m i k' Q l o.dst) ho (gdV_eq (x := ⟨l, [], cl, kB⟩) ids n H hg) (by rw [hop]; rfl) hop' (by rw [hS]; exact p1) (fr.sub _ _ hB) hn (fun b H' q => ?_) (roundSt_le hsz hl) hw
  obtain ⟨s', h1, h2⟩ := q
  refine ⟨s', ?_, h2⟩
  rw [hS, ← h1]
  cases o.dst <;> rfl
theorem WJ.ylA {lp : Nat} {C : LC} {p : Option Code} {bd : Code} {QQ : Ex → SS → Prop} {l : VEnv} {cl : Bool} {kB : Nat} (hs : vSym P n N k x = .fin .normal ⟨l, [], cl, kB⟩) (hB : B.get lp = some (.loop (C.rec_ .ready p))) (h0 : B0.next ≤ lp)
    (h : ∀ B', Abv 0 B B' → (∀ c z, c ≠ lp → B.get c = some z → B'.get c = some z) → B'.get lp = some (.loop (C.rec_ .busy p)) → WJ P n B0 B' own [.code bd] QQ ⟨l, [], true, 0⟩) (hpl : plainE l = true) : WJ P n B0 B own k (QA P lp bd QQ) x := by
  refine WJ.sym N hs fun ids H fr => ?_
  obtain ⟨g1, g2, g3, g4⟩ := fr.putLoop hB h0 .busy p
  have hd : denE ids l = denE (fun _ => 0) l := plainE_den hpl _ _
  refine ⟨C.rec_ .ready p, fr.sub _ _ hB, rfl, ?_⟩
  have := h _ g2 g3 g4 (fun _ => 0) _ g1
  simp only [VS.ss, ← hd] at this
  exact this
theorem WJ.ylE {lp : Nat} {C : LC} {s : LoopState} {p : Option Code} {a : Array Oper} {m i : Nat} {l l' : VEnv} {cl : Bool} {kB : Nat} {d : Option Tmp} {e : Ex} {bb : Bool} {st' : LoopState} {pp : Option Code} (hs : vSym P n' N k x = .fin e ⟨l', [], cl, kB⟩) (hB : B.get lp = some (.loop (C.rec_ s p))) (h0 : B0.next ≤ lp)
    (he : (e = .normal ∧ bb = true ∧ st' = .ready ∧ pp = none) ∨ (e = .ret ∧ bb = false ∧ st' = .done ∧ pp = some .ret) ∨ (∃ id, e = .exit id ∧ bb = false ∧ st' = .done ∧ pp = some (.exit id))) (hp : putV ⟨l, [], true, 0⟩ n d (.v (.bool bb)) = some x'')
    (h : ∀ B', Abv 0 B B' → (∀ c z, c ≠ lp → B.get c = some z → B'.get c = some z) → B'.get lp = some (.loop (C.rec_ st' pp)) → WJ P n B0 B' own (.ops a m (i + 1) :: k') Q x'') : WJ P n' B0 B own k (QB lp (YK P n a m i k' Q l d)) x := by
  refine WJ.sym N hs fun ids H fr => ?_
  obtain ⟨g1, g2, g3, g4⟩ := fr.putLoop hB h0 st' pp
  obtain ⟨p1, p2, p3, p4⟩ := putV_eq (fun _ => 0) (H.put lp (.loop (C.rec_ st' pp))) (H.put lp (.loop (C.rec_ st' pp))) hp
  have hh : YK P n a m i k' Q l d bb (H.put lp (.loop (C.rec_ st' pp))) := ⟨_, p1, h _ g2 g3 g4 (fun _ => 0) _ (by rw [p2]; exact g1)⟩
  rcases he with ⟨rfl, rfl, rfl, rfl⟩ | ⟨rfl, rfl, rfl, rfl⟩ | ⟨id, rfl, rfl, rfl, rfl⟩
  · exact ⟨C.rec_ s p, fr.sub _ _ hB, hh⟩
  · exact ⟨C.rec_ s p, fr.sub _ _ hB, hh⟩
  · exact ⟨C.rec_ s p, fr.sub _ _ hB, hh⟩
end rules
end Go.Det
