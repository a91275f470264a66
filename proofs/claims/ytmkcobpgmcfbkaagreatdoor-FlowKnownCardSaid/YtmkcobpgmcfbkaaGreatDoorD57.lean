import Derived.Test.YtmkcobpgmcfbkaaGreatDoorD56
set_option linter.unusedSimpArgs false
set_option linter.unusedVariables false
namespace Go.Det
open Go Go.RowKit
structure LC where
  tmps : Array Value
  params : Array Tmp
  assign : Code
  body : Code
def LC.rec_ (c : LC) (s : LoopState) (p : Option Code) : Loop := { state := s, pending := p, fn := 0, tmps := c.tmps, params := c.params, assign := c.assign, body := c.body, defers := 0 }
def QB (l : Nat) (K : Bool → Hp → Prop) : Ex → SS → Prop
  | .normal, s => ∃ r, s.H.get l = some (.loop r) ∧ K true (s.H.put l (.loop { r with state := .ready, pending := none }))
  | .ret, s => ∃ r, s.H.get l = some (.loop r) ∧ K false (s.H.put l (.loop { r with state := .done, pending := some .ret }))
  | .exit id, s => ∃ r, s.H.get l = some (.loop r) ∧ K false (s.H.put l (.loop { r with state := .done, pending := some (.exit id) }))
  | .panic _, _ => False
def QA (P : Program) (l : Nat) (body : Code) (Q : Ex → SS → Prop) : Ex → SS → Prop
  | .normal, s => ∃ r, s.H.get l = some (.loop r) ∧ r.state = .ready ∧ J P body Q { s with H := s.H.put l (.loop { r with state := .busy }) }
  | _, _ => False
section jk
variable {P : Program} {Q : Ex → SS → Prop} {k : KK} {s : SS}
theorem JK.rangeFunc {g : Operand} {ps : Array Tmp} {assign body : Code} {f : FuncId} {first caps T : List Value} {r0 : Res} (hg : evS P s g = some (.func (.func f) ⟨first⟩ ⟨caps⟩)) (he : enterD P f [] = some r0) (hdok : s.dok = true) (hT : T.length = s.n) (hTv : ∀ (t : Nat) (v : Value), T[t]? = some v → v.cells ≠ #[] → look s.l t = some v)
    (h : SCall P f (first ++ [.func (.yield s.H.next) ⟨[]⟩ ⟨[]⟩] ++ caps) (s.H.alloc (.loop { state := .ready, pending := none, fn := 0, tmps := ⟨T⟩, params := ps, assign := assign, body := body, defers := 0 })) fun
      | .ret _, H2 => ∃ (r : Loop) (p : Option Code), H2.get s.H.next = some (.loop r) ∧ r.state ≠ .busy ∧ r.pending = p ∧ (match p with
        | none => JK P k Q { s with H := H2.put s.H.next (.loop { r with state := .exhausted }) }
        | some c => JK P (.code c :: k) Q { s with H := H2.put s.H.next (.loop { r with state := .exhausted }) })
      | .panic v, H2 => Q (.panic v) { s with H := H2 }) : JK P (.code (.rangeFunc g ps assign body) :: k) Q s := by
  show J P (.rangeFunc g ps assign body) (QK P k Q) s
  refine SC.rangeFunc (by rw [evS_eq]; exact hg) he hdok hT hTv (h.mono fun e H2 q => ?_)
  cases e with
  | ret v =>
    obtain ⟨r, p, h1, h2, h3, h4⟩ := q
    refine ⟨r, p, h1, h2, h3, ?_⟩
    cases p with
    | none => exact ⟨_, rfl, h4⟩
    | some c => exact h4
  | panic v => exact ⟨_, rfl, by rw [QK_panic]; exact q⟩
theorem JK.yield {a : Array Oper} {m i : Nat} {o : Oper} {l : Nat} {args : List Value} {rec : Loop} {K : Bool → Hp → Prop} {s1 : SS} (ho : a[i]? = some o) (hg : gdS a s o = some true) (hd : notDefer o.op = true) (he : opD P s.H (evS P s) o = some (.yield l args)) (hf : putS s o.dst undef s.H = some s1) (hH : s.H.get l = some (.loop rec)) (hn : args.length = rec.params.size)
    (hK : ∀ b H', K b H' → ∃ s', putS s o.dst (.bool b) H' = some s' ∧ JK P (.ops a m (i + 1) :: k) Q s')
    {s0 : SS} (hle : s0.st.le (roundSt rec args s.H)) (h : J P rec.assign (QA P l rec.body (QB l K)) s0) : JK P (.ops a (m + 1) i :: k) Q s := by
  show SL P a (List.range' i (m + 1)) _ s.st
  rw [List.range'_succ]
  refine SL.yield (K := K) ho (by rw [gdS_eq]; exact hg) hd (by rw [evS_eq]; exact he) (putS_ok hf).2 hH hn (fun b H' q => ?_) ?_
  · obtain ⟨s', h1, h2⟩ := hK b H' q
    obtain ⟨h3, _⟩ := putS_ok h1
    rw [← h3]; exact h2
  · refine SI.le hle (SI.mono h fun e t ⟨s', h1, h2⟩ => ?_)
    subst h1
    cases e with
    | normal =>
      obtain ⟨r, g1, g2, g3⟩ := h2
      refine ⟨r, g1, g2, SI.mono g3 fun e2 t2 ⟨s2, k1, k2⟩ => ?_⟩
      subst k1
      cases e2 <;> exact k2
    | _ => exact h2.elim
end jk
section rules
variable {P : Program} {Q : Ex → SS → Prop} {n n' : NN} {B0 B : Hp} {own : List OwnE} {k k' : KK} {x x' x'' : VS} (N : Nat)
theorem WF.putLoop {ids : Nat → Nat} {H : Hp} {lp : Nat} {C : LC} {s : LoopState} {p : Option Code} (fr : WF B0 B own [] ids H) (hB : B.get lp = some (.loop (C.rec_ s p))) (h0 : B0.next ≤ lp) (s' : LoopState) (p' : Option Code) :
    WF B0 (B.with_ lp B.next (.loop (C.rec_ s' p'))) own [] (fun _ => 0) (H.put lp (.loop (C.rec_ s' p'))) ∧ Abv 0 B (B.with_ lp B.next (.loop (C.rec_ s' p'))) ∧ (∀ c z, c ≠ lp → B.get c = some z → (B.with_ lp B.next (.loop (C.rec_ s' p'))).get c = some z) ∧ (B.with_ lp B.next (.loop (C.rec_ s' p'))).get lp = some (.loop (C.rec_ s' p')) :=
  ⟨(fr.putB hB h0).noLoc, ⟨Nat.le_refl _, fun c m0 cs _ _ e => by rw [Hp.get_with, if_neg (fun q => by rw [q, hB] at e; cases e)]; exact e⟩, fun c z q e => by rw [Hp.get_with, if_neg q]; exact e, by rw [Hp.get_with, if_pos rfl]⟩
end rules
end Go.Det
