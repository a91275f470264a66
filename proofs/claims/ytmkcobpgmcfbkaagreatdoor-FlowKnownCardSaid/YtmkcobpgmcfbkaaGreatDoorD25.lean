import Derived.Test.YtmkcobpgmcfbkaaGreatDoorD24
import Derived.JoinedOf
import Derived.OpenShut
set_option linter.unusedSimpArgs false
set_option linter.unusedVariables false
namespace Go.Det
open Go Go.RowKit Go.ChangeShapes
theorem SCall.calls {P : Program} {f : FuncId} {args args' : List Value} {H : Hp} {v : Value} (h : SCall P f args H fun e _ => e = .ret v) {X : Cx} {R : Ren} {w : World} (hG : GX P X) (hR : Rel X R H w) (ha : VRs R args args') :
    Calls P f ⟨args'⟩ w fun e w' => (∃ v' R', e = .returned v' ∧ VR R' v v') ∧ Below X.B X.w0 w' := by
  obtain ⟨en, H', q, k⟩ := h
  subst q
  intro cs
  obtain ⟨R', w', en', f', l, r, e, hf, hs, hl⟩ := k X R w args' hG hR ha cs
  cases e with
  | ret hv => exact ⟨_, w', f', ⟨⟨_, R', rfl, hv⟩, r.below⟩, hs, hf, hl⟩
def H0 (G : Nat) : Hp := { t := .nil, next := G, lo := G }
def R0 (G : Nat) : Ren := fun g => if g < G then some ⟨g, 0, 0, 0, false⟩ else none
theorem Rel.start (P : Program) (w : World) : Rel ⟨w.heap.size, w, P.globals.size, fun _ => none⟩ (R0 P.globals.size) (H0 P.globals.size) w := by
  have hg : ∀ b, (H0 P.globals.size).get b = none := fun b => rfl
  refine ⟨fun b x e => (by rw [hg] at e; cases e), fun b c i j x y e => (by rw [hg] at e; cases e), fun b h => ?_, fun b i e ho => ?_, Below.refl _ w, Nat.le_refl _, fun g h => ?_, Nat.le_refl _, fun k o h => (by cases h)⟩
  · have h : P.globals.size ≤ b := h
    simp only [R0]; rw [if_neg (by omega)]
  · unfold R0 at e
    split at e
    · cases e; cases ho
    · cases e
  · have h : g < P.globals.size := h
    refine ⟨_, by simp only [R0]; rw [if_pos h], rfl, rfl⟩
section
variable {Ht : Type} {enc : TypeId × Value → Ht}
theorem trodAll_stays {P : Program} (hl : laidOutB P = true) {W W' : World} (hb : Below W.heap.size W W') : ∀ {ts : List TypeId} {vs : List Value} {ds : List (DataW Ht)} {ps : List MemPlace}, (ts.all fun t => P.readableRec t && decide (t < P.types.size)) = true →
    DataW.TrodAll enc P W 0 (fun _ => true) true ts vs ds ps → DataW.TrodAll enc P W' 0 (fun b => decide (b < W.heap.size)) true ts vs ds ps
  | [], [], [], _, _, h => h
  | t :: ts, v :: vs, d :: ds, _, hr, ⟨p, q, h1, h2, e⟩ => by
    simp only [List.all_cons, Bool.and_eq_true, decide_eq_true_eq] at hr
    have hlt : ∀ x ∈ p, x.block < W.heap.size := by obtain ⟨m, hm⟩ := h1; exact DataW.trod_lt m _ _ _ hm
    exact ⟨p, q, Below.trod hl hr.1.1 hr.1.2 h1 hb hlt, trodAll_stays hl hb (by simpa using hr.2) h2, e⟩
theorem trodAll_length {P : Program} {W : World} {base : Nat} {sp : Nat → Bool} {held : Bool} : ∀ {ts : List TypeId} {vs : List Value} {ds : List (DataW Ht)} {ps : List MemPlace}, DataW.TrodAll enc P W base sp held ts vs ds ps → ds.length = ts.length
  | [], [], [], _, h => rfl
  | _ :: _, _ :: _, _ :: _, _, ⟨_, _, _, h2, _⟩ => by simp [trodAll_length h2]
theorem lifted_core {C : Checked} {f : FuncId} {fn : Func} {s : ChangeSpec} {n : Nat} {apart : Bool}
    (hl : laidOutB C.prog = true) (hr : (fn.params.toList.all fun t => C.prog.readableRec t && decide (t < C.prog.types.size)) = true) (hp : fn.params.toList.all (plainT C.prog n) = true)
    {rt : TypeId} (hrt : fn.resultTypes = #[rt]) (hub : C.prog.underlying rt = some .bool) (hvars : s.vars = [])
    (hs : ∀ (H : Type) (ds : List (DataW H)), ds.length = fn.params.size → s.fn H ds = { results := [.lit (.bool true)], args := ds })
    (law : ∀ (H : Hp) (args : List Value), C.prog.globals.size ≤ H.next → RdArgs C.prog H fn.params.toList args → SCall C.prog f args H (fun e _ => e = .ret (.bool true)))
    (W : World) (base : Nat) (args : Array Value) (ds gs : List (DataW Ht)) (before : List MemPlace)
    (hval : ∀ (j : Nat) t v, fn.params[j]? = some t → args[j]? = some v → Value.okWide C.prog W .any base t v)
    (hW : DataW.Whole enc C.prog fn.params.toList s.vars false W args.toList ds gs before)
    (hsz : (DataW.weightsEach C.prog (fn.params.toList ++ s.plain.varTypes C.prog) (ds ++ gs)).all (· ≤ reachBytes) = true) (hno : Laid W W.heap.size) :
    Calls C.prog f args W fun e W' => ∃ v, e = .returned v ∧ s.post enc C.prog fn false true false false W args v W' := by
  have hW' := hW
  obtain ⟨p, q, hA, hV, rfl, hfz, hnd⟩ := hW
  rw [hvars] at hV
  obtain ⟨rfl, rfl⟩ := trodVars_none hV
  have hvt : s.plain.varTypes C.prog = [] := by simp [ChangeSpec.plain, DataSpec.varTypes, hvars]
  rw [hvt, List.append_nil, List.append_nil] at hsz
  obtain ⟨R1, H1, avs, l1, e1, r1, v1, q1⟩ := open_args (X := ⟨W.heap.size, W, C.prog.globals.size, fun _ => none⟩) rfl (n := n) (base := base) fn.params.toList args.toList ds p hp
    (fun j t v a b => hval j t v (by simpa using a) (by simpa using b)) hA hsz _ _ (Rel.start C.prog W)
  have hlaw := law H1 avs e1.next q1
  refine (SCall.calls (args' := args.toList) hlaw ⟨rfl, hno⟩ r1 v1).mono fun e W' ⟨⟨v', R', he, hv⟩, hbel⟩ => ?_
  subst he
  cases hv
  have hlen := trodAll_length hA
  refine ⟨_, rfl, ds, [], _, [], p, [], hW', ?_, ?_, ?_, hbel.frame _, fun h => by cases h⟩
  · rw [List.append_nil, hs Ht ds (by simpa using hlen), hrt]
    exact trodAll_mk1 (shut_bool hub true)
  · rw [List.append_nil, hs Ht ds (by simpa using hlen)]
    exact trodAll_stays hl hbel hr hA
  · rw [List.append_nil, hs Ht ds (by simpa using hlen), hvars]
    rfl
theorem liftedX {C : Checked} {os : Os} {f : FuncId} {fn : Func} {s : ChangeSpec} {n : Nat} {X : World → Prop} (hX : ∀ w w' : World, w.heap = w'.heap → X w → X w') (hXl : ∀ w : World, X w → w.ShapedOpen C.prog → Laid w w.heap.size)
    (own : ownKnob C.prog.godebug = none) (started : os.Started) (noInit : C.prog.inits.idxOf? f = none) (hfn : C.prog.funcs[f]? = some fn)
    (witness : ∃ (w : World) (tape : Tape) (i : Input), w.os = os ∧ (w.forCall tape i).Shaped C.prog ∧ i.vars = [] ∧ Input.okWide C.prog (w.forCall tape i) .any w.heap.size f i ∧
      ((s.pre enc C.prog fn [] false (w.forCall tape i).memory i.args ∧ X (w.forCall tape i).memory) ∧ sizedMet enc C.prog fn (OpenSpec.ofChange s) false (w.forCall tape i).memory i.args) ∧ ({} : Assume).holds C.prog (lone (Frame.enter C.prog f i.args .normal) [] (w.forCall tape i)))
    (hl : laidOutB C.prog = true) (hr : (fn.params.toList.all fun t => C.prog.readableRec t && decide (t < C.prog.types.size)) = true) (hp : fn.params.toList.all (plainT C.prog n) = true)
    {rt : TypeId} (hrt : fn.resultTypes = #[rt]) (hub : C.prog.underlying rt = some .bool) (hvars : s.vars = [])
    (hs : ∀ (H : Type) (ds : List (DataW H)), ds.length = fn.params.size → s.fn H ds = { results := [.lit (.bool true)], args := ds })
    (law : ∀ (H : Hp) (args : List Value), C.prog.globals.size ≤ H.next → RdArgs C.prog H fn.params.toList args → SCall C.prog f args H (fun e _ => e = .ret (.bool true))) :
    ReturnsInHanded {} C os f .any (fun w args => (s.pre enc C.prog fn [] false w args ∧ X w) ∧ sizedMet enc C.prog fn (OpenSpec.ofChange s) false w args) (s.post enc C.prog fn false true false false) := by
  refine returnsInHanded_of_calls own started noInit witness ?_
  intro w tape i _ hsh _ hok hpre hholds
  obtain ⟨_, _, _, fn', hfn', _, _, _, _, hval⟩ := hok
  have e : fn' = fn := Option.some.inj (hfn'.symm.trans hfn)
  subst e
  obtain ⟨⟨⟨ds, gs, before, hw, hc⟩, hx⟩, hz⟩ := hpre
  have hw' := DataW.Whole.of_heap (w' := w.forCall tape i) (by rfl) hw
  refine (lifted_core (n := n) (apart := false) hl hr hp hrt hub hvars hs law (w.forCall tape i) w.heap.size i.args ds gs before hval hw' (hz.weights hw) (hXl _ (hX _ _ (by rfl) hx) hsh)).mono fun e W' ⟨v, he, hp⟩ => ?_
  subst he
  exact ChangeSpec.post_blind hp
end
end Go.Det
