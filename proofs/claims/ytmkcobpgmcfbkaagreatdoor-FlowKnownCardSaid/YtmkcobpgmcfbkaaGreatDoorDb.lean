import Derived.Test.YtmkcobpgmcfbkaaGreatDoorDa
import Derived.Test.YtmkcobpgmcfbkaaGreatDoorSeat
import Derived.RangeFuncLeaves
import Derived.RangeFuncRecord
set_option linter.unusedSimpArgs false
set_option linter.unusedVariables false
namespace Go.Det
open Go Go.RowKit
def fr (b : Frame) (a : Act) (todo : List Item) : Frame :=
  { fn := b.fn, tmps := a.tmps, todo, defers := a.defers, mode := .run, kind := b.kind, roundOf := b.roundOf }
theorem fr_eval (b : Frame) (a : Act) (todo : List Item) (x : Operand) : (fr b a todo).eval x = a.eval x := by
  cases x <;> rfl
theorem fr_eval' (b : Frame) (a : Act) (todo : List Item) : (fr b a todo).eval = a.eval := funext (fr_eval b a todo)
theorem fr_finish (b : Frame) (a : Act) (ops : Array Oper) (i : Nat) (rest : List Nat) (k : List Item) (v : Value) :
    (fr b a (.inRegion ops (i :: rest) :: k)).finish v = fr b (a.put ((ops[i]?).bind (·.dst)) v) (.inRegion ops rest :: k) := by
  cases h : (ops[i]?).bind (·.dst) <;> simp [Frame.finish, fr, Act.put, h]
theorem fr_raise (b : Frame) (a : Act) (todo : List Item) (chain : List PanicEntry) :
    (fr b a todo).raise chain = { fr b a todo with mode := .panicking chain } := rfl
section moves
variable {P : Program} {b : Frame} {a : Act} {k : List Item} {cs : List Frame} {w : World}
theorem s_skip : step P (lone (fr b a (.code .skip :: k)) cs w) = .next (lone (fr b a k) cs w) :=
  step_lone_go (by simp [stepG, stepG.exec, fr])
theorem s_label {l : Nat} : step P (lone (fr b a (.code (.label l) :: k)) cs w) = .next (lone (fr b a k) cs w) :=
  step_lone_go (by simp [stepG, stepG.exec, fr])
theorem s_inBlock {id : Nat} : step P (lone (fr b a (.inBlock id :: k)) cs w) = .next (lone (fr b a k) cs w) :=
  step_lone_go (by simp [stepG, stepG.exec, fr])
theorem s_inScope {c : Code} : step P (lone (fr b a (.inScope c :: k)) cs w) = .next (lone (fr b a k) cs w) :=
  step_lone_go (by simp [stepG, stepG.exec, fr])
theorem s_seq {x y : Code} : step P (lone (fr b a (.code (.seq x y) :: k)) cs w) = .next (lone (fr b a (.code x :: .code y :: k)) cs w) :=
  step_lone_go (by simp [stepG, stepG.exec, fr])
theorem s_cond {c : Operand} {x y : Code} {t : Bool} (h : a.eval c = .bool t) :
    step P (lone (fr b a (.code (.cond c x y) :: k)) cs w) = .next (lone (fr b a (.code (if t then x else y) :: k)) cs w) :=
  step_lone_go (by
    have := fr_eval b a (.code (.cond c x y) :: k) c
    simp only [fr] at this
    simp [stepG, stepG.exec, fr, this, h])
theorem s_block {id : Nat} {c : Code} : step P (lone (fr b a (.code (.block id c) :: k)) cs w) = .next (lone (fr b a (.code c :: .inBlock id :: k)) cs w) :=
  step_lone_go (by simp [stepG, stepG.exec, fr])
theorem s_loop {c : Code} : step P (lone (fr b a (.code (.loop c) :: k)) cs w) = .next (lone (fr b a (.code c :: .inLoop c :: k)) cs w) :=
  step_lone_go (by simp [stepG, stepG.exec, fr])
theorem s_inLoop {c : Code} : step P (lone (fr b a (.inLoop c :: k)) cs w) = .next (lone (fr b a (.code c :: .inLoop c :: k)) cs w) :=
  step_lone_go (by simp [stepG, stepG.exec, fr])
theorem s_scope {c : Code} : step P (lone (fr b a (.code (.scope c) :: k)) cs w) = .next (lone (fr b a (.code c :: .inScope c :: k)) cs w) :=
  step_lone_go (by simp [stepG, stepG.exec, fr])
theorem s_exit {id : Nat} {k' : List Item} (h : exitTo id k = some k') :
    step P (lone (fr b a (.code (.exit id) :: k)) cs w) = .next (lone (fr b a k') cs w) :=
  step_lone_go (by simp [stepG, stepG.exec, fr, h])
theorem s_ret (hb : b.roundOf = none) : step P (lone (fr b a (.code .ret :: k)) cs w) = .next (lone { fr b a (.code .ret :: k) with mode := .returning } cs w) :=
  step_lone_go (by simp [stepG, stepG.exec, fr, hb])
theorem s_end (hb : b.roundOf = none) : step P (lone (fr b a []) cs w) = .next (lone { fr b a [] with mode := .returning } cs w) :=
  step_lone_go (by simp [stepG, stepG.exec, fr, hb])
variable {ops : Array Oper}
theorem s_region {id : Nat} : step P (lone (fr b a (.code (.region id ops false) :: k)) cs w) = .next (lone (fr b a (.inRegion ops (List.range ops.size) :: k)) cs w) :=
  step_lone_go (by simp [stepG, stepG.exec, fr])
theorem s_region_draw {id : Nat} : step P (lone (fr b a (.code (.region id ops true) :: k)) cs w) =
    .next (lone (fr b a (.inRegion ops (Region.schedule (P.follows .mixedOrders) ops (w.tape w.drawn (.order b.fn id))) :: k)) cs w.drew) :=
  step_lone_go (by simp [stepG, stepG.exec, fr, choose, Sem.run, Question.forced, Question.cut])
theorem s_region_end : step P (lone (fr b a (.inRegion ops [] :: k)) cs w) = .next (lone (fr b a k) cs w) :=
  step_lone_go (by simp [stepG, stepG.exec, fr])
theorem s_op_skip {i : Nat} {rest : List Nat} (h : ((ops[i]?).map (Region.wanted · (yielded ops a.tmps))).getD false = false) :
    step P (lone (fr b a (.inRegion ops (i :: rest) :: k)) cs w) = .next (lone (fr b (a.put ((ops[i]?).bind (·.dst)) undef) (.inRegion ops rest :: k)) cs w) := by
  rw [← fr_finish]
  exact step_lone_go (by
    have h' := h
    simp only [fr] at *
    simp [stepG, stepG.exec, h'])
theorem s_op {i : Nat} {rest : List Nat} {o : Oper} (ho : ops[i]? = some o) (hw : Region.wanted o (yielded ops a.tmps) = true) (hd : b.roundOf = none ∨ ∀ c, o.op ≠ .defer c) :
    stepG P true { frame := fr b a (.inRegion ops (i :: rest) :: k), callers := cs, status := .running, dying := none } w =
      stepG.apply P true (fr b a (.inRegion ops (i :: rest) :: k)) cs none (execOp a.eval o) w := by
  have he := fr_eval' b a (.inRegion ops (i :: rest) :: k)
  simp only [fr] at he
  cases hb : b.roundOf with
  | none =>
    rw [hb] at he
    simp [stepG, stepG.exec, stepG.oper, Frame.oper?, fr, ho, hw, he, hb]
  | some l =>
    have hd' : ∀ c, o.op ≠ .defer c := by
      rcases hd with hd | hd
      · rw [hb] at hd; cases hd
      · exact hd
    rw [hb] at he
    simp only [stepG, stepG.exec, stepG.oper, Frame.oper?, fr, ho, hb, Option.map_some, hw, Option.getD_some, if_true, List.head?_cons, Bool.true_eq_false, if_false, he]
    split
    · exact absurd (by assumption) (hd' _)
    · rfl
theorem s_op_val {i : Nat} {rest : List Nat} {o : Oper} (ho : ops[i]? = some o) (hw : Region.wanted o (yielded ops a.tmps) = true) (hd : b.roundOf = none ∨ ∀ c, o.op ≠ .defer c) {v : Value} {w' : World}
    (hr : (execOp a.eval o).run P w = .ok (.value v) w') :
    step P (lone (fr b a (.inRegion ops (i :: rest) :: k)) cs w) = .next (lone (fr b (a.put o.dst v) (.inRegion ops rest :: k)) cs w') := by
  have hfin : (fr b a (.inRegion ops (i :: rest) :: k)).finish v = fr b (a.put o.dst v) (.inRegion ops rest :: k) := by rw [fr_finish, ho]; rfl
  refine step_lone_go ?_
  rw [s_op ho hw hd, ← hfin]; simp [stepG.apply, hr]
theorem s_op_unit {i : Nat} {rest : List Nat} {o : Oper} (ho : ops[i]? = some o) (hw : Region.wanted o (yielded ops a.tmps) = true) (hd : b.roundOf = none ∨ ∀ c, o.op ≠ .defer c) {w' : World}
    (hr : (execOp a.eval o).run P w = .ok .skip w') :
    step P (lone (fr b a (.inRegion ops (i :: rest) :: k)) cs w) = .next (lone (fr b (a.put o.dst undef) (.inRegion ops rest :: k)) cs w') := by
  have hfin : (fr b a (.inRegion ops (i :: rest) :: k)).finish undef = fr b (a.put o.dst undef) (.inRegion ops rest :: k) := by rw [fr_finish, ho]; rfl
  refine step_lone_go ?_
  rw [s_op ho hw hd, ← hfin]; simp [stepG.apply, hr]
theorem s_op_enter {i : Nat} {rest : List Nat} {o : Oper} (ho : ops[i]? = some o) (hw : Region.wanted o (yielded ops a.tmps) = true) (hd : b.roundOf = none ∨ ∀ c, o.op ≠ .defer c) {f : FuncId} {args : Array Value} {w' : World}
    (hr : (execOp a.eval o).run P w = .ok (.enter f args) w') :
    step P (lone (fr b a (.inRegion ops (i :: rest) :: k)) cs w) = .next (lone (Frame.enter P f args .normal) (fr b a (.inRegion ops (i :: rest) :: k) :: cs) w') := by
  refine step_lone_go ?_
  rw [s_op ho hw hd]; simp [stepG.apply, hr, fr]
theorem s_op_panic {i : Nat} {rest : List Nat} {o : Oper} (ho : ops[i]? = some o) (hw : Region.wanted o (yielded ops a.tmps) = true) (hd : b.roundOf = none ∨ ∀ c, o.op ≠ .defer c) {v : Value} {w' : World}
    (hr : (execOp a.eval o).run P w = .halt (.panic v) w') :
    step P (lone (fr b a (.inRegion ops (i :: rest) :: k)) cs w) = .next (lone { fr b a (.inRegion ops (i :: rest) :: k) with mode := .panicking [{ v, recovered := false }] } cs w') := by
  refine step_lone_go ?_
  rw [s_op ho hw hd, ← fr_raise]; simp [stepG.apply, hr]
theorem s_op_defer {i : Nat} {rest : List Nat} {o : Oper} (ho : ops[i]? = some o) (hw : Region.wanted o (yielded ops a.tmps) = true) (hd : b.roundOf = none) {d : Deferred} {w' : World}
    (hr : (execOp a.eval o).run P w = .ok (.defer d) w') :
    step P (lone (fr b a (.inRegion ops (i :: rest) :: k)) cs w) = .next (lone (fr b ({ a with defers := d :: a.defers }.put o.dst undef) (.inRegion ops rest :: k)) cs w') := by
  have : ({ fr b a (.inRegion ops (i :: rest) :: k) with defers := d :: a.defers } : Frame).finish undef =
      fr b ({ a with defers := d :: a.defers }.put o.dst undef) (.inRegion ops rest :: k) := by
    have := fr_finish b { a with defers := d :: a.defers } ops i rest k undef
    rw [ho] at this; exact this
  refine step_lone_go ?_
  rw [s_op ho hw (.inl hd)]; simp only [stepG.apply, Sem.runT_eq, hr, GStep.bare_after]
  exact congrArg (fun f => GStep.go { frame := f, callers := cs, status := .running, dying := none } w') this
end moves
end Go.Det

set_option linter.unusedSimpArgs false
set_option linter.unusedVariables false
namespace Go.Det
open Go Go.RowKit
def Laid (w : World) (B : Nat) : Prop :=
  (∀ p ∈ seatCells, p.1 < B ∧ ∃ t fr, w.heap[p.1]? = some (.cells ⟨p.2⟩ t fr)) ∧
  (∀ g ∈ seatInts, g < B ∧ ∃ m, w.cell? ⟨g, 0, none⟩ = some (.int .i64 m)) ∧
  ∀ g ∈ seatIfs, g < B ∧ ∃ t z, w.cell? ⟨g, 0, none⟩ = some (.iface t z)
theorem Laid.mono {w w' : World} {B : Nat} (h : Laid w B) (k : Below B w w') : Laid w' B :=
  ⟨fun p hp => ⟨(h.1 p hp).1, let ⟨t, fr, e⟩ := (h.1 p hp).2; ⟨t, fr, (k.block p.1 (h.1 p hp).1).trans e⟩⟩,
   fun g hg => ⟨(h.2.1 g hg).1, let ⟨m, e⟩ := (h.2.1 g hg).2; ⟨m, (k.cell (p := ⟨g, 0, none⟩) (h.2.1 g hg).1).trans e⟩⟩,
   fun g hg => ⟨(h.2.2 g hg).1, let ⟨t, z, e⟩ := (h.2.2 g hg).2; ⟨t, z, (k.cell (p := ⟨g, 0, none⟩) (h.2.2 g hg).1).trans e⟩⟩⟩
theorem Laid.le {w : World} {B B' : Nat} (h : Laid w B) (k : B ≤ B') : Laid w B' :=
  ⟨fun p hp => ⟨Nat.lt_of_lt_of_le (h.1 p hp).1 k, (h.1 p hp).2⟩, fun g hg => ⟨Nat.lt_of_lt_of_le (h.2.1 g hg).1 k, (h.2.1 g hg).2⟩, fun g hg => ⟨Nat.lt_of_lt_of_le (h.2.2 g hg).1 k, (h.2.2 g hg).2⟩⟩
structure GX (P : Program) (X : Cx) : Prop where
  g : X.G = P.globals.size
  laid : Laid X.w0 X.B
structure St where
  env : Nat → Option Value
  n : Nat
  H : Hp
  defs : List (Value × List Value)
  dok : Bool
def St.put (st : St) (dst : Option Tmp) (v : Value) : St :=
  match dst with
  | none => st
  | some t => { st with env := fun t' => if t' = t then some v else st.env t' }
def St.at_ (st : St) (H : Hp) : St := { st with H := H }
def St.fits (st : St) (dst : Option Tmp) : Prop := ∀ t, dst = some t → t < st.n
inductive DefsR (R : Ren) : List (Value × List Value) → List Deferred → Prop where
  | nil : DefsR R [] []
  | cons {f : FuncId} {x y x' y' args args' : List Value} {l : List (Value × List Value)} {l' : List Deferred} (hx : VRs R x x') (hy : VRs R y y') (ha : VRs R args args') (h : DefsR R l l') :
      DefsR R ((.func (.func f) ⟨x⟩ ⟨y⟩, args) :: l) ({ target := .fn (.func f) ⟨y'⟩, args := ⟨x' ++ args'⟩ } :: l')
  | mark (m : Nat) {l : List (Value × List Value)} {l' : List Deferred} (h : DefsR R l l') : DefsR R l ({ target := .collected m, args := #[] } :: l')
theorem DefsR.mono {R R' : Ren} (h : R.le R') : ∀ {l : List (Value × List Value)} {l' : List Deferred}, DefsR R l l' → DefsR R' l l'
  | _, _, .nil => .nil
  | _, _, .cons hx hy ha k => .cons (hx.mono h) (hy.mono h) (ha.mono h) (DefsR.mono h k)
  | _, _, .mark m k => .mark m (DefsR.mono h k)
def marks : List Deferred → List Nat
  | [] => []
  | d :: l => match d.target with
    | .collected m => m :: marks l
    | _ => marks l
structure MK (X : Cx) (a : Act) : Prop where
  kept : ∀ m, m ∈ marks a.defers → X.kept m = some (.deferred (some []))
  nodup : (marks a.defers).Nodup
structure Cx.le (X X' : Cx) : Prop where
  B : X'.B = X.B
  w0 : X'.w0 = X.w0
  G : X'.G = X.G
  kept : ∀ k o, X.kept k = some o → X'.kept k = some o
theorem Cx.le.refl (X : Cx) : X.le X := ⟨rfl, rfl, rfl, fun _ _ h => h⟩
theorem Cx.le.trans {X Y Z : Cx} (h : X.le Y) (k : Y.le Z) : X.le Z := ⟨k.B.trans h.B, k.w0.trans h.w0, k.G.trans h.G, fun b o q => k.kept b o (h.kept b o q)⟩
theorem Cx.le.gx {P : Program} {X X' : Cx} (h : X.le X') (k : GX P X) : GX P X' := ⟨by rw [h.G]; exact k.g, by rw [h.w0, h.B]; exact k.laid⟩
structure Grow (X : Cx) (a : Act) (X' : Cx) (a' : Act) : Prop where
  le : X.le X'
  new : ∀ m, m ∈ marks a'.defers → m ∈ marks a.defers ∨ X.kept m = none
theorem Grow.refl (X : Cx) (a : Act) : Grow X a X a := ⟨Cx.le.refl X, fun _ h => .inl h⟩
theorem Grow.same {X X' : Cx} {a a' a1 : Act} (h : Grow X a X' a1) (e : a'.defers = a.defers) : Grow X a' X' a1 := ⟨h.le, fun m q => by rw [e]; exact h.new m q⟩
theorem Grow.trans {X Y Z : Cx} {a b c : Act} (h : Grow X a Y b) (k : Grow Y b Z c) : Grow X a Z c :=
  ⟨h.le.trans k.le, fun m q => by
    rcases k.new m q with r | r
    · exact h.new m r
    · refine .inr ?_
      cases e : X.kept m with
      | none => rfl
      | some o => have := h.le.kept m o e; rw [r] at this; cases this⟩
theorem Grow.gx {P : Program} {X X' : Cx} {a a' : Act} (h : Grow X a X' a') (k : GX P X) : GX P X' := h.le.gx k
theorem MK.same {X : Cx} {a a' : Act} (h : MK X a) (e : a'.defers = a.defers) : MK X a' := ⟨by rw [e]; exact h.kept, by rw [e]; exact h.nodup⟩
theorem Rel.forget {X X' : Cx} {R : Ren} {H : Hp} {w : World} (h : X.le X') (k : Rel X' R H w) : Rel X R H w :=
  ⟨fun b x e => by have := k.blk b x e; rw [h.B] at this; exact this, k.inj, k.free, k.lt, by have := k.below; rw [h.B, h.w0] at this; exact this, by have := k.size; rw [h.B] at this; exact this, fun g hg => k.glob g (by rw [h.G]; exact hg), by have := k.gle; rw [h.G] at this; exact this, fun q o e => by have := k.kept q o (h.kept q o e); rw [h.B] at this; exact this⟩
structure StR (R : Ren) (st : St) (a : Act) : Prop where
  size : a.tmps.size = st.n
  env : ∀ t v, st.env t = some v → t < st.n ∧ VR R v (a.tmps.getD t undef)
  defs : DefsR R st.defs a.defers
theorem StR.mono {R R' : Ren} (h : R.le R') {st : St} {a : Act} (k : StR R st a) : StR R' st a :=
  ⟨k.size, fun t v e => ⟨(k.env t v e).1, (k.env t v e).2.mono h⟩, k.defs.mono h⟩
theorem StR.put {R : Ren} {st : St} {a : Act} (k : StR R st a) {dst : Option Tmp} (hf : st.fits dst) {v v' : Value} (hv : VR R v v') : StR R (st.put dst v) (a.put dst v') := by
  cases dst with
  | none => exact k
  | some t =>
    have ht := hf t rfl
    refine ⟨by simp [Act.put, St.put, k.size], fun u x e => ?_, k.defs⟩
    simp only [St.put] at e ⊢
    by_cases hu : u = t
    · subst hu
      rw [if_pos rfl] at e; cases e
      refine ⟨ht, ?_⟩
      simp only [Act.put]
      rw [Array.getD_eq_getD_getElem?, Array.getElem?_setIfInBounds]
      simp [k.size, ht, hv]
    · rw [if_neg hu] at e
      refine ⟨(k.env u x e).1, ?_⟩
      have := (k.env u x e).2
      rw [Array.getD_eq_getD_getElem?] at this ⊢
      simp only [Act.put]
      rw [Array.getElem?_setIfInBounds, if_neg (fun q => hu q.symm)]
      exact this
structure St.le (s t : St) : Prop where
  env : ∀ x v, s.env x = some v → t.env x = some v
  n : t.n = s.n
  H : t.H = s.H
  defs : t.defs = s.defs
  dok : t.dok = s.dok
theorem StR.le {R : Ren} {s t : St} (h : s.le t) {a : Act} (k : StR R t a) : StR R s a :=
  ⟨k.size.trans h.n, fun x v e => by have := k.env x v (h.env x v e); rw [h.n] at this; exact this, by rw [← h.defs]; exact k.defs⟩
def evOf (P : Program) (st : St) : Ev
  | .tmp t => st.env t
  | .const v => if flat v then some v else none
  | .global g => if g < P.globals.size then some (.pointer (some ⟨g, 0, none⟩)) else none
  | .func f => some (.func (.func f) ⟨[]⟩ ⟨[]⟩)
theorem evOf_ok {P : Program} {X : Cx} (hG : GX P X) {R : Ren} {st : St} {a : Act} {w : World} (h : Rel X R st.H w) (k : StR R st a) : EvR R (evOf P st) a.eval := by
  intro x v e
  cases x with
  | tmp t => exact (k.env t v e).2
  | const u =>
    simp only [evOf] at e
    split at e
    · cases e; rename_i hf; exact flat_refl hf
    · cases e
  | global g =>
    simp only [evOf] at e
    split at e
    case isFalse => cases e
    case isTrue hg =>
      cases e
      obtain ⟨i, hi, h1, h2⟩ := h.glob g (by rw [hG.g]; exact hg)
      exact .ptr ⟨rfl, rfl, i, hi, h1.symm, by simp [h2]⟩
  | func f => simp only [evOf] at e; cases e; exact .func (.func f) .nil .nil
inductive Ex where
  | normal
  | exit (id : Nat)
  | ret
  | panic (v : Value)
inductive En where
  | ret (v : Value)
  | panic (v : Value)
inductive ExR (R : Ren) : Ex → Ex → Prop where
  | normal : ExR R .normal .normal
  | exit (id : Nat) : ExR R (.exit id) (.exit id)
  | ret : ExR R .ret .ret
  | panic {v v' : Value} (h : VR R v v') : ExR R (.panic v) (.panic v')
theorem ExR.mono {R R' : Ren} (h : R.le R') {e e' : Ex} (k : ExR R e e') : ExR R' e e' := by
  cases k with
  | panic hv => exact .panic (hv.mono h)
  | _ => constructor
inductive EnR (R : Ren) : En → En → Prop where
  | ret {v v' : Value} (h : VR R v v') : EnR R (.ret v) (.ret v')
  | panic {v v' : Value} (h : VR R v v') : EnR R (.panic v) (.panic v')
def Arr (P : Program) (m : Machine) (b : Frame) (K : List Item) (cs : List Frame) : Ex → Act → World → Prop
  | .normal, a, w => Steps P m (lone (fr b a K) cs w)
  | .exit id, a, w => ∃ J, (∀ k, exitTo id (J ++ k) = exitTo id k) ∧ Steps P m (lone (fr b a (.code (.exit id) :: (J ++ K))) cs w)
  | .ret, a, w => ∃ J, Steps P m (lone (fr b a (.code .ret :: J)) cs w)
  | .panic v, a, w => ∃ J, Steps P m (lone { fr b a J with mode := .panicking [{ v, recovered := false }] } cs w)
theorem Arr.of_steps {P : Program} {m m₁ : Machine} {b : Frame} {K : List Item} {cs : List Frame} {e : Ex} {a : Act} {w : World} (h : Steps P m m₁) (k : Arr P m₁ b K cs e a w) : Arr P m b K cs e a w := by
  cases e with
  | normal => exact h.trans k
  | exit id => obtain ⟨J, x, y⟩ := k; exact ⟨J, x, h.trans y⟩
  | ret => obtain ⟨J, y⟩ := k; exact ⟨J, h.trans y⟩
  | panic v => obtain ⟨J, y⟩ := k; exact ⟨J, h.trans y⟩
theorem Arr.pass {P : Program} {m : Machine} {b : Frame} {it : Item} {K : List Item} {cs : List Frame} {e : Ex} {a : Act} {w : World} (hne : e ≠ .normal) (hit : ∀ id k, e = .exit id → exitTo id (it :: k) = exitTo id k)
    (h : Arr P m b (it :: K) cs e a w) : Arr P m b K cs e a w := by
  cases e with
  | normal => exact absurd rfl hne
  | exit id =>
    obtain ⟨J, x, y⟩ := h
    refine ⟨J ++ [it], fun k => ?_, by simpa using y⟩
    rw [List.append_assoc, x]
    exact hit id k rfl
  | ret => exact h
  | panic v => exact h
def SI (P : Program) (it : Item) (Q : Ex → St → Prop) (st : St) : Prop :=
  ∃ ex st', Q ex st' ∧ ∀ (X : Cx) (R : Ren) (a : Act) (w : World), GX P X → Rel X R st.H w → StR R st a → MK X a → ∀ (b : Frame) (K : List Item) (cs : List Frame), (st.dok = true → b.roundOf = none) →
    ∃ (X' : Cx) (R' : Ren) (a' : Act) (w' : World) (ex' : Ex), Grow X a X' a' ∧ R.le R' ∧ Rel X' R' st'.H w' ∧ StR R' st' a' ∧ MK X' a' ∧ ExR R' ex ex' ∧ st'.dok = st.dok ∧ Arr P (lone (fr b a (it :: K)) cs w) b K cs ex' a' w'
abbrev SC (P : Program) (c : Code) (Q : Ex → St → Prop) (st : St) : Prop := SI P (.code c) Q st
abbrev SL (P : Program) (ops : Array Oper) (is : List Nat) (Q : Ex → St → Prop) (st : St) : Prop := SI P (.inRegion ops is) Q st
def SCall (P : Program) (f : FuncId) (args : List Value) (H : Hp) (Q : En → Hp → Prop) : Prop :=
  ∃ en H', Q en H' ∧ ∀ (X : Cx) (R : Ren) (w : World) (args' : List Value), GX P X → Rel X R H w → VRs R args args' → ∀ (cs : List Frame),
    ∃ (R' : Ren) (w' : World) (en' : En) (f' : Frame), R.le R' ∧ Rel X R' H' w' ∧ EnR R' en en' ∧ f'.fn = f ∧ Steps P (lone (Frame.enter P f ⟨args'⟩ .normal) cs w) (lone f' cs w') ∧
      f'.leaving P w' (match en' with | .ret v => .returned v | .panic v => .panicked [{ v, recovered := false }])
section rules
variable {P : Program} {Q : Ex → St → Prop} {st : St}
theorem SI.mono {it : Item} {Q' : Ex → St → Prop} (h : SI P it Q st) (hq : ∀ e s, Q e s → Q' e s) : SI P it Q' st :=
  let ⟨ex, s, q, k⟩ := h; ⟨ex, s, hq _ _ q, k⟩
theorem SI.le {it : Item} {s : St} (h : s.le st) (k : SI P it Q s) : SI P it Q st := by
  obtain ⟨ex, s', q, k⟩ := k
  refine ⟨ex, s', q, fun X R a w hG hR hS hM b K cs hb => ?_⟩
  have := k X R a w hG (by rw [← h.H]; exact hR) (hS.le h) hM b K cs (by rw [← h.dok]; exact hb)
  rw [← h.dok] at this
  exact this
theorem SCall.mono {f : FuncId} {args : List Value} {H : Hp} {Q Q' : En → Hp → Prop} (h : SCall P f args H Q) (hq : ∀ e s, Q e s → Q' e s) : SCall P f args H Q' :=
  let ⟨ex, s, q, k⟩ := h; ⟨ex, s, hq _ _ q, k⟩
def andThen (Q : Ex → St → Prop) (K : St → Prop) : Ex → St → Prop
  | .normal, s => K s
  | e, s => Q e s
theorem SI.chain {it it1 it2 : Item} (hs : ∀ (b : Frame) (a : Act) (K : List Item) (cs : List Frame) (w : World), step P (lone (fr b a (it :: K)) cs w) = .next (lone (fr b a (it1 :: it2 :: K)) cs w))
    (hit : ∀ id k, exitTo id (it2 :: k) = exitTo id k) (h : SI P it1 (andThen Q (SI P it2 Q)) st) : SI P it Q st := by
  obtain ⟨ex, s1, q, k⟩ := h
  cases ex with
  | normal =>
    obtain ⟨ex2, s2, q2, k2⟩ := q
    refine ⟨ex2, s2, q2, fun X R a w hG hR hS hM b K cs hb => ?_⟩
    obtain ⟨X1, R1, a1, w1, ex1, x1, l1, r1, t1, m1, e1, d1, A1⟩ := k X R a w hG hR hS hM b (it2 :: K) cs hb
    cases e1
    obtain ⟨X2, R2, a2, w2, ex2', x2, l2, r2, t2, m2, e2, d2, A2⟩ := k2 X1 R1 a1 w1 (x1.gx hG) r1 t1 m1 b K cs (by rw [d1]; exact hb)
    exact ⟨X2, R2, a2, w2, ex2', x1.trans x2, Ren.le_trans l1 l2, r2, t2, m2, e2, d2.trans d1, .of_steps (.head (hs ..) A1) A2⟩
  | exit id =>
    refine ⟨_, s1, q, fun X R a w hG hR hS hM b K cs hb => ?_⟩
    obtain ⟨X1, R1, a1, w1, ex1, x1, l1, r1, t1, m1, e1, d1, A1⟩ := k X R a w hG hR hS hM b (it2 :: K) cs hb
    cases e1
    exact ⟨X1, R1, a1, w1, _, x1, l1, r1, t1, m1, .exit id, d1, .of_steps (.one (hs ..)) (A1.pass (by intro h; cases h) (fun id k h => hit id k))⟩
  | ret =>
    refine ⟨_, s1, q, fun X R a w hG hR hS hM b K cs hb => ?_⟩
    obtain ⟨X1, R1, a1, w1, ex1, x1, l1, r1, t1, m1, e1, d1, A1⟩ := k X R a w hG hR hS hM b (it2 :: K) cs hb
    cases e1
    exact ⟨X1, R1, a1, w1, _, x1, l1, r1, t1, m1, .ret, d1, .of_steps (.one (hs ..)) (A1.pass (by intro h; cases h) (fun id k h => by cases h))⟩
  | panic v =>
    refine ⟨_, s1, q, fun X R a w hG hR hS hM b K cs hb => ?_⟩
    obtain ⟨X1, R1, a1, w1, ex1, x1, l1, r1, t1, m1, e1, d1, A1⟩ := k X R a w hG hR hS hM b (it2 :: K) cs hb
    cases e1 with
    | panic hv => exact ⟨X1, R1, a1, w1, _, x1, l1, r1, t1, m1, .panic hv, d1, .of_steps (.one (hs ..)) (A1.pass (by intro h; cases h) (fun id k h => by cases h))⟩
theorem SC.seq {x y : Code} (h : SC P x (andThen Q (SC P y Q)) st) : SC P (.seq x y) Q st :=
  SI.chain (it2 := .code y) (fun _ _ _ _ _ => s_seq) (fun _ _ => rfl) h
theorem SI.loop {c : Code} (h : SC P c (andThen Q (SI P (.inLoop c) Q)) st) : SI P (.inLoop c) Q st :=
  SI.chain (it2 := .inLoop c) (fun _ _ _ _ _ => s_inLoop) (fun _ _ => rfl) h
theorem SC.loop {c : Code} (h : SC P c (andThen Q (SI P (.inLoop c) Q)) st) : SC P (.loop c) Q st :=
  SI.chain (it2 := .inLoop c) (fun _ _ _ _ _ => s_loop) (fun _ _ => rfl) h
theorem SI.here {it : Item} (hs : ∀ (b : Frame) (a : Act) (K : List Item) (cs : List Frame) (w : World), step P (lone (fr b a (it :: K)) cs w) = .next (lone (fr b a K) cs w)) (h : Q .normal st) : SI P it Q st :=
  ⟨.normal, st, h, fun X R a w hG hR hS hM b K cs hb => ⟨X, R, a, w, .normal, Grow.refl X a, Ren.le_refl R, hR, hS, hM, .normal, rfl, .one (hs ..)⟩⟩
theorem SC.skip (h : Q .normal st) : SC P .skip Q st := SI.here (fun _ _ _ _ _ => s_skip) h
theorem SC.label {l : Nat} (h : Q .normal st) : SC P (.label l) Q st := SI.here (fun _ _ _ _ _ => s_label) h
theorem SL.nil {ops : Array Oper} (h : Q .normal st) : SL P ops [] Q st := SI.here (fun _ _ _ _ _ => s_region_end) h
theorem SC.exit {id : Nat} (h : Q (.exit id) st) : SC P (.exit id) Q st :=
  ⟨.exit id, st, h, fun X R a w hG hR hS hM b K cs hb => ⟨X, R, a, w, .exit id, Grow.refl X a, Ren.le_refl R, hR, hS, hM, .exit id, rfl, [], fun _ => rfl, .refl _ _⟩⟩
theorem SC.ret (h : Q .ret st) : SC P .ret Q st :=
  ⟨.ret, st, h, fun X R a w hG hR hS hM b K cs hb => ⟨X, R, a, w, .ret, Grow.refl X a, Ren.le_refl R, hR, hS, hM, .ret, rfl, K, .refl _ _⟩⟩
def inBlock (id : Nat) (Q : Ex → St → Prop) : Ex → St → Prop
  | .exit id', s => if id' = id then Q .normal s else Q (.exit id') s
  | e, s => Q e s
theorem SC.block {id : Nat} {c : Code} (h : SC P c (inBlock id Q) st) : SC P (.block id c) Q st := by
  obtain ⟨ex, s1, q, k⟩ := h
  cases ex with
  | normal =>
    refine ⟨.normal, s1, q, fun X R a w hG hR hS hM b K cs hb => ?_⟩
    obtain ⟨X1, R1, a1, w1, ex1, x1, l1, r1, t1, m1, e1, d1, A1⟩ := k X R a w hG hR hS hM b (.inBlock id :: K) cs hb
    cases e1
    exact ⟨X1, R1, a1, w1, .normal, x1, l1, r1, t1, m1, .normal, d1, .head s_block (Steps.trans A1 (.one s_inBlock))⟩
  | exit id' =>
    by_cases hid : id' = id
    · subst hid
      simp only [inBlock, if_true] at q
      refine ⟨.normal, s1, q, fun X R a w hG hR hS hM b K cs hb => ?_⟩
      obtain ⟨X1, R1, a1, w1, ex1, x1, l1, r1, t1, m1, e1, d1, A1⟩ := k X R a w hG hR hS hM b (.inBlock id' :: K) cs hb
      cases e1
      obtain ⟨J, hJ, hs⟩ := A1
      refine ⟨X1, R1, a1, w1, .normal, x1, l1, r1, t1, m1, .normal, d1, .head s_block (Steps.trans hs (.one (s_exit ?_)))⟩
      rw [hJ]; simp [exitTo]
    · simp only [inBlock, hid, if_false] at q
      refine ⟨.exit id', s1, q, fun X R a w hG hR hS hM b K cs hb => ?_⟩
      obtain ⟨X1, R1, a1, w1, ex1, x1, l1, r1, t1, m1, e1, d1, A1⟩ := k X R a w hG hR hS hM b (.inBlock id :: K) cs hb
      cases e1
      refine ⟨X1, R1, a1, w1, .exit id', x1, l1, r1, t1, m1, .exit id', d1, .of_steps (.one s_block) (A1.pass (by intro h; cases h) (fun i k h => ?_))⟩
      cases h
      have : (id == id') = false := by simp; exact fun h => hid h.symm
      simp [exitTo, this]
  | ret =>
    refine ⟨_, s1, q, fun X R a w hG hR hS hM b K cs hb => ?_⟩
    obtain ⟨X1, R1, a1, w1, ex1, x1, l1, r1, t1, m1, e1, d1, A1⟩ := k X R a w hG hR hS hM b (.inBlock id :: K) cs hb
    cases e1
    exact ⟨X1, R1, a1, w1, _, x1, l1, r1, t1, m1, .ret, d1, .of_steps (.one s_block) (A1.pass (by intro h; cases h) (fun id k h => by cases h))⟩
  | panic v =>
    refine ⟨_, s1, q, fun X R a w hG hR hS hM b K cs hb => ?_⟩
    obtain ⟨X1, R1, a1, w1, ex1, x1, l1, r1, t1, m1, e1, d1, A1⟩ := k X R a w hG hR hS hM b (.inBlock id :: K) cs hb
    cases e1 with
    | panic hv => exact ⟨X1, R1, a1, w1, _, x1, l1, r1, t1, m1, .panic hv, d1, .of_steps (.one s_block) (A1.pass (by intro h; cases h) (fun id k h => by cases h))⟩
theorem SC.scope {c : Code} (h : SC P c Q st) : SC P (.scope c) Q st := by
  obtain ⟨ex, s1, q, k⟩ := h
  refine ⟨ex, s1, q, fun X R a w hG hR hS hM b K cs hb => ?_⟩
  obtain ⟨X1, R1, a1, w1, ex1, x1, l1, r1, t1, m1, e1, d1, A1⟩ := k X R a w hG hR hS hM b (.inScope c :: K) cs hb
  refine ⟨X1, R1, a1, w1, ex1, x1, l1, r1, t1, m1, e1, d1, ?_⟩
  cases ex1 with
  | normal => exact .head s_scope (Steps.trans A1 (.one s_inScope))
  | exit id => exact .of_steps (.one s_scope) (A1.pass (by intro h; cases h) (fun i k h => by simp [exitTo]))
  | ret => exact .of_steps (.one s_scope) (A1.pass (by intro h; cases h) (fun i k h => by cases h))
  | panic v => exact .of_steps (.one s_scope) (A1.pass (by intro h; cases h) (fun i k h => by cases h))
theorem SC.cond {c : Operand} {x y : Code} {t : Bool} (hc : evOf P st c = some (.bool t)) (h : SC P (if t then x else y) Q st) : SC P (.cond c x y) Q st := by
  obtain ⟨ex, s1, q, k⟩ := h
  refine ⟨ex, s1, q, fun X R a w hG hR hS hM b K cs hb => ?_⟩
  obtain ⟨X1, R1, a1, w1, ex1, x1, l1, r1, t1, m1, e1, d1, A1⟩ := k X R a w hG hR hS hM b K cs hb
  have hv := evOf_ok hG hR hS c _ hc
  have : a.eval c = .bool t := by generalize a.eval c = z at hv; cases hv; rfl
  exact ⟨X1, R1, a1, w1, ex1, x1, l1, r1, t1, m1, e1, d1, .of_steps (.one (s_cond this)) A1⟩
theorem SC.region {id : Nat} {ops : Array Oper} (h : SL P ops (List.range ops.size) Q st) : SC P (.region id ops false) Q st := by
  obtain ⟨ex, s1, q, k⟩ := h
  refine ⟨ex, s1, q, fun X R a w hG hR hS hM b K cs hb => ?_⟩
  obtain ⟨X1, R1, a1, w1, ex1, x1, l1, r1, t1, m1, e1, d1, A1⟩ := k X R a w hG hR hS hM b K cs hb
  exact ⟨X1, R1, a1, w1, ex1, x1, l1, r1, t1, m1, e1, d1, .of_steps (.one s_region) A1⟩
end rules
end Go.Det

set_option linter.unusedSimpArgs false
set_option linter.unusedVariables false
namespace Go.Det
open Go Go.RowKit
def gd (ops : Array Oper) (st : St) (o : Oper) : Option Bool :=
  match o.guard with
  | none => some true
  | some (j, want) =>
    match (ops[j]?).bind (·.dst) with
    | some t =>
      match st.env t with
      | some (.bool b) => some (b == want)
      | some (.tuple ⟨[]⟩) => some false
      | _ => none
    | none => none
theorem gd_ok {ops : Array Oper} {st : St} {o : Oper} {b : Bool} {R : Ren} {a : Act} (hS : StR R st a) (e : gd ops st o = some b) : Region.wanted o (yielded ops a.tmps) = b := by
  unfold gd at e
  unfold Region.wanted
  split at e
  · rename_i hg; cases e; rw [hg]
  · rename_i j want hg
    rw [hg]
    simp only
    split at e
    case h_2 => cases e
    case h_1 t ht =>
      have key : ∀ v, st.env t = some v → yielded ops a.tmps j = (match a.tmps.getD t undef with | .bool b => some b | _ => none) := by
        intro v hv
        have hlt := (hS.env t v hv).1
        simp only [yielded, ht, Option.bind_some]
        rw [Array.getD_eq_getD_getElem?]
        have : t < a.tmps.size := by rw [hS.size]; exact hlt
        simp [this]
        generalize a.tmps[t] = z
        cases z <;> rfl
      split at e
      · rename_i c hc
        cases e
        have hv := (hS.env t _ hc).2
        rw [key _ hc]
        generalize a.tmps.getD t undef = z at hv
        cases hv
        simp only
        cases c <;> cases want <;> rfl
      · rename_i hc
        cases e
        have hv := (hS.env t _ hc).2
        rw [key _ hc]
        generalize a.tmps.getD t undef = z at hv
        cases hv
        rfl
      · cases e
def SStep (P : Program) (ops : Array Oper) (i : Nat) (s s' : St) : Prop :=
  ∀ (X : Cx) (R : Ren) (a : Act) (w : World), GX P X → Rel X R s.H w → StR R s a → ∀ (b : Frame) (K : List Item) (cs : List Frame) (is : List Nat), (s.dok = true → b.roundOf = none) →
    ∃ (R' : Ren) (a' : Act) (w' : World), R.le R' ∧ Rel X R' s'.H w' ∧ StR R' s' a' ∧ s'.dok = s.dok ∧ Steps P (lone (fr b a (.inRegion ops (i :: is) :: K)) cs w) (lone (fr b a' (.inRegion ops is :: K)) cs w') ∧ ∃ v', a' = a.put ((ops[i]?).bind (·.dst)) v'
def CFact (P : Program) (f : FuncId) (args : List Value) (H : Hp) (v : Value) (H' : Hp) : Prop :=
  ∀ (X : Cx) (R : Ren) (w : World) (args' : List Value), GX P X → Rel X R H w → VRs R args args' → ∀ (cs : List Frame),
    ∃ (R' : Ren) (w' : World) (v' : Value) (f' : Frame), R.le R' ∧ Rel X R' H' w' ∧ VR R' v v' ∧ f'.fn = f ∧ Steps P (lone (Frame.enter P f ⟨args'⟩ .normal) cs w) (lone f' cs w') ∧ f'.leaving P w' (.returned v')
section rules
variable {P : Program} {Q : Ex → St → Prop} {st : St} {ops : Array Oper} {i : Nat} {is : List Nat} {o : Oper}
theorem put_defers (a : Act) (d : Option Tmp) (v : Value) : (a.put d v).defers = a.defers := by cases d <;> rfl
theorem put_facts (st : St) (dst : Option Tmp) (v : Value) : (st.put dst v).dok = st.dok ∧ (st.put dst v).H = st.H ∧ (st.put dst v).defs = st.defs ∧ (st.put dst v).n = st.n := by cases dst <;> exact ⟨rfl, rfl, rfl, rfl⟩
def notDefer : Op → Bool
  | .defer _ => false
  | _ => true
theorem notDefer_ok {o : Op} (h : notDefer o = true) : ∀ c, o ≠ .defer c := by intro c k; rw [k] at h; cases h
theorem SStep.skip (ho : ops[i]? = some o) (hg : gd ops st o = some false) (hf : st.fits o.dst) : SStep P ops i st (st.put o.dst undef) := by
  intro X R a w hG hR hS b K cs is hb
  have hu : VR R undef undef := .tuple .nil
  have hdst : (ops[i]?).bind (·.dst) = o.dst := by rw [ho]; rfl
  obtain ⟨p1, p2, p3, p4⟩ := put_facts st o.dst undef
  refine ⟨R, a.put o.dst undef, w, Ren.le_refl R, by rw [p2]; exact hR, hS.put hf hu, p1, .one ?_, undef, by rw [hdst]⟩
  rw [← hdst]
  refine s_op_skip ?_
  rw [ho]
  simp only [Option.map_some, Option.getD_some]
  exact gd_ok hS hg
theorem SStep.val (ho : ops[i]? = some o) (hg : gd ops st o = some true) {v : Value} {H' : Hp} (hd : notDefer o.op = true) (he : opD P st.H (evOf P st) o = some (.val v H')) (hf : st.fits o.dst) :
    SStep P ops i st ((st.at_ H').put o.dst v) := by
  intro X R a w hG hR hS b K cs is hb
  have hres := opD_ok hR (evOf_ok hG hR hS) he
  have hw := gd_ok hS hg
  obtain ⟨p1, p2, p3, p4⟩ := put_facts (st.at_ H') o.dst v
  generalize hrun : (execOp a.eval o).run P w = res at hres
  have go : ∀ {R' : Ren} {v' : Value} {w' : World}, R.le R' → Rel X R' H' w' → VR R' v v' → step P (lone (fr b a (.inRegion ops (i :: is) :: K)) cs w) = .next (lone (fr b (a.put o.dst v') (.inRegion ops is :: K)) cs w') →
      ∃ (R' : Ren) (a' : Act) (w' : World), R.le R' ∧ Rel X R' ((st.at_ H').put o.dst v).H w' ∧ StR R' ((st.at_ H').put o.dst v) a' ∧ ((st.at_ H').put o.dst v).dok = st.dok ∧
        Steps P (lone (fr b a (.inRegion ops (i :: is) :: K)) cs w) (lone (fr b a' (.inRegion ops is :: K)) cs w') ∧ ∃ v', a' = a.put ((ops[i]?).bind (·.dst)) v' := by
    intro R' v' w' hle hR' hv hstep
    have hS' : StR R' (st.at_ H') a := ⟨hS.size, (hS.mono hle).env, (hS.mono hle).defs⟩
    exact ⟨R', _, w', hle, by rw [p2]; exact hR', hS'.put hf hv, p1, .one hstep, v', by rw [ho]; rfl⟩
  cases hres with
  | val hle hR' hv => exact go hle hR' hv (s_op_val ho hw (.inr (notDefer_ok hd)) hrun)
  | skip hle hR' => exact go hle hR' (.tuple .nil) (s_op_unit ho hw (.inr (notDefer_ok hd)) hrun)
theorem SStep.call (ho : ops[i]? = some o) (hg : gd ops st o = some true) {f : FuncId} {args : List Value} (hd : notDefer o.op = true) (he : opD P st.H (evOf P st) o = some (.enter f args)) (hf : st.fits o.dst) {v : Value} {H' : Hp}
    (k : CFact P f args st.H v H') : SStep P ops i st ((st.at_ H').put o.dst v) := by
  intro X R a w hG hR hS b K cs is hb
  have hres := opD_ok hR (evOf_ok hG hR hS) he
  have hw := gd_ok hS hg
  obtain ⟨p1, p2, p3, p4⟩ := put_facts (st.at_ H') o.dst v
  generalize hrun : (execOp a.eval o).run P w = res at hres
  cases hres with
  | enter hargs =>
    obtain ⟨R1, w1, v', f1, l1, r1, hv, hfn, hsteps, hleave⟩ := k X R w _ hG hR hargs (fr b a (.inRegion ops (i :: is) :: K) :: cs)
    have hfin : (fr b a (.inRegion ops (i :: is) :: K)).finish v' = fr b (a.put o.dst v') (.inRegion ops is :: K) := by rw [fr_finish, ho]; rfl
    have hS' : StR R1 (st.at_ H') a := ⟨hS.size, (hS.mono l1).env, (hS.mono l1).defs⟩
    refine ⟨R1, _, w1, l1, by rw [p2]; exact r1, hS'.put hf hv, p1, .head (s_op_enter ho hw (.inr (notDefer_ok hd)) hrun) (hsteps.trans (.one ?_)), v', by rw [ho]; rfl⟩
    rw [← hfin]
    exact step_leave_returned hleave
theorem SL.step {s' : St} (h : SStep P ops i st s') (k : SL P ops is Q s') : SL P ops (i :: is) Q st := by
  obtain ⟨ex, s1, q, k⟩ := k
  refine ⟨ex, s1, q, fun X R a w hG hR hS hM b K cs hb => ?_⟩
  obtain ⟨R1, a1, w1, l1, r1, t1, d1, st1, v1, q1⟩ := h X R a w hG hR hS b K cs is hb
  obtain ⟨X2, R2, a2, w2, ex2, x2, l2, r2, t2, m2, e2, d2, A2⟩ := k X R1 a1 w1 hG r1 t1 (hM.same (by rw [q1]; exact put_defers _ _ _)) b K cs (by rw [d1]; exact hb)
  exact ⟨X2, R2, a2, w2, ex2, x2.same (by rw [q1, put_defers]), Ren.le_trans l1 l2, r2, t2, m2, e2, d2.trans d1, .of_steps st1 A2⟩
theorem SL.skip (ho : ops[i]? = some o) (hg : gd ops st o = some false) (hf : st.fits o.dst) (h : SL P ops is Q (st.put o.dst undef)) : SL P ops (i :: is) Q st := SL.step (SStep.skip ho hg hf) h
theorem SL.val (ho : ops[i]? = some o) (hg : gd ops st o = some true) {v : Value} {H' : Hp} (hd : notDefer o.op = true) (he : opD P st.H (evOf P st) o = some (.val v H')) (hf : st.fits o.dst)
    (h : SL P ops is Q ((st.at_ H').put o.dst v)) : SL P ops (i :: is) Q st := SL.step (SStep.val ho hg hd he hf) h
theorem SL.panic (ho : ops[i]? = some o) (hg : gd ops st o = some true) {v : Value} (hd : notDefer o.op = true) (he : opD P st.H (evOf P st) o = some (.panic v)) (h : Q (.panic v) st) : SL P ops (i :: is) Q st := by
  refine ⟨.panic v, st, h, fun X R a w hG hR hS hM b K cs hb => ?_⟩
  have hres := opD_ok hR (evOf_ok hG hR hS) he
  have hw := gd_ok hS hg
  generalize hrun : (execOp a.eval o).run P w = res at hres
  cases hres with
  | panic hv => exact ⟨X, R, a, w, _, Grow.refl X a, Ren.le_refl R, hR, hS, hM, .panic hv, rfl, _, .one (s_op_panic ho hw (.inr (notDefer_ok hd)) hrun)⟩
theorem CFact.of {f : FuncId} {args : List Value} {H H' : Hp} {v : Value}
    (k : ∀ (X : Cx) (R : Ren) (w : World) (args' : List Value), GX P X → Rel X R H w → VRs R args args' → ∀ (cs : List Frame),
      ∃ (R' : Ren) (w' : World) (en' : En) (f' : Frame), R.le R' ∧ Rel X R' H' w' ∧ EnR R' (.ret v) en' ∧ f'.fn = f ∧ Steps P (lone (Frame.enter P f ⟨args'⟩ .normal) cs w) (lone f' cs w') ∧
        f'.leaving P w' (match en' with | .ret v => .returned v | .panic v => .panicked [{ v, recovered := false }])) : CFact P f args H v H' := by
  intro X R w args' hG hR hargs cs
  obtain ⟨R1, w1, en1, f1, l1, r1, e1, hfn, hsteps, hleave⟩ := k X R w args' hG hR hargs cs
  cases e1 with
  | ret hv => exact ⟨R1, w1, _, f1, l1, r1, hv, hfn, hsteps, hleave⟩
theorem SL.call (ho : ops[i]? = some o) (hg : gd ops st o = some true) {f : FuncId} {args : List Value} (hd : notDefer o.op = true) (he : opD P st.H (evOf P st) o = some (.enter f args)) (hf : st.fits o.dst)
    (h : SCall P f args st.H fun
      | .ret v, H' => SL P ops is Q ((st.at_ H').put o.dst v)
      | .panic v, H' => Q (.panic v) (st.at_ H')) : SL P ops (i :: is) Q st := by
  obtain ⟨en, H', q, k⟩ := h
  cases en with
  | ret v => exact SL.step (SStep.call ho hg hd he hf (CFact.of k)) q
  | panic v =>
    refine ⟨.panic v, st.at_ H', q, fun X R a w hG hR hS hM b K cs hb => ?_⟩
    have hres := opD_ok hR (evOf_ok hG hR hS) he
    have hw := gd_ok hS hg
    generalize hrun : (execOp a.eval o).run P w = res at hres
    cases hres with
    | enter hargs =>
      obtain ⟨R1, w1, en1, f1, l1, r1, e1, hfn, hsteps, hleave⟩ := k X R w _ hG hR hargs (fr b a (.inRegion ops (i :: is) :: K) :: cs)
      cases e1 with
      | panic hv =>
        rename_i v'
        refine ⟨X, R1, a, w1, _, Grow.refl X a, l1, r1, ⟨hS.size, (hS.mono l1).env, (hS.mono l1).defs⟩, hM, .panic hv, rfl, .inRegion ops (i :: is) :: K, .head (s_op_enter ho hw (.inr (notDefer_ok hd)) hrun) (hsteps.trans (.one ?_))⟩
        rw [← fr_raise]
        exact step_leave_panicked hleave
theorem SL.defer (ho : ops[i]? = some o) (hg : gd ops st o = some true) {f : FuncId} {x y args : List Value} (hd : st.dok = true) (he : opD P st.H (evOf P st) o = some (.defer (.func (.func f) ⟨x⟩ ⟨y⟩) args)) (hf : st.fits o.dst)
    (h : SL P ops is Q ({ st with defs := (.func (.func f) ⟨x⟩ ⟨y⟩, args) :: st.defs }.put o.dst undef)) : SL P ops (i :: is) Q st := by
  obtain ⟨ex, s1, q, k⟩ := h
  refine ⟨ex, s1, q, fun X R a w hG hR hS hM b K cs hb => ?_⟩
  have hres := opD_ok hR (evOf_ok hG hR hS) he
  have hw := gd_ok hS hg
  obtain ⟨p1, p2, p3, p4⟩ := put_facts { st with defs := (.func (.func f) ⟨x⟩ ⟨y⟩, args) :: st.defs } o.dst undef
  generalize hrun : (execOp a.eval o).run P w = res at hres
  cases hres with
  | defer hx hy ha =>
    rename_i x' y' args'
    have hS' : StR R { st with defs := (.func (.func f) ⟨x⟩ ⟨y⟩, args) :: st.defs } { a with defers := { target := .fn (.func f) ⟨y'⟩, args := ⟨x' ++ args'⟩ } :: a.defers } := ⟨hS.size, hS.env, .cons hx hy ha hS.defs⟩
    obtain ⟨X1, R1, a1, w1, ex1, x1, l1, r1, t1, m1, e1, d1, A1⟩ := k X R ({ a with defers := { target := .fn (.func f) ⟨y'⟩, args := ⟨x' ++ args'⟩ } :: a.defers }.put o.dst undef) w hG (by rw [p2]; exact hR) (hS'.put hf (show VR R undef undef from .tuple .nil)) ⟨by rw [put_defers]; exact hM.kept, by rw [put_defers]; exact hM.nodup⟩ b K cs (by rw [p1]; exact hb)
    exact ⟨X1, R1, a1, w1, ex1, ⟨x1.le, fun m q => by have := x1.new m q; rw [put_defers] at this; exact this⟩, l1, r1, t1, m1, e1, d1.trans p1, .of_steps (.one (s_op_defer ho hw (hb hd) hrun)) A1⟩
end rules
def resD (P : Program) (st : St) (r : ResultVar) : Option Value :=
  match r with
  | .tmp t => st.env t
  | .cell a t => match st.env a with
    | some v => loadD P st.H t v
    | none => none
def ressD (P : Program) (st : St) : List ResultVar → Option (List Value)
  | [] => some []
  | r :: l => match resD P st r, ressD P st l with
    | some v, some vs => some (v :: vs)
    | _, _ => none
def oneD : List Value → Value
  | [v] => v
  | l => .tuple ⟨l⟩
theorem resD_ok {P : Program} {X : Cx} {R : Ren} {st : St} {a : Act} {w : World} (h : Rel X R st.H w) (k : StR R st a) {r : ResultVar} {v : Value} (e : resD P st r = some v) :
    ∃ v', (match r with | .tmp t => pure (a.tmps.getD t undef) | .cell x t => do loadVar t (← asAddr (a.tmps.getD x undef)) : Sem Value).run P w = .ok v' w ∧ VR R v v' := by
  unfold resD at e
  split at e
  · exact ⟨_, rfl, (k.env _ _ e).2⟩
  · split at e
    case h_2 => cases e
    case h_1 u hu =>
      obtain ⟨v', hr, hv⟩ := loadD_ok (P := P) h (k.env _ _ hu).2 e
      refine ⟨v', ?_, hv⟩
      have hpu := (k.env _ _ hu).2
      generalize a.tmps.getD _ undef = z at hr hpu
      simp only [Instr.loadAt, Sem.run_bind] at hr
      simp only [Sem.run_bind]
      unfold loadD at e
      split at e
      · cases hpu
        simpa [asAddr, Instr.sureAddr] using hr
      · cases e
theorem ressD_ok {P : Program} {X : Cx} {R : Ren} {st : St} {a : Act} {w : World} (h : Rel X R st.H w) (k : StR R st a) : ∀ {l : List ResultVar} {vs : List Value}, ressD P st l = some vs →
    ∃ vs', (l.mapM fun r => (match r with | .tmp t => pure (a.tmps.getD t undef) | .cell x t => do loadVar t (← asAddr (a.tmps.getD x undef)) : Sem Value)).run P w = .ok vs' w ∧ VRs R vs vs'
  | [], vs, e => by simp only [ressD, Option.some.injEq] at e; subst e; exact ⟨[], by simp, .nil⟩
  | r :: l, vs, e => by
    simp only [ressD] at e
    split at e
    · rename_i v l' hv hl
      cases e
      obtain ⟨v', hr, hvr⟩ := resD_ok h k hv
      obtain ⟨vs', hrs, hvs⟩ := ressD_ok h k hl
      refine ⟨v' :: vs', ?_, .cons hvr hvs⟩
      rw [List.mapM_cons]
      simp only [Sem.run_bind, hr, Result.andThen_ok, hrs, Sem.run_pure]
    · cases e
theorem results_ok {P : Program} {X : Cx} {R : Ren} {st : St} {a : Act} {w : World} (h : Rel X R st.H w) (k : StR R st a) {fn : Func} {vs : List Value} (e : ressD P st fn.results.toList = some vs) :
    ∃ v', (results fn a.tmps).run P w = .ok v' w ∧ VR R (oneD vs) v' := by
  obtain ⟨vs', hr, hv⟩ := ressD_ok h k e
  refine ⟨oneD vs', ?_, ?_⟩
  · have hu : results fn a.tmps = (do
        let vs ← fn.results.mapM fun r => (match r with | .tmp t => pure (a.tmps.getD t undef) | .cell x t => do loadVar t (← asAddr (a.tmps.getD x undef)) : Sem Value)
        pure (if h : vs.size = 1 then vs[0] else .tuple vs)) := rfl
    rw [hu, Array.mapM_eq_mapM_toList]
    simp only [Sem.run_bind, Sem.run_map, hr, Result.andThen_ok, Sem.run_pure]
    congr 1
    have hsz : vs'.toArray.size = vs'.length := by simp
    split
    · rename_i h1
      rw [hsz] at h1
      match vs', h1 with
      | [u], _ => rfl
    · rename_i h1
      rw [hsz] at h1
      unfold oneD
      split
      · simp at h1
      · rfl
  · unfold oneD
    cases hv with
    | nil => exact .tuple .nil
    | cons h1 h2 =>
      cases h2 with
      | nil => exact h1
      | cons h3 h4 => exact .tuple (.cons h1 (.cons h3 h4))
def initEnv (args : List Value) (t : Nat) : Option Value := args[t]?
def init (n : Nat) (args : List Value) (H : Hp) : St := { env := initEnv args, n := n, H := H, defs := [], dok := true }
def bodyQ (P : Program) (fn : Func) (Q : En → Hp → Prop) : Ex → St → Prop
  | .normal, s | .ret, s => s.defs = [] ∧ ∃ vs, ressD P s fn.results.toList = some vs ∧ Q (.ret (oneD vs)) s.H
  | .panic v, s => s.defs = [] ∧ Q (.panic v) s.H
  | _, _ => False
def base (f : FuncId) : Frame := { (default : Frame) with fn := f, kind := .normal, roundOf := none }
theorem enter_eq {P : Program} {f : FuncId} {fn : Func} {c : Code} {args : Array Value} {kind : CallKind} (hf : P.funcs[f]? = some fn) (hb : fn.body = some c) :
    Frame.enter P f args kind = fr { (default : Frame) with fn := f, kind := kind, roundOf := none } { tmps := args ++ Array.replicate (fn.ntmps - args.size) undef, defers := [] } [.code c] := by
  simp [Frame.enter, fr, hf, hb]
theorem StR_init {R : Ren} {n : Nat} {args args' : List Value} {H : Hp} (hv : VRs R args args') (hn : args.length ≤ n) :
    StR R (init n args H) { tmps := (⟨args'⟩ : Array Value) ++ Array.replicate (n - (⟨args'⟩ : Array Value).size) undef, defers := [] } := by
  have hl := hv.length
  have hs : (⟨args'⟩ : Array Value).size = args.length := hl
  refine ⟨by simp only [Array.size_append, Array.size_replicate, hs, init]; omega, fun t v e => ?_, .nil⟩
  simp only [init, initEnv] at e
  have ht : t < args.length := by
    rcases Nat.lt_or_ge t args.length with k | k
    · exact k
    · rw [List.getElem?_eq_none k] at e; cases e
  refine ⟨by simp only [init]; omega, ?_⟩
  obtain ⟨v', hv', hr⟩ := hv.get t v e
  rw [Array.getD_eq_getD_getElem?, Array.getElem?_append_left (by rw [hs]; exact ht)]
  simp [hv', hr]
theorem MK.init {X : Cx} {tmps : Array Value} : MK X { tmps := tmps, defers := [] } := ⟨fun m h => (by cases h), List.nodup_nil⟩
theorem Rel.unkeep {X : Cx} {w : World} {R : Ren} {H : Hp} (h : Rel X R H w) {m : Nat} {o : Obj} (hm : X.kept m = some o) (o' : Obj) : Rel { X with kept := fun k => if k = m then none else X.kept k } R H { w with heap := w.heap.setIfInBounds m o' } := by
  have hne : ∀ k, k ≠ m → (w.heap.setIfInBounds m o')[k]? = w.heap[k]? := by
    intro k hk
    rw [Array.getElem?_setIfInBounds, if_neg (by omega)]
  obtain ⟨k1, k2, k3⟩ := h.kept m o hm
  refine ⟨?_, h.inj, h.free, fun b i r ho => by simpa using h.lt b i r ho, ?_, by simpa using h.size, h.glob, h.gle, ?_⟩
  · intro b x e
    obtain ⟨i, r, br⟩ := h.blk b x e
    refine ⟨i, r, br.keep (Ren.le_refl R) (hne _ fun q => ?_)⟩
    rcases RI_own_of_BR br with ⟨ho, _⟩ | ⟨_, hl, _⟩
    · exact k3 b i r ho q
    · omega
  · exact h.below.trans ⟨rfl, rfl, rfl, by simp, fun k hk => hne k (by omega)⟩
  · intro k o2 hk
    by_cases q : k = m
    · simp [q] at hk
    · simp only [if_neg q] at hk
      obtain ⟨g1, g2, g3⟩ := h.kept k o2 hk
      exact ⟨g1, (hne k q).trans g2, g3⟩
theorem run_marks {P : Program} : ∀ (l : List Deferred) {R : Ren} {X X0 : Cx} {H : Hp} {w : World} (fr : Frame) (cs : List Frame), DefsR R [] l → (∀ m, m ∈ marks l → X.kept m = some (.deferred (some []))) → (marks l).Nodup → Rel X R H w → fr.mode ≠ .run → fr.defers = l →
    (X0.le X) → (∀ k o, X0.kept k = some o → k ∉ marks l) → ∃ w' , Rel X0 R H w' ∧ Steps P (lone fr cs w) (lone { fr with defers := [] } cs w')
  | [], R, X, X0, H, w, fr, cs, _, _, _, hR, _, hd, hx, _ => ⟨w, hR.forget hx, by
      have : ({ fr with defers := [] } : Frame) = fr := by rw [← hd]
      rw [this]; exact .refl _ _⟩
  | d :: l, R, X, X0, H, w, fr, cs, hD, hk, hn, hR, hm, hd, hx, hx0 => by
    cases hD with
    | mark m hD =>
      simp only [marks, List.nodup_cons] at hn hk hx0
      have hkm := hk m (List.mem_cons_self ..)
      obtain ⟨g1, g2, g3⟩ := hR.kept m _ hkm
      have htake : (Instr.takeDeferred m).run P w = .ok [] { w with heap := w.heap.setIfInBounds m (.deferred none) } := by
        simp [Instr.takeDeferred, Sem.run_bind, getObj, setObj, Sem.run, g2, Result.andThen]
      have h1 := step_collected (P := P) (cs := cs) (w := w) hm hd rfl htake
      have hR' := hR.unkeep hkm (.deferred none)
      obtain ⟨w', r', s'⟩ := run_marks (P := P) l (X := { X with kept := fun k => if k = m then none else X.kept k }) (X0 := X0) { fr with defers := [] ++ l } cs hD
        (fun k hk' => by
          have : k ≠ m := fun q => hn.1 (q ▸ hk')
          simp only [if_neg this]; exact hk k (List.mem_cons_of_mem _ hk')) hn.2 hR' hm rfl
        ⟨hx.B, hx.w0, hx.G, fun k o e => by
          have : k ≠ m := fun q => hx0 k o e (q ▸ List.mem_cons_self ..)
          simp only [if_neg this]; exact hx.kept k o e⟩
        (fun k o e q => hx0 k o e (List.mem_cons_of_mem _ q))
      exact ⟨w', r', .head h1 s'⟩
theorem SCall.of {P : Program} {f : FuncId} {fn : Func} {c : Code} {args : List Value} {H : Hp} {Q : En → Hp → Prop} (hf : P.funcs[f]? = some fn) (hb : fn.body = some c) (hn : args.length ≤ fn.ntmps)
    (h : SC P c (bodyQ P fn Q) (init fn.ntmps args H)) : SCall P f args H Q := by
  obtain ⟨ex, s1, q, k⟩ := h
  have enter : ∀ args' : Array Value, Frame.enter P f args' .normal = fr (base f) { tmps := args' ++ Array.replicate (fn.ntmps - args'.size) undef, defers := [] } [.code c] := fun args' => enter_eq (P := P) (f := f) (args := args') (kind := .normal) hf hb
  have shut : ∀ {X X1 : Cx} {R1 : Ren} {w1 : World} {a : Act} {a1 : Act} (fr1 : Frame) (cs : List Frame), a.defers = [] → Grow X a X1 a1 → MK X1 a1 → Rel X1 R1 s1.H w1 → DefsR R1 [] a1.defers → fr1.mode ≠ .run → fr1.defers = a1.defers →
      ∃ w2, Rel X R1 s1.H w2 ∧ Steps P (lone fr1 cs w1) (lone { fr1 with defers := [] } cs w2) := by
    intro X X1 R1 w1 a a1 fr1 cs ha hg hm hr hd hmode hfd
    refine run_marks a1.defers fr1 cs hd hm.kept hm.nodup hr hmode hfd hg.le (fun k o e q => ?_)
    rcases hg.new k q with r | r
    · rw [ha] at r; cases r
    · rw [r] at e; cases e
  cases ex with
  | exit id => exact q.elim
  | normal =>
    obtain ⟨hd, vs, hvs, hq⟩ := q
    refine ⟨.ret (oneD vs), s1.H, hq, fun X R w args' hG hR hv cs => ?_⟩
    obtain ⟨X1, R1, a1, w1, ex1, x1, l1, r1, t1, m1, e1, d1, A1⟩ := k X R _ w hG hR (StR_init hv hn) MK.init (base f) [] cs (fun _ => rfl)
    cases e1
    have hdd : DefsR R1 [] a1.defers := by have := t1.defs; rw [hd] at this; exact this
    obtain ⟨w2, r2, s2⟩ := shut { fr (base f) a1 [] with mode := .returning } cs rfl x1 m1 r1 hdd (by intro h; cases h) rfl
    obtain ⟨v', hr, hvr⟩ := results_ok r2 t1 hvs
    refine ⟨R1, w2, .ret v', { fr (base f) a1 [] with mode := .returning, defers := [] }, l1, r2, .ret hvr, rfl, ?_, ⟨rfl, rfl, rfl, fn, hf, hr⟩⟩
    rw [enter]; exact Steps.trans A1 (Steps.trans (.one (s_end (b := base f) rfl)) s2)
  | ret =>
    obtain ⟨hd, vs, hvs, hq⟩ := q
    refine ⟨.ret (oneD vs), s1.H, hq, fun X R w args' hG hR hv cs => ?_⟩
    obtain ⟨X1, R1, a1, w1, ex1, x1, l1, r1, t1, m1, e1, d1, A1⟩ := k X R _ w hG hR (StR_init hv hn) MK.init (base f) [] cs (fun _ => rfl)
    cases e1
    obtain ⟨J, hJ⟩ := A1
    have hdd : DefsR R1 [] a1.defers := by have := t1.defs; rw [hd] at this; exact this
    obtain ⟨w2, r2, s2⟩ := shut { fr (base f) a1 (.code .ret :: J) with mode := .returning } cs rfl x1 m1 r1 hdd (by intro h; cases h) rfl
    obtain ⟨v', hr, hvr⟩ := results_ok r2 t1 hvs
    refine ⟨R1, w2, .ret v', { fr (base f) a1 (.code .ret :: J) with mode := .returning, defers := [] }, l1, r2, .ret hvr, rfl, ?_, ⟨rfl, rfl, rfl, fn, hf, hr⟩⟩
    rw [enter]; exact Steps.trans hJ (Steps.trans (.one (s_ret (b := base f) rfl)) s2)
  | panic v =>
    obtain ⟨hd, hq⟩ := q
    refine ⟨.panic v, s1.H, hq, fun X R w args' hG hR hv cs => ?_⟩
    obtain ⟨X1, R1, a1, w1, ex1, x1, l1, r1, t1, m1, e1, d1, A1⟩ := k X R _ w hG hR (StR_init hv hn) MK.init (base f) [] cs (fun _ => rfl)
    cases e1 with
    | panic hvr =>
      obtain ⟨J, hJ⟩ := A1
      rename_i v'
      have hdd : DefsR R1 [] a1.defers := by have := t1.defs; rw [hd] at this; exact this
      obtain ⟨w2, r2, s2⟩ := shut { fr (base f) a1 J with mode := .panicking [{ v := v', recovered := false }] } cs rfl x1 m1 r1 hdd (by intro h; cases h) rfl
      refine ⟨R1, w2, .panic v', { fr (base f) a1 J with mode := .panicking [{ v := v', recovered := false }], defers := [] }, l1, r2, .panic hvr, rfl, ?_, ⟨rfl, rfl, fn, hf⟩⟩
      rw [enter]; exact Steps.trans hJ s2
end Go.Det

set_option linter.unusedSimpArgs false
set_option linter.unusedVariables false
namespace Go.Det
open Go Go.RowKit
def preds (o : Oper) : List Nat := (o.after.toList.filter fun e => Region.binds .any e).map (·.on)
def Sched (ops : Array Oper) : List Nat → (Nat → Bool) → Prop
  | [], S => ∀ i, i < ops.size → S i = true
  | i :: σ, S => S i = false ∧ (∃ o, ops[i]? = some o ∧ ∀ p ∈ preds o, S p = true) ∧ Sched ops σ (fun j => j == i || S j)
theorem countP_lt {p q : Nat → Bool} (hpq : ∀ j, q j = true → p j = true) : ∀ {l : List Nat} {i : Nat}, i ∈ l → p i = true → q i = false → l.countP q < l.countP p
  | x :: l, i, hm, hp, hq => by
    have hle : l.countP q ≤ l.countP p := List.countP_mono_left fun j _ => hpq j
    rcases List.mem_cons.1 hm with rfl | hm
    · rw [List.countP_cons_of_neg (by simp [hq]), List.countP_cons_of_pos hp]; omega
    · have := countP_lt hpq hm hp hq
      by_cases hx : q x = true
      · rw [List.countP_cons_of_pos hx, List.countP_cons_of_pos (hpq x hx)]; omega
      · rw [List.countP_cons_of_neg hx]
        by_cases hx' : p x = true
        · rw [List.countP_cons_of_pos hx']; omega
        · rw [List.countP_cons_of_neg hx']; exact this
def backward (ops : Array Oper) : Bool := (List.range ops.size).all fun i => match ops[i]? with
  | some o => (preds o).all fun p => p < i
  | none => true
theorem sched_go {ops : Array Oper} (hb : backward ops = true) : ∀ (fuel t : Nat) (listed : Array Bool) (S : Nat → Bool), listed.size = ops.size → (∀ j, j < ops.size → listed.getD j false = S j) →
    (List.range ops.size).countP (fun j => !S j) ≤ fuel → Sched ops (Region.linearise.go .any ops fuel t listed []) S := by
  intro fuel
  induction fuel with
  | zero =>
    intro t listed S hs hS hc
    simp only [Region.linearise.go, List.reverse_nil, Sched]
    intro i hi
    have := List.countP_eq_zero.1 (Nat.le_zero.1 hc) i (List.mem_range.2 hi)
    simpa using this
  | succ fuel ih =>
    intro t listed S hs hS hc
    simp only [Region.linearise.go]
    change Sched ops (match (Region.ready .any ops listed)[t % (Region.ready .any ops listed).length]? with
      | some i => Region.linearise.go .any ops fuel (t / (Region.ready .any ops listed).length) (listed.setIfInBounds i true) [i]
      | none => [].reverse) S
    cases hi : (Region.ready .any ops listed)[t % (Region.ready .any ops listed).length]? with
    | none =>
      have hnil : Region.ready .any ops listed = [] := by
        cases hr : Region.ready .any ops listed with
        | nil => rfl
        | cons x xs =>
          rw [hr] at hi
          have hlt : t % (x :: xs).length < (x :: xs).length := Nat.mod_lt _ (by simp)
          simp at hi
          simp at hlt
          omega
      simp only [List.reverse_nil, Sched]
      -- the smallest that is not listed would be ready
      intro i
      induction i using Nat.strongRecOn with
      | _ i ih2 =>
        intro hlt
        cases hSi : S i with
        | true => rfl
        | false =>
          exfalso
          have hm : i ∈ Region.ready .any ops listed := by
            rw [mem_ready]
            obtain ⟨o, ho⟩ : ∃ o, ops[i]? = some o := ⟨ops[i], by simp [hlt]⟩
            refine ⟨?_, o, ho, fun e he hbe => ?_⟩
            · have h1 := hS i hlt
              rw [hSi] at h1
              have : i < listed.size := by rw [hs]; exact hlt
              rw [Array.getD_eq_getD_getElem?] at h1 ⊢
              simp [this] at h1 ⊢
              exact h1
            · have hp : e.on ∈ preds o := by
                unfold preds
                exact List.mem_map.2 ⟨e, List.mem_filter.2 ⟨by simpa using he, hbe⟩, rfl⟩
              have hback := List.all_eq_true.1 hb i (List.mem_range.2 hlt)
              rw [ho] at hback
              have hlt2 : e.on < i := by simpa using List.all_eq_true.1 hback _ hp
              rw [hS _ (by omega)]
              exact ih2 _ hlt2 (by omega)
          rw [hnil] at hm
          cases hm
    | some i =>
      simp only []
      have hm := List.mem_of_getElem? hi
      rw [mem_ready] at hm
      obtain ⟨h0, o, ho, hall⟩ := hm
      have hlt : i < ops.size := (Array.getElem?_eq_some_iff.1 ho).1
      have hSi : S i = false := by
        have h1 := hS i hlt
        have : i < listed.size := by rw [hs]; exact hlt
        rw [Array.getD_eq_getD_getElem?] at h0 h1
        simp [this] at h0 h1
        rw [← h1]; exact h0
      rw [linearise_go_acc, List.reverse_singleton, List.singleton_append]
      refine ⟨hSi, ⟨o, ho, fun p hp => ?_⟩, ?_⟩
      · unfold preds at hp
        obtain ⟨e, he, rfl⟩ := List.mem_map.1 hp
        obtain ⟨he1, he2⟩ := List.mem_filter.1 he
        have h1 := hall e (by simpa using he1) he2
        have hlt2 : e.on < ops.size := by
          rcases Nat.lt_or_ge e.on listed.size with k | k
          · rw [← hs]; exact k
          · rw [Array.getD_eq_getD_getElem?, Array.getElem?_eq_none k] at h1; cases h1
        rw [← hS _ hlt2]; exact h1
      · refine ih _ _ _ (by simpa using hs) (fun j hj => ?_) ?_
        · by_cases hji : j = i
          · subst hji
            have : j < listed.size := by rw [hs]; exact hj
            rw [Array.getD_eq_getD_getElem?, Array.getElem?_setIfInBounds]
            simp [this]
          · rw [getD_set_ne false (fun q => hji q.symm), hS j hj]
            simp [hji]
        · have := countP_lt (p := fun j => !S j) (q := fun j => !(j == i || S j)) (fun j hj => by simp at hj ⊢; exact hj.2) (List.mem_range.2 hlt) (by simp [hSi]) (by simp)
          omega
theorem sched_of {ops : Array Oper} (hb : backward ops = true) (t : Nat) : Sched ops (Region.linearise .any ops t) (fun _ => false) := by
  unfold Region.linearise
  refine sched_go hb _ _ _ _ (by simp) (fun j hj => by rw [Array.getD_eq_getD_getElem?]; simp [hj]) ?_
  exact Nat.le_trans List.countP_le_length (by simp)
inductive Bef (ops : Array Oper) : Nat → Nat → Prop where
  | edge {i j : Nat} {o : Oper} (h : ops[j]? = some o) (hp : i ∈ preds o) : Bef ops i j
  | trans {i k j : Nat} (h : Bef ops i k) (g : Bef ops k j) : Bef ops i j
def maskOf (acc : List Nat) (o : Oper) : Nat := (preds o).foldl (fun s i => s ||| 2 ^ i ||| acc.getD i 0) 0
def masks : List Oper → List Nat → List Nat
  | [], acc => acc
  | o :: r, acc => masks r (acc ++ [maskOf acc o])
theorem maskOf_ok {ops : Array Oper} {acc : List Nat} (hacc : ∀ j i, (acc.getD j 0).testBit i = true → Bef ops i j) {j : Nat} {o : Oper} (ho : ops[j]? = some o) (i : Nat) (h : (maskOf acc o).testBit i = true) : Bef ops i j := by
  unfold maskOf at h
  have key : ∀ (l : List Nat) (s : Nat), (∀ p ∈ l, p ∈ preds o) → (s.testBit i = true → Bef ops i j) → (l.foldl (fun s i => s ||| 2 ^ i ||| acc.getD i 0) s).testBit i = true → Bef ops i j := by
    intro l
    induction l with
    | nil => intro s _ hs h; exact hs h
    | cons p l ih =>
      intro s hl hs h
      refine ih _ (fun q hq => hl q (List.mem_cons_of_mem _ hq)) (fun h' => ?_) h
      simp only [Nat.testBit_or, Bool.or_eq_true, Nat.testBit_two_pow, decide_eq_true_eq] at h'
      rcases h' with (h' | h') | h'
      · exact hs h'
      · subst h'; exact .edge ho (hl _ (List.mem_cons_self ..))
      · exact .trans (hacc p i h') (.edge ho (hl _ (List.mem_cons_self ..)))
  exact key _ 0 (fun _ h => h) (fun h => by simp at h) h
theorem masks_ok {ops : Array Oper} : ∀ (l : List Oper) (acc : List Nat), (∀ k, l[k]? = ops[acc.length + k]?) → (∀ j i, (acc.getD j 0).testBit i = true → Bef ops i j) → ∀ j i, ((masks l acc).getD j 0).testBit i = true → Bef ops i j
  | [], acc, _, h => h
  | o :: r, acc, hl, h => by
    rw [masks]
    refine masks_ok r _ (fun k => ?_) (fun j i hb => ?_)
    · have := hl (k + 1)
      simp only [List.getElem?_cons_succ, List.length_append, List.length_cons, List.length_nil] at this ⊢
      rw [this]; congr 1; omega
    · rcases Nat.lt_or_ge j acc.length with k | k
      · rw [List.getD_eq_getElem?_getD, List.getElem?_append_left k, ← List.getD_eq_getElem?_getD] at hb
        exact h j i hb
      · rcases Nat.lt_or_ge (j - acc.length) 1 with q | q
        · have hj : j = acc.length := by omega
          subst hj
          rw [List.getD_eq_getElem?_getD, List.getElem?_append_right (Nat.le_refl _)] at hb
          simp at hb
          exact maskOf_ok h (by have := hl 0; simpa using this.symm) i hb
        · rw [List.getD_eq_getElem?_getD, List.getElem?_append_right k, List.getElem?_eq_none (by simpa using q)] at hb
          simp at hb
def bef (M : List Nat) (i j : Nat) : Bool := (M.getD j 0).testBit i
theorem bef_ok {ops : Array Oper} {i j : Nat} (h : bef (masks ops.toList []) i j = true) : Bef ops i j :=
  masks_ok ops.toList [] (fun k => by simp) (fun j i h => by simp at h) j i h
theorem Bef.lt {ops : Array Oper} (hb : backward ops = true) {i j : Nat} (h : Bef ops i j) : i < j := by
  induction h with
  | @edge i j o h hp =>
    have hlt : j < ops.size := (Array.getElem?_eq_some_iff.1 h).1
    have := List.all_eq_true.1 hb j (List.mem_range.2 hlt)
    rw [h] at this
    simpa using List.all_eq_true.1 this _ hp
  | trans _ _ h1 h2 => omega
def Down (ops : Array Oper) (S : Nat → Bool) : Prop := ∀ i j, Bef ops i j → S j = true → S i = true
theorem Down.add {ops : Array Oper} {S : Nat → Bool} (h : Down ops S) {i : Nat} {o : Oper} (ho : ops[i]? = some o) (hp : ∀ p ∈ preds o, S p = true) : Down ops (fun j => j == i || S j) := by
  have key : ∀ a b, Bef ops a b → b = i → S a = true := by
    intro a b hb
    induction hb with
    | edge hj hm =>
      intro e; subst e
      rw [ho] at hj; cases hj
      exact hp _ hm
    | trans h1 h2 ih1 ih2 =>
      intro e
      exact h _ _ h1 (ih2 e)
  intro a b hb hS
  simp only [Bool.or_eq_true, beq_iff_eq] at hS ⊢
  rcases hS with hS | hS
  · exact .inr (key a b hb hS)
  · exact .inr (h a b hb hS)
end Go.Det

set_option linter.unusedSimpArgs false
set_option linter.unusedVariables false
namespace Go.Det
open Go Go.RowKit
theorem argsD_congr {ev ev2 : Ev} : ∀ {l : List Operand}, (∀ x ∈ l, ev x = ev2 x) → argsD ev l = argsD ev2 l
  | [], _ => rfl
  | x :: l, h => by simp only [argsD, h x (by simp), argsD_congr (l := l) (fun y hy => h y (by simp [hy]))]
theorem partsD_congr {ev ev2 : Ev} : ∀ {l : List (Nat × Operand)}, (∀ x ∈ l, ev x.2 = ev2 x.2) → partsD ev l = partsD ev2 l
  | [], _ => rfl
  | (i, x) :: l, h => by simp only [partsD, h (i, x) (by simp), partsD_congr (l := l) (fun y hy => h y (by simp [hy]))]
theorem genD_congr {P : Program} {ev ev2 : Ev} {o : Oper} (ho : ∀ cs b, o.op ≠ .select cs b) (h : ∀ x ∈ o.op.operands, ev x = ev2 x) : genD P ev o = genD P ev2 o := by
  unfold genD
  have h1 : (o.op.operands.toList.all fun x => (ev x).any flat) = (o.op.operands.toList.all fun x => (ev2 x).any flat) := by
    rw [Bool.eq_iff_iff, List.all_eq_true, List.all_eq_true]
    constructor
    · intro k x hx; rw [← h x (by simpa using hx)]; exact k x hx
    · intro k x hx; rw [h x (by simpa using hx)]; exact k x hx
  have h2 : execOp (fun x => (ev x).getD undef) o = execOp (fun x => (ev2 x).getD undef) o := execOp_congr o ho fun x hx => by rw [h x hx]
  rw [h1, h2]
theorem OptEv_congr {ev ev2 : Ev} {x : Option Operand} (h : ∀ y, x = some y → ev y = ev2 y) : OptEv ev x = OptEv ev2 x := by
  cases x with
  | none => rfl
  | some y => simp only [OptEv, h y rfl]
theorem opD_congr {P : Program} {H : Hp} {ev ev2 : Ev} {o : Oper} (h : ∀ x ∈ o.op.operands, ev x = ev2 x) : opD P H ev o = opD P H ev2 o := by
  have hg : (∀ cs b, o.op ≠ .select cs b) → genD P ev o = genD P ev2 o := fun q => genD_congr q h
  cases ho : o.op <;> rw [ho] at h <;> simp only [Op.operands, Array.mem_append, List.mem_toArray, List.mem_cons, List.not_mem_nil, or_false, forall_eq_or_imp, forall_eq] at h
  case call c =>
    have ha : argsD ev c.args.toList = argsD ev2 c.args.toList := argsD_congr fun x hx => h x (by simp [Call.operands]; exact .inr (by simpa using hx))
    unfold opD
    simp only [ho]
    unfold callD
    rw [ha]
    cases hc : c.callee with
    | value f =>
      have : ev f = ev2 f := h f (by simp [Call.operands, hc])
      simp only [this]
    | invoke r n =>
      have : ev r = ev2 r := h r (by simp [Call.operands, hc])
      simp only [this]
    | builtin b =>
      have := hg (by rw [ho]; intro _ _ q; cases q)
      cases b <;> first | rfl | simp only [this]
  case defer c =>
    have ha : argsD ev c.args.toList = argsD ev2 c.args.toList := argsD_congr fun x hx => h x (by simp [Call.operands]; exact .inr (by simpa using hx))
    unfold opD
    simp only [ho, ha]
    cases hc : c.callee with
    | value f =>
      have : ev f = ev2 f := h f (by simp [Call.operands, hc])
      cases argsD ev2 c.args.toList with
      | none => rfl
      | some z => simp only [this]
    | _ => rfl
  case next it b =>
    unfold opD
    cases b <;> simp only [ho, h]
  case makeMap t r =>
    unfold opD
    cases r <;> simp only [ho]
  case build t parts =>
    unfold opD; simp only [ho]
    rw [partsD_congr (ev2 := ev2) (l := parts.toList) fun x hx => h x.2 (by simp; exact ⟨x.1, by simpa using hx⟩)]
  case buildSlice t n parts =>
    unfold opD; simp only [ho]
    rw [partsD_congr (ev2 := ev2) (l := parts.toList) fun x hx => h x.2 (by simp; exact ⟨x.1, by simpa using hx⟩)]
  case makeFunc fn a b =>
    unfold opD; simp only [ho]
    rw [argsD_congr (ev2 := ev2) (l := a.toList) fun x hx => h x (.inl (by simpa using hx)), argsD_congr (ev2 := ev2) (l := b.toList) fun x hx => h x (.inr (by simpa using hx))]
  case slice t x lo hi mx =>
    unfold opD; simp only [ho]
    rw [h x (by simp), OptEv_congr (ev2 := ev2) (x := lo) fun y hy => h y (by subst hy; simp), OptEv_congr (ev2 := ev2) (x := hi) fun y hy => h y (by subst hy; simp), OptEv_congr (ev2 := ev2) (x := mx) fun y hy => h y (by subst hy; simp)]
  case binOp op t x y t' =>
    have := hg (by rw [ho]; intro _ _ q; cases q)
    unfold opD; simp only [ho, h.1, h.2]
    cases ev2 x <;> cases ev2 y <;> first | rfl | skip
    simp only [binD, this]
  case unOp => have := hg (by rw [ho]; intro _ _ q; cases q); unfold opD; simp only [ho, this]
  case convert => have := hg (by rw [ho]; intro _ _ q; cases q); unfold opD; simp only [ho, this, h]
  all_goals (unfold opD; simp only [ho, h])
inductive Cls where
  | pure | read | writes
  deriving DecidableEq
def cls (P : Program) : Op → Option Cls
  | .move _ | .assign _ | .pick .. | .build .. | .nilCheck _ | .binOp .. | .unOp .. | .makeInterface .. | .makeFunc .. | .fieldAddr .. | .field .. | .indexAddr .. | .index .. | .typeAssert .. | .extract .. => some .pure
  | .load .. | .slice .. => some .read
  | .convert src dst _ => match P.underlying dst, P.underlying src with
    | some .unsafePointer, _ => none
    | _, some .unsafePointer => none
    | some (.slice _), _ => some .writes
    | some _, some (.slice _) => some .read
    | some _, some _ => some .pure
    | _, _ => none
  | .alloc _ | .box .. | .buildSlice .. | .store .. | .makeSlice .. | .range .. | .next .. | .makeMap .. | .lookup .. | .mapUpdate .. => some .writes
  | .call c => match c.callee with
    | .builtin .len => some .read
    | .builtin .cap | .builtin .min | .builtin .max | .builtin .unsafeSliceData => some .pure
    | .builtin .append | .builtin .copy | .builtin .clear | .builtin .unsafeString => some .writes
    | .builtin _ => none
    | .value _ => some .writes
    | .invoke .. => some .writes
  | _ => none
def blkOf : Option Value → Option Nat
  | some (.pointer (some a)) => some a.block
  | some (.slice (some a) _ _) => some a.block
  | some (.map (some r)) => some r
  | _ => none
def noRd : Option Value → Bool
  | some (.slice _ _ cap) => !Nat.beq cap LOOSE
  | _ => false
def slBlk (o : Option Value) : Option Nat := match noRd o with | true => none | false => blkOf o
theorem slBlk_le {o : Option Value} {b : Nat} (h : slBlk o = some b) : blkOf o = some b := by
  unfold slBlk at h
  split at h
  · cases h
  · exact h
def readBlk (ev : Ev) : Op → Option Nat
  | .load _ a => blkOf (ev a)
  | .slice _ x _ _ _ => slBlk (ev x)
  | .convert _ _ x => blkOf (ev x)
  | .call c => match c.args.toList with
    | x :: _ => blkOf (ev x)
    | [] => none
  | _ => none
theorem convD_none {P : Program} {H : Hp} {src dst : TypeId} {x : Value} {x' : Operand} (h : cls P (.convert src dst x') = some .pure) : convD P H src dst x = none := by
  simp only [cls] at h
  unfold convD
  split
  all_goals first
    | rfl
    | (rename_i h1 h2; simp [h1, h2] at h; done)
theorem pure_ok {P : Program} {H : Hp} {ev : Ev} {o : Oper} {r : Res} (hc : cls P o.op = some .pure) (e : opD P H ev o = some r) : ∃ v, r = .val v H ∧ ∀ H2, opD P H2 ev o = some (.val v H2) := by
  cases ho : o.op
  all_goals rw [ho] at hc
  all_goals first | (cases hc; done) | skip
  case convert src dst x =>
    unfold opD at e ⊢
    simp only [ho] at e ⊢
    split at e
    · rename_i v hv
      rw [convD_none hc] at e
      simp only at e
      split at e
      · cases e; rename_i u hu
        refine ⟨u, rfl, fun H2 => ?_⟩
        simp only [hv, convD_none hc, hu]
      · cases e
    · cases e
  case call c =>
    unfold opD at e ⊢
    simp only [ho] at e ⊢
    unfold callD at e ⊢
    simp only [cls] at hc
    split at hc <;> first | (cases hc; done) | skip
    all_goals
      rename_i hcal
      cases ha : argsD ev c.args.toList with
      | none => rw [ha] at e; cases e
      | some args =>
        simp only [hcal, ha] at e ⊢
        first
          | (match args, e with
             | [x], e =>
               simp only at e ⊢
               cases hq : capOfD P c.argTypes x with
               | none => rw [hq] at e; cases e
               | some v => rw [hq] at e; cases e; exact ⟨v, rfl, fun H2 => by simp only [hq, Option.map_some]⟩)
          | (split at e
             · cases e; exact ⟨_, rfl, fun H2 => rfl⟩
             · cases e; exact ⟨_, rfl, fun H2 => rfl⟩
             · cases e)
          | (cases hq : genD P ev o with
             | none => rw [hq] at e; cases e
             | some v => rw [hq] at e; cases e; exact ⟨v, rfl, fun H2 => by simp only [hq, Option.map_some]⟩)
  all_goals
    unfold opD at e ⊢
    simp only [ho] at e ⊢
    repeat' split at e
    all_goals first
      | (cases e; done)
      | (cases e; refine ⟨_, rfl, fun H2 => ?_⟩; simp_all; done)
      | skip
theorem loadD_congr {P : Program} {H H2 : Hp} {t : TypeId} {v : Value} (h : ∀ b, blkOf (some v) = some b → H2.get b = H.get b) : loadD P H2 t v = loadD P H t v := by
  unfold loadD
  split
  · rename_i b o
    rw [h b rfl]
  · rfl
theorem szOk_congr {H H2 : Hp} {b n : Nat} (h : H2.get b = H.get b) : szOk H2 b n = szOk H b n := by unfold szOk; rw [h]
theorem sliceD_congr {P : Program} {H H2 : Hp} {t : TypeId} {x : Value} {lo hi mx : Option Value} (h : ∀ b, slBlk (some x) = some b → H2.get b = H.get b) : sliceD P H2 t x lo hi mx = sliceD P H t x lo hi mx := by
  unfold sliceD
  split
  · rfl
  · rename_i b o len cap hu
    by_cases hc : cap = LOOSE
    · have := h b (by subst hc; rfl)
      simp only [szOk_congr this]
    · simp only [if_neg hc]
  · rfl
  · rfl
  · rfl
theorem lenOfD_congr {P : Program} {H H2 : Hp} {a : Array TypeId} {x : Value} (h : ∀ b, blkOf (some x) = some b → H2.get b = H.get b) : lenOfD P H2 a x = lenOfD P H a x := by
  unfold lenOfD
  split
  · split
    · rfl
    · rfl
    · rfl
    · rfl
    · rename_i r hu; rw [h r rfl]
    · rfl
  · rfl
theorem convD_read {P : Program} {H H2 : Hp} {src dst : TypeId} {x : Value} {x' : Operand} (hc : cls P (.convert src dst x') = some .read) (h : ∀ b, blkOf (some x) = some b → H2.get b = H.get b) :
    (∀ q, convD P H src dst x = some q → q.2 = H) ∧ convD P H2 src dst x = (convD P H src dst x).map fun q => (q.1, H2) := by
  simp only [cls] at hc
  unfold convD
  split
  · rename_i h1 h2; simp [h1, h2] at hc
  · rename_i e h1 h2
    split
    · exact ⟨fun q k => by cases k; rfl, rfl⟩
    · exact ⟨fun q k => by (cases k), rfl⟩
  · rename_i e b o len cap h1 h2
    rw [h b rfl]
    split
    · split
      · exact ⟨fun q k => by cases k; rfl, rfl⟩
      · exact ⟨fun q k => by (cases k), rfl⟩
    · exact ⟨fun q k => by (cases k), rfl⟩
  all_goals first
    | (rename_i h1 h2; simp [h1, h2] at hc; done)
    | exact ⟨fun q k => by (cases k), rfl⟩
theorem read_ok {P : Program} {H : Hp} {ev : Ev} {o : Oper} {r : Res} (hc : cls P o.op = some .read) (e : opD P H ev o = some r) :
    ∃ v, r = .val v H ∧ ∀ H2, (∀ b, readBlk ev o.op = some b → H2.get b = H.get b) → opD P H2 ev o = some (.val v H2) := by
  cases ho : o.op
  all_goals rw [ho] at hc
  all_goals first | (cases hc; done) | skip
  case load t a =>
    unfold opD at e ⊢
    simp only [ho, readBlk] at e ⊢
    split at e
    · rename_i v hv
      cases hq : loadD P H t v with
      | none => rw [hq] at e; cases e
      | some u =>
        rw [hq] at e; cases e
        refine ⟨u, rfl, fun H2 h => ?_⟩
        rw [hv] at h
        simp only [hv, loadD_congr h, hq]
    · cases e
  case slice t x lo hi mx =>
    unfold opD at e ⊢
    simp only [ho, readBlk] at e ⊢
    split at e
    · rename_i v lo' hi' mx' hv hlo hhi hmx
      cases hq : sliceD P H t v lo' hi' mx' with
      | none => rw [hq] at e; cases e
      | some u =>
        rw [hq] at e; cases e
        refine ⟨u, rfl, fun H2 h => ?_⟩
        rw [hv] at h
        simp only [hv, hlo, hhi, hmx, sliceD_congr h, hq]
    · cases e
  case convert src dst x =>
    unfold opD at e ⊢
    simp only [ho, readBlk] at e ⊢
    split at e
    · rename_i v hv
      cases hq : convD P H src dst v with
      | none =>
        rw [hq] at e
        simp only at e
        cases hg : genD P ev o with
        | none => rw [hg] at e; cases e
        | some u =>
          rw [hg] at e; cases e
          refine ⟨u, rfl, fun H2 h => ?_⟩
          rw [hv] at h
          have := (convD_read hc h).2
          rw [hq] at this
          simp only [hv, this, Option.map_none, hg]
      | some q =>
        rw [hq] at e
        obtain ⟨u, H'⟩ := q
        cases e
        have h1 := (convD_read (H2 := H) hc (fun _ _ => rfl)).1 _ hq
        simp only at h1
        subst h1
        refine ⟨u, rfl, fun H2 h => ?_⟩
        rw [hv] at h
        have := (convD_read hc h).2
        rw [hq] at this
        simp only [hv, this, Option.map_some]
    · cases e
  case call c =>
    unfold opD at e ⊢
    simp only [ho, readBlk] at e ⊢
    unfold callD at e ⊢
    simp only [cls] at hc
    split at hc <;> first | (cases hc; done) | skip
    rename_i hcal
    cases ha : argsD ev c.args.toList with
    | none => rw [ha] at e; cases e
    | some args =>
      simp only [hcal, ha] at e ⊢
      match args, e with
      | [x], e =>
        simp only at e ⊢
        cases hq : lenOfD P H c.argTypes x with
        | none => rw [hq] at e; cases e
        | some v =>
          rw [hq] at e; cases e
          refine ⟨v, rfl, fun H2 h => ?_⟩
          have hx : ∃ y l, c.args.toList = y :: l ∧ ev y = some x := by
            cases hl : c.args.toList with
            | nil => rw [hl] at ha; simp [argsD] at ha
            | cons y l =>
              rw [hl] at ha
              simp only [argsD] at ha
              split at ha
              · rename_i u l' hu hl'
                cases ha
                exact ⟨y, l, rfl, hu⟩
              · cases ha
          obtain ⟨y, l, hl, hy⟩ := hx
          rw [hl] at h
          simp only [hy] at h
          rw [lenOfD_congr h, hq]
          rfl
end Go.Det

set_option linter.unusedSimpArgs false
set_option linter.unusedVariables false
namespace Go.Det
open Go Go.RowKit
def opSlots (o : Oper) : List Tmp := o.op.operands.toList.filterMap fun | .tmp t => some t | _ => none
def guardSlots (ops : Array Oper) (o : Oper) : List Tmp :=
  match o.guard with
  | some (j, _) => ((ops[j]?).bind (·.dst)).toList
  | none => []
def slots (ops : Array Oper) (o : Oper) : List Tmp := opSlots o ++ guardSlots ops o
def hits (d : Option Tmp) (l : List Tmp) : Bool := match d with | some t => l.contains t | none => false
def isMut (P : Program) (o : Oper) : Bool := cls P o.op == some .writes
def strOp (P : Program) : Op → Bool
  | .slice t _ _ _ _ => match P.underlying t with
    | some .string => true
    | _ => false
  | .call c => match c.callee with
    | .builtin .len => match c.argTypes[0]? with
      | some t => match P.underlying t with
        | some (.map _ _) => false
        | _ => true
      | none => true
    | _ => false
  | _ => false
theorem lenOfD_str {P : Program} {a : Array TypeId} {x : Value} {H H2 : Hp} (h : (match a[0]? with
      | some t => match P.underlying t with
        | some (.map _ _) => false
        | _ => true
      | none => true) = true) : lenOfD P H2 a x = lenOfD P H a x := by
  unfold lenOfD
  split
  · rename_i t ht
    rw [ht] at h
    simp only at h
    split
    all_goals first
      | rfl
      | (rename_i hu; rw [hu] at h; cases h)
  · rfl
theorem strOp_ok {P : Program} {H H' : Hp} {ev : Ev} {o : Oper} {v : Value} (hs : strOp P o.op = true) (e : opD P H ev o = some (.val v H')) : ∀ H2, opD P H2 ev o = some (.val v H2) := by
  intro H2
  cases ho : o.op
  all_goals rw [ho] at hs
  all_goals first | (cases hs; done) | skip
  case slice t x lo hi mx =>
    have hu : P.underlying t = some .string := by
      simp only [strOp] at hs
      split at hs
      · assumption
      · cases hs
    have hc : ∀ (xv : Value) (l h m : Option Value), sliceD P H2 t xv l h m = sliceD P H t xv l h m := by
      intro xv l h m
      unfold sliceD
      rw [hu]
      cases xv <;> rfl
    unfold opD at e ⊢
    simp only [ho, hc] at e ⊢
    revert e
    repeat' split
    all_goals first
      | (intro e; cases e; rfl)
      | (intro e; cases e)
  case call c =>
    simp only [strOp] at hs
    split at hs
    case h_2 => cases hs
    rename_i hcal
    have hc : ∀ x, lenOfD P H2 c.argTypes x = lenOfD P H c.argTypes x := fun x => lenOfD_str hs
    unfold opD at e ⊢
    simp only [ho] at e ⊢
    unfold callD at e ⊢
    cases ha : argsD ev c.args.toList with
    | none => rw [ha] at e; cases e
    | some args =>
      simp only [hcal, ha] at e ⊢
      match args, e with
      | [x], e =>
        simp only [hc] at e ⊢
        cases hq : lenOfD P H c.argTypes x with
        | none => rw [hq] at e; cases e
        | some v => rw [hq] at e; cases e; rfl
def isRead (P : Program) (o : Oper) : Bool := cls P o.op == some .read && !strOp P o.op
def cleanF (P : Program) (ops : Array Oper) : Nat → Nat → Bool
  | 0, _ => false
  | n + 1, j => match ops[j]? with
    | some o => !isMut P o && (preds o).all (cleanF P ops n)
    | none => false
def newOp (P : Program) : Op → Bool
  | .alloc t => !isB P t
  | .buildSlice _ _ _ => true
  | _ => false
def freeA (P : Program) (ops : Array Oper) (o : Oper) : Bool :=
  match newOp P o.op, o.guard, o.dst with
  | true, none, some _ => (preds o).all (cleanF P ops 8)
  | _, _, _ => false
def clash2 (ops : Array Oper) (a b : Oper) : Bool :=
  hits a.dst (slots ops b) || hits b.dst (slots ops a) || (match a.dst with | some t => b.dst == some t | none => false)
def clash (P : Program) (ops : Array Oper) (a b : Oper) : Bool := clash2 ops a b || (isMut P a && isMut P b && !freeA P ops b)
def okPairs (P : Program) (ops : Array Oper) (M : List Nat) : Bool :=
  (List.range ops.size).all fun i => match ops[i]? with
    | some b => (cls P b.op).isSome && (List.range i).all fun j => match ops[j]? with
      | some a => !clash P ops a b || bef M j i
      | none => true
    | none => true
def okFree (P : Program) (ops : Array Oper) (M : List Nat) : Bool :=
  (List.range ops.size).all fun d => match ops[d]? with
    | some od => (preds od).all fun q => match ops[q]? with
      | some o => !freeA P ops o || (List.range q).all fun y => match ops[y]? with
        | some a => !isMut P a || bef M y d
        | none => true
      | none => true
    | none => true
def floating (P : Program) (ops : Array Oper) (M : List Nat) (i : Nat) : Bool :=
  match ops[i]? with
  | some o => isRead P o && (List.range ops.size).any fun j => match ops[j]? with
    | some a => isMut P a && !bef M j i && !bef M i j
    | none => false
  | none => false
def floatPair (P : Program) (ops : Array Oper) (M : List Nat) (i j : Nat) : Bool :=
  match ops[i]?, ops[j]? with
  | some o, some a => isRead P o && (isMut P a && !bef M j i && !bef M i j)
  | _, _ => false
theorem floating_pair {P : Program} {ops : Array Oper} {M : List Nat} {i : Nat} (h : floating P ops M i = true) : ∃ j, floatPair P ops M i j = true := by
  unfold floating at h
  split at h
  · rename_i o ho
    simp only [Bool.and_eq_true] at h
    obtain ⟨j, hj, hk⟩ := List.any_eq_true.1 h.2
    refine ⟨j, ?_⟩
    unfold floatPair
    rw [ho]
    cases ha : ops[j]? with
    | none => rw [ha] at hk; cases hk
    | some a => rw [ha] at hk; simp only [h.1, hk, Bool.true_and]
  · cases h
theorem floatPair_lt {P : Program} {ops : Array Oper} {M : List Nat} {i j : Nat} (h : floatPair P ops M i j = true) : i < ops.size ∧ j < ops.size := by
  unfold floatPair at h
  split at h
  · rename_i o a ho ha
    exact ⟨(Array.getElem?_eq_some_iff.1 ho).1, (Array.getElem?_eq_some_iff.1 ha).1⟩
  · cases h
def okDraw (P : Program) (ops : Array Oper) : Bool := backward ops && okPairs P ops (masks ops.toList []) && okFree P ops (masks ops.toList [])
inductive OpFact (P : Program) (ops : Array Oper) (i : Nat) (s : St) : St → Prop where
  | skip {o : Oper} (ho : ops[i]? = some o) (hg : gd ops s o = some false) (hf : s.fits o.dst) : OpFact P ops i s (s.put o.dst undef)
  | val {o : Oper} {v : Value} {H' : Hp} (ho : ops[i]? = some o) (hg : gd ops s o = some true) (hd : notDefer o.op = true) (he : opD P s.H (evOf P s) o = some (.val v H')) (hf : s.fits o.dst) : OpFact P ops i s ((s.at_ H').put o.dst v)
  | call {o : Oper} {f : FuncId} {args : List Value} {v : Value} {H' : Hp} (ho : ops[i]? = some o) (hg : gd ops s o = some true) (hd : notDefer o.op = true) (he : opD P s.H (evOf P s) o = some (.enter f args)) (hf : s.fits o.dst) (k : CFact P f args s.H v H') :
      OpFact P ops i s ((s.at_ H').put o.dst v)
theorem OpFact.step {P : Program} {ops : Array Oper} {i : Nat} {s s' : St} (h : OpFact P ops i s s') : SStep P ops i s s' := by
  cases h with
  | skip ho hg hf => exact SStep.skip ho hg hf
  | val ho hg hd he hf => exact SStep.val ho hg hd he hf
  | call ho hg hd he hf k => exact SStep.call ho hg hd he hf k
theorem OpFact.shape {P : Program} {ops : Array Oper} {i : Nat} {s s' : St} (h : OpFact P ops i s s') : ∃ o v, ops[i]? = some o ∧ s' = (s.at_ s'.H).put o.dst v ∧ s.fits o.dst := by
  cases h with
  | @skip o ho hg hf =>
    refine ⟨o, undef, ho, ?_, hf⟩
    cases o.dst <;> rfl
  | @val o v H' ho hg hd he hf =>
    refine ⟨o, v, ho, ?_, hf⟩
    cases o.dst <;> rfl
  | @call o f args v H' ho hg hd he hf k =>
    refine ⟨o, v, ho, ?_, hf⟩
    cases o.dst <;> rfl
theorem OpFact.still {P : Program} {ops : Array Oper} {i : Nat} {s s' : St} (h : OpFact P ops i s s') (hm : ∀ o, ops[i]? = some o → (cls P o.op).isSome = true ∧ isMut P o = false) : s'.H = s.H := by
  have key : ∀ {o : Oper} {r : Res}, ops[i]? = some o → opD P s.H (evOf P s) o = some r → ∃ v, r = .val v s.H := by
    intro o r ho he
    obtain ⟨h1, h2⟩ := hm o ho
    obtain ⟨c, hc⟩ := Option.isSome_iff_exists.1 h1
    cases c with
    | pure => obtain ⟨v, k, _⟩ := pure_ok hc he; exact ⟨v, k⟩
    | read => obtain ⟨v, k, _⟩ := read_ok hc he; exact ⟨v, k⟩
    | writes => simp [isMut, hc] at h2
  cases h with
  | @skip o ho hg hf => exact (put_facts _ _ _).2.1
  | @val o v H' ho hg hd he hf =>
    obtain ⟨u, k⟩ := key ho he
    cases k
    exact (put_facts _ _ _).2.1
  | call ho hg hd he hf k =>
    obtain ⟨u, k⟩ := key ho he
    cases k
structure Run (P : Program) (ops : Array Oper) (st : St) (f : Nat → St) : Prop where
  zero : f 0 = st
  fact : ∀ j, j < ops.size → OpFact P ops j (f j) (f (j + 1))
  ok : okDraw P ops = true
  ext : ∃ (c : Nat) (T : Nat → Prop), (∀ i j, floatPair P ops (masks ops.toList []) i j = true → i < c ∧ j < c) ∧
    (∀ j, j ≤ c → j ≤ ops.size → ∀ b, T b → (f j).H.get b = st.H.get b) ∧
    ∀ i o, ops[i]? = some o → floating P ops (masks ops.toList []) i = true → ∀ b, readBlk (evOf P (f i)) o.op = some b → T b
section main
variable {P : Program} {ops : Array Oper} {st : St} {f : Nat → St}
def dstOf (ops : Array Oper) (j : Nat) : Option Tmp := (ops[j]?).bind (·.dst)
def mutAt (P : Program) (ops : Array Oper) (j : Nat) : Bool := match ops[j]? with | some o => isMut P o | none => false
def Em (ops : Array Oper) (st : St) (vv : Nat → Value) : Nat → (Nat → Bool) → Nat → Option Value
  | 0, _ => st.env
  | m + 1, S => if S m then (fun t => if dstOf ops m = some t then some (vv m) else Em ops st vv m S t) else Em ops st vv m S
def Hm (P : Program) (ops : Array Oper) (st : St) (f : Nat → St) : Nat → (Nat → Bool) → Hp
  | 0, _ => st.H
  | m + 1, S => if S m && mutAt P ops m then (f (m + 1)).H else Hm P ops st f m S
theorem Em_congr (vv : Nat → Value) {S S' : Nat → Bool} {t : Nat} : ∀ {m : Nat}, (∀ j, j < m → dstOf ops j = some t → S j = S' j) → Em ops st vv m S t = Em ops st vv m S' t
  | 0, _ => rfl
  | m + 1, h => by
    have ih := Em_congr vv (m := m) fun j hj => h j (by omega)
    simp only [Em]
    by_cases hd : dstOf ops m = some t
    · rw [h m (by omega) hd]
      cases S' m
      · simpa using ih
      · simp [hd]
    · cases S m <;> cases S' m <;> simp [hd, ih]
theorem Hm_congr {S S' : Nat → Bool} : ∀ {m : Nat}, (∀ j, j < m → mutAt P ops j = true → S j = S' j) → Hm P ops st f m S = Hm P ops st f m S'
  | 0, _ => rfl
  | m + 1, h => by
    have ih := Hm_congr (m := m) fun j hj => h j (by omega)
    simp only [Hm]
    by_cases hd : mutAt P ops m = true
    · rw [h m (by omega) hd, ih]
    · have : mutAt P ops m = false := by simpa using hd
      simp [this, ih]
theorem Em_stop (vv : Nat → Value) {S : Nat → Bool} {i : Nat} {t : Nat} : ∀ {m : Nat}, i ≤ m → (∀ j, i ≤ j → j < m → dstOf ops j = some t → S j = false) → Em ops st vv m S t = Em ops st vv i S t
  | 0, hi, _ => by have : i = 0 := by omega
                   subst this; rfl
  | m + 1, hi, h => by
    by_cases hm : i = m + 1
    · subst hm; rfl
    · have ih := Em_stop vv (m := m) (by omega) fun j h1 h2 => h j h1 (by omega)
      simp only [Em]
      by_cases hd : dstOf ops m = some t
      · rw [h m (by omega) (by omega) hd]; simpa using ih
      · cases S m <;> simp [hd, ih]
theorem Hm_stop {S : Nat → Bool} {i : Nat} : ∀ {m : Nat}, i ≤ m → (∀ j, i ≤ j → j < m → mutAt P ops j = true → S j = false) → Hm P ops st f m S = Hm P ops st f i S
  | 0, hi, _ => by have : i = 0 := by omega
                   subst this; rfl
  | m + 1, hi, h => by
    by_cases hm : i = m + 1
    · subst hm; rfl
    · have ih := Hm_stop (m := m) (by omega) fun j h1 h2 => h j h1 (by omega)
      simp only [Hm]
      by_cases hd : mutAt P ops m = true
      · rw [h m (by omega) (by omega) hd]; simpa using ih
      · have : mutAt P ops m = false := by simpa using hd
        simp [this, ih]
theorem Hm_some {S : Nat → Bool} : ∀ m, ∃ j, j ≤ m ∧ (j = 0 ∨ (S (j - 1) = true ∧ mutAt P ops (j - 1) = true)) ∧ Hm P ops st f m S = (if j = 0 then st.H else (f j).H)
  | 0 => ⟨0, Nat.le_refl _, .inl rfl, rfl⟩
  | m + 1 => by
    obtain ⟨j, h1, h3, h2⟩ := Hm_some (S := S) m
    simp only [Hm]
    split
    · rename_i q
      simp only [Bool.and_eq_true] at q
      exact ⟨m + 1, Nat.le_refl _, .inr q, by simp⟩
    · exact ⟨j, by omega, h3, h2⟩
variable (r : Run P ops st f)
include r
theorem Run.vals : ∃ vv : Nat → Value, ∀ j, j < ops.size → f (j + 1) = ((f j).at_ (f (j + 1)).H).put (dstOf ops j) (vv j) ∧ (f j).fits (dstOf ops j) := by
  have key : ∀ j, ∃ v, j < ops.size → f (j + 1) = ((f j).at_ (f (j + 1)).H).put (dstOf ops j) v ∧ (f j).fits (dstOf ops j) := by
    intro j
    by_cases hj : j < ops.size
    · obtain ⟨o, v, ho, h1, h2⟩ := (r.fact j hj).shape
      refine ⟨v, fun _ => ?_⟩
      have : dstOf ops j = o.dst := by simp [dstOf, ho]
      rw [this]; exact ⟨h1, h2⟩
    · exact ⟨undef, fun k => absurd k hj⟩
  exact ⟨fun j => Classical.choose (key j), fun j => Classical.choose_spec (key j)⟩
theorem Run.clsSome {i : Nat} {o : Oper} (ho : ops[i]? = some o) : (cls P o.op).isSome = true := by
  have hlt : i < ops.size := (Array.getElem?_eq_some_iff.1 ho).1
  have := r.ok
  simp only [okDraw, Bool.and_eq_true] at this
  have := List.all_eq_true.1 this.1.2 i (List.mem_range.2 hlt)
  rw [ho] at this
  simp only [Bool.and_eq_true] at this
  exact this.1
theorem Run.order {i j : Nat} {a b : Oper} (hji : j < i) (ha : ops[j]? = some a) (hb : ops[i]? = some b) (hc : clash P ops a b = true) : Bef ops j i := by
  have hlt : i < ops.size := (Array.getElem?_eq_some_iff.1 hb).1
  have := r.ok
  simp only [okDraw, Bool.and_eq_true] at this
  have := List.all_eq_true.1 this.1.2 i (List.mem_range.2 hlt)
  rw [hb] at this
  simp only [Bool.and_eq_true] at this
  have := List.all_eq_true.1 this.2 j (List.mem_range.2 hji)
  rw [ha] at this
  simp only [hc, Bool.not_true, Bool.false_or] at this
  exact bef_ok this
theorem Run.same (j : Nat) (hj : j ≤ ops.size) : (f j).n = st.n ∧ (f j).defs = st.defs ∧ (f j).dok = st.dok := by
  induction j with
  | zero => rw [r.zero]; exact ⟨rfl, rfl, rfl⟩
  | succ j ih =>
    obtain ⟨vv, hvv⟩ := r.vals
    obtain ⟨h1, h2, h3⟩ := ih (by omega)
    obtain ⟨p1, p2, p3, p4⟩ := put_facts ((f j).at_ (f (j + 1)).H) (dstOf ops j) (vv j)
    rw [(hvv j (by omega)).1]
    exact ⟨p4.trans h1, p3.trans h2, p1.trans h3⟩
theorem Run.Em_full {vv : Nat → Value} (hvv : ∀ j, j < ops.size → f (j + 1) = ((f j).at_ (f (j + 1)).H).put (dstOf ops j) (vv j) ∧ (f j).fits (dstOf ops j)) {S : Nat → Bool} : ∀ m, m ≤ ops.size → (∀ j, j < m → S j = true) → Em ops st vv m S = (f m).env
  | 0, _, _ => by rw [r.zero]; rfl
  | m + 1, hm, h => by
    have ih := Run.Em_full hvv m (by omega) fun j hj => h j (by omega)
    simp only [Em, h m (by omega), if_true, ih]
    rw [(hvv m (by omega)).1]
    cases hd : dstOf ops m with
    | none => simp [St.put, St.at_]
    | some t =>
      funext u
      simp only [St.put, St.at_, Option.some.injEq]
      by_cases hu : u = t
      · subst hu; simp
      · simp only [if_neg hu]
        rw [if_neg (fun q : t = u => hu q.symm)]
theorem Run.Hm_full {S : Nat → Bool} : ∀ m, m ≤ ops.size → (∀ j, j < m → S j = true) → Hm P ops st f m S = (f m).H
  | 0, _, _ => by rw [r.zero]; rfl
  | m + 1, hm, h => by
    have ih := Run.Hm_full (S := S) m (by omega) fun j hj => h j (by omega)
    simp only [Hm, h m (by omega), Bool.true_and, ih]
    by_cases hd : mutAt P ops m = true
    · simp [hd]
    · rw [if_neg hd]
      refine ((r.fact m (by omega)).still fun o ho => ⟨r.clsSome ho, ?_⟩).symm
      simp only [mutAt, ho] at hd
      simpa using hd
end main
end Go.Det

set_option linter.unusedSimpArgs false
set_option linter.unusedVariables false
namespace Go.Det
open Go Go.RowKit
theorem put_inj {s : St} {d : Option Tmp} {H1 H2 : Hp} {v1 v2 : Value} (h : (s.at_ H1).put d v1 = (s.at_ H2).put d v2) : H1 = H2 ∧ ∀ t, d = some t → v1 = v2 := by
  cases d with
  | none =>
    simp only [St.put, St.at_, St.mk.injEq] at h
    exact ⟨h.2.2.1, fun t k => by cases k⟩
  | some t =>
    simp only [St.put, St.at_, St.mk.injEq] at h
    refine ⟨h.2.2.1, fun u k => ?_⟩
    cases k
    have := congrFun h.1 t
    simpa using this
section main
variable {P : Program} {ops : Array Oper} {st : St} {f : Nat → St}
def stS (P : Program) (ops : Array Oper) (st : St) (f : Nat → St) (vv : Nat → Value) (S : Nat → Bool) : St :=
  { st with env := Em ops st vv ops.size S, H := Hm P ops st f ops.size S }
theorem put_congr {s : St} {d : Option Tmp} {v1 v2 : Value} (h : ∀ t, d = some t → v1 = v2) : s.put d v1 = s.put d v2 := by
  cases d with
  | none => rfl
  | some t => rw [h t rfl]
structure Fit (P : Program) (ops : Array Oper) (S : Nat → Bool) (i : Nat) (o : Oper) : Prop where
  none : S i = false
  slot : ∀ j a, ops[j]? = some a → j ≠ i → clash2 ops a o = true → clash2 ops o a = true → S j = decide (j < i)
  mut_ : isMut P o = true → ∀ j a, ops[j]? = some a → j ≠ i → isMut P a = true → S j = decide (j < i)
  rd : ∀ j a, ops[j]? = some a → j ≠ i → bef (masks ops.toList []) j i = true ∨ bef (masks ops.toList []) i j = true → S j = decide (j < i)
theorem Run.evAt (r : Run P ops st f) {vv : Nat → Value} (hvv : ∀ j, j < ops.size → f (j + 1) = ((f j).at_ (f (j + 1)).H).put (dstOf ops j) (vv j) ∧ (f j).fits (dstOf ops j))
    {S : Nat → Bool} {i : Nat} {o : Oper} (ho : ops[i]? = some o) (hi : S i = false) (hslot : ∀ j a, ops[j]? = some a → j ≠ i → clash2 ops a o = true → clash2 ops o a = true → S j = decide (j < i)) :
    ∀ x ∈ o.op.operands, evOf P (stS P ops st f vv S) x = evOf P (f i) x := by
  have hlt : i < ops.size := (Array.getElem?_eq_some_iff.1 ho).1
  have getop : ∀ j, j < ops.size → ∃ a, ops[j]? = some a := fun j hj => ⟨ops[j], by simp [hj]⟩
  have env : ∀ t ∈ slots ops o, Em ops st vv ops.size S t = (f i).env t := by
    intro t ht
    have h1 : Em ops st vv ops.size S t = Em ops st vv ops.size (fun j => decide (j < i)) t := by
      refine Em_congr vv fun j hj hd => ?_
      by_cases hji : j = i
      · subst hji; rw [hi]; simp
      · obtain ⟨a, ha⟩ := getop j hj
        have hda : a.dst = some t := by simpa [dstOf, ha] using hd
        have hh : hits a.dst (slots ops o) = true := by rw [hda]; simpa [hits] using ht
        exact hslot j a ha hji (by simp [clash2, hh]) (by simp [clash2, hh])
    rw [h1, Em_stop vv (i := i) (Nat.le_of_lt hlt) (fun j hj1 hj2 _ => by simp; omega)]
    rw [Run.Em_full r hvv i (Nat.le_of_lt hlt) (fun j hj => by simpa using hj)]
  intro x hx
  cases x with
  | tmp t =>
    refine env t ?_
    unfold slots opSlots
    rw [List.mem_append]
    refine .inl (List.mem_filterMap.2 ⟨.tmp t, by simpa using hx, rfl⟩)
  | const v => rfl
  | global g => rfl
  | func g => rfl
theorem Run.one (r : Run P ops st f) {vv : Nat → Value} (hvv : ∀ j, j < ops.size → f (j + 1) = ((f j).at_ (f (j + 1)).H).put (dstOf ops j) (vv j) ∧ (f j).fits (dstOf ops j))
    {S : Nat → Bool} {i : Nat} {o : Oper} (ho : ops[i]? = some o) (fit : Fit P ops S i o) :
    OpFact P ops i (stS P ops st f vv S) (stS P ops st f vv (fun j => j == i || S j)) := by
  have hi := fit.none
  have hlt : i < ops.size := (Array.getElem?_eq_some_iff.1 ho).1
  have hdi : dstOf ops i = o.dst := by simp [dstOf, ho]
  have getop : ∀ j, j < ops.size → ∃ a, ops[j]? = some a := fun j hj => ⟨ops[j], by simp [hj]⟩
  have S0 : ∀ j, (decide (j < i)) = (fun j => decide (j < i)) j := fun _ => rfl
  -- slots that it reads
  have env : ∀ t ∈ slots ops o, Em ops st vv ops.size S t = (f i).env t := by
    intro t ht
    have h1 : Em ops st vv ops.size S t = Em ops st vv ops.size (fun j => decide (j < i)) t := by
      refine Em_congr vv fun j hj hd => ?_
      by_cases hji : j = i
      · subst hji; rw [hi]; simp
      · obtain ⟨a, ha⟩ := getop j hj
        have hda : a.dst = some t := by simpa [dstOf, ha] using hd
        have hh : hits a.dst (slots ops o) = true := by rw [hda]; simpa [hits] using ht
        exact fit.slot j a ha hji (by simp [clash2, hh]) (by simp [clash2, hh])
    rw [h1, Em_stop vv (i := i) (Nat.le_of_lt hlt) (fun j hj1 hj2 _ => by simp; omega)]
    rw [Run.Em_full r hvv i (Nat.le_of_lt hlt) (fun j hj => by simpa using hj)]
  have hev : ∀ x ∈ o.op.operands, evOf P (stS P ops st f vv S) x = evOf P (f i) x := by
    intro x hx
    cases x with
    | tmp t =>
      refine env t ?_
      unfold slots opSlots
      rw [List.mem_append]
      refine .inl (List.mem_filterMap.2 ⟨.tmp t, by simpa using hx, rfl⟩)
    | const v => rfl
    | global g => rfl
    | func g => rfl
  have hgd : gd ops (stS P ops st f vv S) o = gd ops (f i) o := by
    unfold gd
    cases hg : o.guard with
    | none => rfl
    | some q =>
      obtain ⟨j, want⟩ := q
      simp only
      cases hd : (ops[j]?).bind (·.dst) with
      | none => rfl
      | some t =>
        simp only
        have : (stS P ops st f vv S).env t = (f i).env t := env t (by
          unfold slots guardSlots
          rw [List.mem_append]
          refine .inr ?_
          rw [hg]; simp only; rw [hd]; simp)
        rw [this]
  have hsame := r.same i (Nat.le_of_lt hlt)
  have hfit : ∀ d, (f i).fits d → (stS P ops st f vv S).fits d := by
    intro d hd t ht
    have := hd t ht
    rw [hsame.1] at this
    exact this
  -- the heap at a writing operation
  have hmut : isMut P o = true → Hm P ops st f ops.size S = (f i).H := by
    intro hm
    have h1 : Hm P ops st f ops.size S = Hm P ops st f ops.size (fun j => decide (j < i)) := by
      refine Hm_congr fun j hj hd => ?_
      by_cases hji : j = i
      · subst hji; rw [hi]; simp
      · obtain ⟨a, ha⟩ := getop j hj
        have hda : isMut P a = true := by simpa [mutAt, ha] using hd
        exact fit.mut_ hm j a ha hji hda
    rw [h1, Hm_stop (i := i) (Nat.le_of_lt hlt) (fun j hj1 hj2 _ => by simp; omega)]
    exact r.Hm_full i (Nat.le_of_lt hlt) (fun j hj => by simpa using hj)
  -- the state behind it
  have newEnv : ∀ t, Em ops st vv ops.size (fun j => j == i || S j) t = if o.dst = some t then some (vv i) else Em ops st vv ops.size S t := by
    intro t
    by_cases hd : o.dst = some t
    · rw [if_pos hd]
      rw [Em_stop vv (i := i + 1) (by omega) (fun j hj1 hj2 hdj => by
        obtain ⟨a, ha⟩ := getop j hj2
        have hda : a.dst = some t := by simpa [dstOf, ha] using hdj
        have := fit.slot j a ha (by omega) (by simp [clash2, hd, hda]) (by simp [clash2, hd, hda])
        simp [this]; omega)]
      simp [Em, hdi, hd]
    · rw [if_neg hd]
      refine Em_congr vv fun j hj hdj => ?_
      by_cases hji : j = i
      · subst hji; rw [hdi] at hdj; exact absurd hdj hd
      · simp [hji]
  have newH : isMut P o = true → Hm P ops st f ops.size (fun j => j == i || S j) = (f (i + 1)).H := by
    intro hm
    rw [Hm_stop (i := i + 1) (by omega) (fun j hj1 hj2 hdj => by
      obtain ⟨a, ha⟩ := getop j hj2
      have hda : isMut P a = true := by simpa [mutAt, ha] using hdj
      have := fit.mut_ hm j a ha (by omega) hda
      simp [this]; omega)]
    have : mutAt P ops i = true := by simpa [mutAt, ho] using hm
    simp [Hm, this]
  have oldH : isMut P o = false → Hm P ops st f ops.size (fun j => j == i || S j) = Hm P ops st f ops.size S := by
    intro hm
    refine Hm_congr fun j hj hdj => ?_
    by_cases hji : j = i
    · subst hji
      have : mutAt P ops j = false := by simpa [mutAt, ho] using hm
      rw [this] at hdj; cases hdj
    · simp [hji]
  have hnew : ∀ HH, Hm P ops st f ops.size (fun j => j == i || S j) = HH → stS P ops st f vv (fun j => j == i || S j) = ((stS P ops st f vv S).at_ HH).put o.dst (vv i) := by
    intro HH hHH
    cases hd : o.dst with
    | none =>
      simp only [St.put, St.at_, stS, hHH]
      congr 1
      funext t
      rw [newEnv, hd]; simp
    | some t0 =>
      simp only [St.put, St.at_, stS, hHH]
      congr 1
      funext t
      rw [newEnv, hd]
      by_cases ht : t = t0
      · subst ht; simp
      · rw [if_neg (fun q => ht (by cases q; rfl)), if_neg ht]
  -- what the operation comes to here
  obtain ⟨hv1, hv2⟩ := hvv i hlt
  rw [hdi] at hv1 hv2
  have hfact := r.fact i hlt
  generalize hs' : f (i + 1) = s' at hfact hv1
  have hcls := r.clsSome ho
  cases hfact with
  | @skip o' ho' hg hf =>
    rw [ho] at ho'; cases ho'
    have hsk : (f i).put o.dst undef = ((f i).at_ (f i).H).put o.dst undef := rfl
    have hH : ((f i).put o.dst undef).H = (f i).H := (put_facts _ _ _).2.1
    have hval : ∀ t, o.dst = some t → vv i = undef := by
      rw [hH] at hv1
      exact fun t ht => ((put_inj (hsk.symm.trans hv1)).2 t ht).symm
    have hHH : Hm P ops st f ops.size (fun j => j == i || S j) = Hm P ops st f ops.size S := by
      cases hm : isMut P o with
      | false => exact oldH hm
      | true => rw [newH hm, hmut hm, hs', hH]
    rw [hnew _ hHH]
    have : ((stS P ops st f vv S).at_ (Hm P ops st f ops.size S)).put o.dst (vv i) = (stS P ops st f vv S).put o.dst undef := put_congr hval
    rw [this]
    exact .skip ho (by rw [hgd]; exact hg) (hfit _ hf)
  | @val o' v H' ho' hg hd he hf =>
    rw [ho] at ho'; cases ho'
    have hpi := put_inj hv1
    have hH : (((f i).at_ H').put o.dst v).H = H' := (put_facts _ _ _).2.1
    rw [hH] at hpi
    have he2 : opD P (f i).H (evOf P (stS P ops st f vv S)) o = some (.val v H') := by rw [opD_congr hev]; exact he
    obtain ⟨c, hc⟩ := Option.isSome_iff_exists.1 hcls
    have fin : ∀ HH, Hm P ops st f ops.size (fun j => j == i || S j) = HH → opD P (stS P ops st f vv S).H (evOf P (stS P ops st f vv S)) o = some (.val v HH) → OpFact P ops i (stS P ops st f vv S) (stS P ops st f vv (fun j => j == i || S j)) := by
      intro HH hHH hop
      rw [hnew HH hHH, put_congr (v2 := v) (fun t ht => (hpi.2 t ht).symm)]
      exact .val ho (by rw [hgd]; exact hg) hd hop (hfit _ hf)
    cases c with
    | pure =>
      obtain ⟨u, k1, k2⟩ := pure_ok hc he2
      cases k1
      exact fin _ (oldH (by simp [isMut, hc])) (k2 _)
    | read =>
      obtain ⟨u, k1, k2⟩ := read_ok hc he2
      cases k1
      have hnm : isMut P o = false := by simp [isMut, hc]
      by_cases hstr : strOp P o.op = true
      · exact fin _ (oldH hnm) (strOp_ok hstr he2 _)
      have hstr : strOp P o.op = false := by simpa using hstr
      refine fin _ (oldH hnm) (k2 _ fun b hb => ?_)
      by_cases hfl : floating P ops (masks ops.toList []) i = true
      · have hbev : readBlk (evOf P (f i)) o.op = some b := by
          rw [← hb]
          have hr : ∀ {x}, x ∈ o.op.operands → blkOf (evOf P (f i) x) = blkOf (evOf P (stS P ops st f vv S) x) := fun hx => by rw [hev _ hx]
          cases hop : o.op <;> simp only [readBlk] <;> rw [hop] at hr hev
          case load => exact hr (by simp [Op.operands])
          case slice => exact congrArg slBlk (hev _ (by simp [Op.operands])).symm
          case convert => exact hr (by simp [Op.operands])
          case call c =>
            cases hl : c.args.toList with
            | nil => rfl
            | cons x l =>
              refine hr ?_
              have : x ∈ c.args := by
                have : x ∈ c.args.toList := by rw [hl]; simp
                simpa using this
              simp [Op.operands, Call.operands, this]
        obtain ⟨c, T, hcut, hext, hold⟩ := r.ext
        have hT := hold i o ho hfl b hbev
        obtain ⟨j0, hj0⟩ := floating_pair hfl
        have hic := (hcut i j0 hj0).1
        have e1 := hext i (Nat.le_of_lt hic) (Nat.le_of_lt hlt) b hT
        obtain ⟨j, hj, hjm, hHj⟩ := Hm_some (P := P) (ops := ops) (st := st) (f := f) (S := S) ops.size
        show (Hm P ops st f ops.size S).get b = (f i).H.get b
        rw [hHj, e1]
        split
        · rfl
        · rename_i hj0
          refine hext j ?_ hj b hT
          rcases hjm with q | ⟨q1, q2⟩
          · omega
          · obtain ⟨a, ha⟩ := getop (j - 1) (by omega)
            have hda : isMut P a = true := by simpa [mutAt, ha] using q2
            have hne : j - 1 ≠ i := fun q => by rw [q, hi] at q1; cases q1
            rcases Bool.eq_false_or_eq_true (bef (masks ops.toList []) (j - 1) i) with g | g
            · have := fit.rd (j - 1) a ha hne (.inl g)
              rw [q1] at this
              have : j - 1 < i := by simpa using this.symm
              omega
            · rcases Bool.eq_false_or_eq_true (bef (masks ops.toList []) i (j - 1)) with g2 | g2
              · have := fit.rd (j - 1) a ha hne (.inr g2)
                rw [q1] at this
                have : j - 1 < i := by simpa using this.symm
                omega
              · have : floatPair P ops (masks ops.toList []) i (j - 1) = true := by
                  unfold floatPair
                  rw [ho, ha]
                  simp [isRead, hc, hstr, hda, g, g2]
                have := (hcut i (j - 1) this).2
                omega
      · -- in order with every writing operation
        have hH2 : Hm P ops st f ops.size S = (f i).H := by
          have h1 : Hm P ops st f ops.size S = Hm P ops st f ops.size (fun j => decide (j < i)) := by
            refine Hm_congr fun j hj hd => ?_
            by_cases hji : j = i
            · subst hji; rw [hi]; simp
            · obtain ⟨a, ha⟩ := getop j hj
              have hda : isMut P a = true := by simpa [mutAt, ha] using hd
              have hbef : bef (masks ops.toList []) j i = true ∨ bef (masks ops.toList []) i j = true := by
                simp only [floating, ho, isRead, hc, hstr, Bool.and_eq_true] at hfl
                rcases Bool.eq_false_or_eq_true (bef (masks ops.toList []) j i) with q | q
                · exact .inl q
                · rcases Bool.eq_false_or_eq_true (bef (masks ops.toList []) i j) with q2 | q2
                  · exact .inr q2
                  · exfalso
                    refine hfl ⟨by simp, List.any_eq_true.2 ⟨j, List.mem_range.2 hj, ?_⟩⟩
                    rw [ha]; simp [hda, q, q2]
              exact fit.rd j a ha hji hbef
          rw [h1, Hm_stop (i := i) (Nat.le_of_lt hlt) (fun j hj1 hj2 _ => by simp; omega)]
          exact r.Hm_full i (Nat.le_of_lt hlt) (fun j hj => by simpa using hj)
        show (Hm P ops st f ops.size S).get b = (f i).H.get b
        rw [hH2]
    | writes =>
      have hm : isMut P o = true := by simp [isMut, hc]
      refine fin H' (by rw [newH hm, hs', hH]) ?_
      show opD P (Hm P ops st f ops.size S) _ o = _
      rw [hmut hm]; exact he2
  | @call o' g args v H' ho' hg hd he hf k =>
    rw [ho] at ho'; cases ho'
    have hpi := put_inj hv1
    have hH : (((f i).at_ H').put o.dst v).H = H' := (put_facts _ _ _).2.1
    rw [hH] at hpi
    have he2 : opD P (f i).H (evOf P (stS P ops st f vv S)) o = some (.enter g args) := by rw [opD_congr hev]; exact he
    obtain ⟨c, hc⟩ := Option.isSome_iff_exists.1 hcls
    cases c with
    | pure => obtain ⟨u, k1, _⟩ := pure_ok hc he2; cases k1
    | read => obtain ⟨u, k1, _⟩ := read_ok hc he2; cases k1
    | writes =>
      have hm : isMut P o = true := by simp [isMut, hc]
      rw [hnew H' (by rw [newH hm, hs', hH]), put_congr (v2 := v) (fun t ht => (hpi.2 t ht).symm)]
      refine .call ho (by rw [hgd]; exact hg) hd (f := g) (args := args) ?_ (hfit _ hf) ?_
      · show opD P (Hm P ops st f ops.size S) _ o = _
        rw [hmut hm]; exact he2
      · show CFact P g args (Hm P ops st f ops.size S) v H'
        rw [hmut hm]; exact k
end main
end Go.Det

set_option linter.unusedSimpArgs false
set_option linter.unusedVariables false
namespace Go.Det
open Go Go.RowKit
def Cx.keep (X : Cx) (kept : Nat → Option Obj) : Cx := { X with kept := kept }
theorem Rel.garbage {X : Cx} {w : World} {R : Ren} {H : Hp} (h : Rel X R H w) (o : Obj) : Rel (X.keep fun k => if k = w.heap.size then some o else X.kept k) R H (w.alloc o) := by
  have hlt : ∀ b j y, H.get b = some y → R b = some j → j.blk < w.heap.size := by
    intro b j y e r
    obtain ⟨j', r', br⟩ := h.blk b y e
    rw [r] at r'; cases r'
    rcases RI_own_of_BR br with ⟨k, _⟩ | ⟨_, k, _⟩
    · exact h.lt b j r k
    · have := h.size; omega
  refine ⟨?_, h.inj, h.free, ?_, h.below.alloc h.size o, ?_, h.glob, h.gle, ?_⟩
  · intro b y e
    obtain ⟨j, r, br⟩ := h.blk b y e
    exact ⟨j, r, br.keep (Ren.le_refl R) (heap_alloc_lt (hlt b j y e r))⟩
  · intro b j e o'
    have := h.lt b j e o'
    simp; omega
  · have := h.size
    show X.B ≤ _
    simp; omega
  · intro k o' hk
    simp only [Cx.keep] at hk
    by_cases q : k = w.heap.size
    · rw [if_pos q] at hk; cases hk
      subst q
      exact ⟨h.size, heap_alloc_new _ _, fun b i e ho => by have := h.lt b i e ho; omega⟩
    · rw [if_neg q] at hk
      obtain ⟨h1, h2, h3⟩ := h.kept k o' hk
      have hks : k < w.heap.size := by
        rcases Nat.lt_or_ge k w.heap.size with q | q
        · exact q
        · rw [Array.getElem?_eq_none q] at h2; cases h2
      exact ⟨h1, (heap_alloc_lt hks).trans h2, h3⟩
theorem Rel.adopt {X : Cx} {w : World} {R : Ren} {H : Hp} (h : Rel X R H w) {k : Nat} {cs : List Value} {e : TypeId} {cs' : List Value} (hk : X.kept k = some (.cells ⟨cs'⟩ e)) (hf : VRs R cs cs') :
    Rel (X.keep fun k' => if k' = k then none else X.kept k') (R.add H.next ⟨k, 0, 0, cs.length, true⟩) (H.alloc (.cells .fix cs)) w ∧ R.le (R.add H.next ⟨k, 0, 0, cs.length, true⟩) := by
  have hn : R H.next = none := h.free _ (Nat.le_refl _)
  have hle := Ren.le_add (R := R) ⟨k, 0, 0, cs.length, true⟩ hn
  obtain ⟨k1, k2, k3⟩ := h.kept k _ hk
  have hks : k < w.heap.size := by
    rcases Nat.lt_or_ge k w.heap.size with q | q
    · exact q
    · rw [Array.getElem?_eq_none q] at k2; cases k2
  refine ⟨⟨?_, ?_, ?_, ?_, h.below, h.size, ?_, ?_, ?_⟩, hle⟩
  · intro b y eb
    rw [Hp.get_alloc] at eb
    by_cases q : b = H.next
    · subst q; rw [if_pos rfl] at eb; cases eb
      have hlen := hf.length
      refine ⟨_, Ren.add_same _ _ _, .own .fix cs ⟨cs'⟩ e (0, 0) (by decide) rfl k1 k2 (by simp [hlen]) (by simp) (fun _ => by simp) .fix (by intro o _ q; simp at q) ?_⟩
      intro j v hv
      obtain ⟨v', h1, h2⟩ := hf.get j v hv
      exact ⟨v', by simpa using h1, h2.mono hle⟩
    · rw [if_neg q] at eb
      obtain ⟨j, r, br⟩ := h.blk b y eb
      exact ⟨j, hle _ _ r, br.keep hle rfl⟩
  · intro b c j k' y z eb ec rb rc ob oc e'
    rw [Hp.get_alloc] at eb ec
    by_cases kb : b = H.next
    · by_cases kc : c = H.next
      · omega
      · subst kb
        rw [Ren.add_same] at rb; cases rb
        have rc' : R c = some k' := by simpa [Ren.add, kc] using rc
        exact absurd e'.symm (k3 c k' rc' oc)
    · rw [if_neg kb] at eb
      have rb' : R b = some j := by simpa [Ren.add, kb] using rb
      by_cases kc : c = H.next
      · subst kc
        rw [Ren.add_same] at rc; cases rc
        exact absurd e' (k3 b j rb' ob)
      · rw [if_neg kc] at ec
        have rc' : R c = some k' := by simpa [Ren.add, kc] using rc
        exact h.inj b c j k' y z eb ec rb' rc' ob oc e'
  · intro b hb
    rw [Hp.next_alloc] at hb
    have : b ≠ H.next := by omega
    simp only [Ren.add, if_neg this]
    exact h.free b (by omega)
  · intro b j eb ob
    by_cases kb : b = H.next
    · subst kb; rw [Ren.add_same] at eb; cases eb; exact hks
    · exact h.lt b j (by simpa [Ren.add, kb] using eb) ob
  · intro g hg
    obtain ⟨j, eg, q⟩ := h.glob g hg
    exact ⟨j, hle _ _ eg, q⟩
  · rw [Hp.next_alloc]; have := h.gle; exact Nat.le_succ_of_le this
  · intro k' o' hk'
    simp only [Cx.keep] at hk'
    by_cases q : k' = k
    · rw [if_pos q] at hk'; cases hk'
    · rw [if_neg q] at hk'
      obtain ⟨h1, h2, h3⟩ := h.kept k' o' hk'
      refine ⟨h1, h2, fun b i eb ob => ?_⟩
      by_cases kb : b = H.next
      · subst kb; rw [Ren.add_same] at eb; cases eb; exact fun z => q z.symm
      · exact h3 b i (by simpa [Ren.add, kb] using eb) ob
theorem newRow_run {P : Program} (e : TypeId) (cs : List Value) (w : World) : (newRow e ⟨cs⟩).run P w = .ok ⟨w.heap.size, 0, none⟩ (w.alloc (.cells ⟨cs⟩ e)) := by simp [newRow]
theorem buildSliceD_run {P : Program} {R : Ren} {H : Hp} {parts parts' : List (Nat × Value)} {t : TypeId} {len : Nat} {v : Value} {H' : Hp} (hp : PartsR R parts parts') (e : buildSliceD P H t len parts = some (v, H')) :
    ∃ cs cs' elem, v = .slice (some ⟨H.next, 0, none⟩) len len ∧ H' = H.alloc (.cells .fix cs) ∧ (∀ H2, buildSliceD P H2 t len parts = some (.slice (some ⟨H2.next, 0, none⟩) len len, H2.alloc (.cells .fix cs))) ∧ len < LOOSE ∧ VRs R cs cs' ∧
      ∀ w, (Instr.buildSlice t len parts'.toArray).run P w = .ok (.slice (some ⟨w.heap.size, 0, none⟩) len len) (w.alloc (.cells ⟨cs'⟩ elem)) := by
  unfold buildSliceD at e
  split at e
  case h_2 => cases e
  case h_1 elem hu =>
    split at e
    case h_2 => cases e
    case h_1 n z hs hz =>
      split at e
      case isFalse => cases e
      case isTrue hc =>
        have hc' := hc
        obtain ⟨hfl, hzs, hn, hbig⟩ := hc
        split at e
        case h_2 => cases e
        case h_1 cs hf =>
          cases e
          obtain ⟨out', h1, h2, h3⟩ := fillD_ok (R := R) (place' := fun i => some (i * n, n)) (fun _ _ k => k) hp (reps_flat (flat_cells hfl) len) hf
          refine ⟨cs, out', elem, rfl, rfl, fun H2 => ?_, by have : len ≤ len * n := Nat.le_mul_of_pos_right _ hn; unfold LOOSE; omega, h2, fun w => ?_⟩
          · unfold buildSliceD
            simp only [hu, hs, hz, if_pos hc', hf]
          have hcells : ((Array.range (len * n)).map fun i => (if len * n = 0 then #[] else z.cells)[i % (if len * n = 0 then #[] else z.cells).size]!) = ⟨repsD z.cells.toList len⟩ := by
            by_cases hl : len * n = 0
            · have : len = 0 := by rcases Nat.mul_eq_zero.1 hl with k | k <;> omega
              subst this
              simp [repsD]
            · simp only [hl, if_false]
              rw [← reps_eq z.cells (by omega) len, hzs]
          have hr := newRow_run (P := P) elem out' w
          simp only [Instr.buildSlice, Sem.run_bind, run_underlying hu, Result.andThen_ok, sizeD_run hs]
          rw [if_neg (by omega)]
          by_cases hl : len * n = 0
          · simp only [hl, if_true, Sem.run_bind, Sem.run_pure, Result.andThen_ok] at hcells ⊢
            rw [hcells]
            simp only [h1, Sem.run_bind, Sem.run_pure, Result.andThen_ok]
            simp [hr]
          · simp only [hl, if_false, Sem.run_bind, Sem.run_pure, Result.andThen_ok, zeroD_run hz] at hcells ⊢
            rw [hcells]
            simp only [h1, Sem.run_bind, Sem.run_pure, Result.andThen_ok]
            simp [hr]
theorem alloc_run {P : Program} {o : Oper} {t : TypeId} {z : Value} (ho : o.op = .alloc t) (hz : zeroD P t = some z) (ρ : Operand → Value) (w : World) :
    (execOp ρ o).run P w = .ok (.value (.pointer (some ⟨w.heap.size, 0, none⟩))) (w.alloc (.cells ⟨z.cells.toList⟩ t)) := by
  have e : execOp ρ o = Next.value <$> Instr.alloc t true (.tuple #[]) := by unfold execOp; simp only [ho]; rfl
  rw [e]
  simp [Sem.run_map, Instr.alloc, Sem.run_bind, zeroD_run hz, Result.andThen_ok, newVar, newRow, Sem.run_pure]
theorem freeA_facts {P : Program} {ops : Array Oper} {o : Oper} (h : freeA P ops o = true) : newOp P o.op = true ∧ o.guard = none ∧ (∃ t, o.dst = some t) ∧ ∀ p ∈ preds o, cleanF P ops 8 p = true := by
  unfold freeA at h
  split at h
  · rename_i t h1 h2 h3
    exact ⟨h1, h2, ⟨t, h3⟩, fun p hp => List.all_eq_true.1 h p hp⟩
  · cases h
theorem freeMut {P : Program} {ops : Array Oper} {o : Oper} (h : freeA P ops o = true) : isMut P o = true := by
  have h1 := (freeA_facts h).1
  unfold isMut
  cases ho : o.op <;> rw [ho] at h1 <;> first | (cases h1; done) | rfl
theorem clean_nonmut {P : Program} {ops : Array Oper} {n j : Nat} {a : Oper} (h : cleanF P ops n j = true) (ha : ops[j]? = some a) : isMut P a = false := by
  cases n with
  | zero => cases h
  | succ n =>
    rw [cleanF, ha] at h
    simp only [Bool.and_eq_true, Bool.not_eq_true'] at h
    exact h.1
theorem cleanBef {P : Program} {ops : Array Oper} {j i : Nat} (h : Bef ops j i) : (∃ n, cleanF P ops n i = true) → ∃ n, cleanF P ops n j = true := by
  induction h with
  | edge ho hp =>
    rintro ⟨n, hn⟩
    cases n with
    | zero => cases hn
    | succ n =>
      rw [cleanF, ho] at hn
      simp only [Bool.and_eq_true] at hn
      exact ⟨n, List.all_eq_true.1 hn.2 _ hp⟩
  | trans _ _ ih1 ih2 => exact fun q => ih1 (ih2 q)
theorem befClean {P : Program} {ops : Array Oper} {j i : Nat} (h : Bef ops j i) : ∀ {o : Oper}, ops[i]? = some o → freeA P ops o = true → ∃ n, cleanF P ops n j = true := by
  induction h with
  | edge hj hm =>
    intro o ho hf
    rw [ho] at hj; cases hj
    exact ⟨8, (freeA_facts hf).2.2.2 _ hm⟩
  | trans h _ _ ih => exact fun ho hf => cleanBef h (ih ho hf)
theorem noMut {P : Program} {ops : Array Oper} {j i : Nat} (h : Bef ops j i) {o a : Oper} (ho : ops[i]? = some o) (hf : freeA P ops o = true) (ha : ops[j]? = some a) (hm : isMut P a = true) : False := by
  obtain ⟨n, hn⟩ := befClean h ho hf
  rw [clean_nonmut hn ha] at hm; cases hm
def NewV (mk : Nat → Value) (n : Nat) : Prop := ∀ (R : Ren) (b k : Nat), R b = some ⟨k, 0, 0, n, true⟩ → VR R (mk b) (mk k)
theorem freeD {P : Program} {ops : Array Oper} {o : Oper} (hf : freeA P ops o = true) {ev : Ev} {H : Hp} {v : Value} {H' : Hp} (he : opD P H ev o = some (.val v H')) {R : Ren} {ρ : Operand → Value} (hev : EvR R ev ρ) :
    ∃ cs cs' mk ty, (∀ H2, opD P H2 ev o = some (.val (mk H2.next) (H2.alloc (.cells .fix cs)))) ∧ NewV mk cs.length ∧ VRs R cs cs' ∧ ∀ w, (execOp ρ o).run P w = .ok (.value (mk w.heap.size)) (w.alloc (.cells ⟨cs'⟩ ty)) := by
  obtain ⟨hn, -⟩ := freeA_facts hf
  cases ho : o.op with
  | alloc ty =>
    unfold opD at he
    rw [ho] at he
    simp only at he
    split at he
    · rename_i z hz
      split at he
      · rename_i hfl
        refine ⟨z.cells.toList, z.cells.toList, fun b => .pointer (some ⟨b, 0, none⟩), ty, fun H2 => ?_, fun R b k h => .ptr ⟨rfl, rfl, _, h, rfl, rfl⟩, flats_refl (flat_cells hfl), fun w => alloc_run ho hz ρ w⟩
        unfold opD
        rw [ho]
        have hbm : bM P ty = .fix := by
          rw [ho] at hn
          simp only [newOp, Bool.not_eq_true'] at hn
          unfold bM; rw [hn]
        simp only [hz, hfl, if_true, newM, hbm]
      · cases he
    · cases he
  | buildSlice t len parts =>
    unfold opD at he
    rw [ho] at he
    simp only at he
    split at he
    · rename_i l hl
      cases hb : buildSliceD P H t len l with
      | none => rw [hb] at he; cases he
      | some q =>
        obtain ⟨v', H2'⟩ := q
        obtain ⟨cs, cs', elem, rfl, rfl, h2, hlt, hv, hr⟩ := buildSliceD_run (partsD_ok hev hl) hb
        refine ⟨cs, cs', fun b => .slice (some ⟨b, 0, none⟩) len len, elem, fun H2 => ?_, fun R b k h => .slice len len len ⟨rfl, rfl, _, h, rfl, rfl⟩ (.inl ⟨hlt, rfl, Nat.le_refl _⟩), hv, fun w => ?_⟩
        · unfold opD
          rw [ho]
          simp only [hl, h2]
        · have e : execOp ρ o = Next.value <$> Instr.buildSlice t len (parts.map fun (i, x) => (i, ρ x)) := by unfold execOp; simp only [ho]; rfl
          rw [e, Sem.run_map]
          have := hr w
          rw [show (parts.map fun (i, x) => (i, ρ x)) = ((parts.toList.map fun x => (x.1, ρ x.2)).toArray) by apply Array.ext'; simp]
          rw [this]
          rfl
    · cases he
  | _ => rw [ho] at hn; cases hn
section main
variable {P : Program} {ops : Array Oper} {st : St} {f : Nat → St}
theorem Run.back (r : Run P ops st f) : backward ops = true := by
  have := r.ok; simp only [okDraw, Bool.and_eq_true] at this; exact this.1.1
theorem Run.befFree (r : Run P ops st f) {q d : Nat} (h : Bef ops q d) : ∀ {o : Oper}, ops[q]? = some o → freeA P ops o = true → ∀ {y : Nat} {a : Oper}, y < q → ops[y]? = some a → isMut P a = true → Bef ops y d := by
  induction h with
  | @edge q d od hd hm =>
    intro o ho hf y a hy ha hmut
    have h1 := r.ok
    simp only [okDraw, Bool.and_eq_true] at h1
    have hlt : d < ops.size := (Array.getElem?_eq_some_iff.1 hd).1
    have h2 := List.all_eq_true.1 h1.2 d (List.mem_range.2 hlt)
    rw [hd] at h2
    have h3 := List.all_eq_true.1 h2 q hm
    rw [ho] at h3
    simp only [hf, Bool.not_true, Bool.false_or] at h3
    have h4 := List.all_eq_true.1 h3 y (List.mem_range.2 hy)
    rw [ha] at h4
    simp only [hmut, Bool.not_true, Bool.false_or] at h4
    exact bef_ok h4
  | trans _ g ih1 _ =>
    intro o ho hf y a hy ha hmut
    exact .trans (ih1 ho hf hy ha hmut) g
def inE (E : List (Nat × Nat)) (j : Nat) : Bool := E.any fun x => x.1 == j
def Dn (S : Nat → Bool) (E : List (Nat × Nat)) (j : Nat) : Bool := S j || inE E j
def slotE (ops : Array Oper) (E : List (Nat × Nat)) (t : Nat) : Bool := E.any fun x => dstOf ops x.1 == some t
def forget (ops : Array Oper) (E : List (Nat × Nat)) (s : St) : St := { s with env := fun t => if slotE ops E t then none else s.env t }
theorem inE_mem {E : List (Nat × Nat)} {x : Nat × Nat} (h : x ∈ E) : inE E x.1 = true := List.any_eq_true.2 ⟨x, h, by simp⟩
theorem inE_some {E : List (Nat × Nat)} {q : Nat} (h : inE E q = true) : ∃ x ∈ E, x.1 = q := by
  obtain ⟨x, h1, h2⟩ := List.any_eq_true.1 h
  exact ⟨x, h1, by simpa using h2⟩
structure Sets (P : Program) (ops : Array Oper) (S : Nat → Bool) (E : List (Nat × Nat)) : Prop where
  down : Down ops (Dn S E)
  out : ∀ q, inE E q = true → S q = false
  free : ∀ q, inE E q = true → ∃ o, ops[q]? = some o ∧ freeA P ops o = true
  before : ∀ q j, inE E q = true → Bef ops q j → Dn S E j = false
  pre : ∀ j a, S j = true → ops[j]? = some a → isMut P a = true → ∀ y b, y < j → ops[y]? = some b → isMut P b = true → S y = true
  uniq : (E.map (·.1)).Nodup
def Settled (P : Program) (ops : Array Oper) (S : Nat → Bool) (E : List (Nat × Nat)) : Prop :=
  E = [] ∨ ∃ y b, ops[y]? = some b ∧ isMut P b = true ∧ Dn S E y = false ∧ ∀ q, inE E q = true → y < q
structure Mid (P : Program) (ops : Array Oper) (st : St) (f : Nat → St) (vv : Nat → Value) (X : Cx) (S : Nat → Bool) (E : List (Nat × Nat)) (R : Ren) (a : Act) (w : World) : Prop where
  rel : ∃ kept, Rel (X.keep kept) R (stS P ops st f vv S).H w ∧
    (∀ x ∈ E, ∃ o t cs cs' mk ty, ops[x.1]? = some o ∧ o.dst = some t ∧ (∀ H2, opD P H2 (evOf P (f x.1)) o = some (.val (mk H2.next) (H2.alloc (.cells .fix cs)))) ∧ NewV mk cs.length ∧ VRs R cs cs' ∧ kept x.2 = some (.cells ⟨cs'⟩ ty) ∧ X.kept x.2 = none ∧ a.tmps.getD t undef = mk x.2) ∧
    (∀ k, (∀ x ∈ E, x.2 ≠ k) → kept k = X.kept k)
  str : StR R (forget ops E (stS P ops st f vv S)) a
  ks : (E.map (·.2)).Nodup
theorem newFact {i : Nat} {s s' : St} {o : Oper} {t : Tmp} (h : OpFact P ops i s s') (ho : ops[i]? = some o) (hf : freeA P ops o = true) (hd : o.dst = some t) :
    notDefer o.op = true ∧ t < s.n ∧ ∃ v H', opD P s.H (evOf P s) o = some (.val v H') ∧ s' = (s.at_ H').put (some t) v := by
  obtain ⟨hn, hg, -⟩ := freeA_facts hf
  cases h with
  | @skip o' ho' hg' hf =>
    rw [ho] at ho'; cases ho'
    unfold gd at hg'; rw [hg] at hg'; cases hg'
  | @val o' v H' ho' hg' hnd he hf =>
    rw [ho] at ho'; cases ho'
    exact ⟨hnd, hf t hd, v, H', he, by rw [hd]⟩
  | @call o' g args v H' ho' hg' hnd he hf k =>
    rw [ho] at ho'; cases ho'
    exfalso
    unfold opD at he
    cases hop : o.op with
    | alloc ty =>
      rw [hop] at he
      simp only at he
      split at he
      · split at he <;> cases he
      · cases he
    | buildSlice ty len parts =>
      rw [hop] at he
      simp only at he
      split at he
      · split at he <;> cases he
      · cases he
    | _ => rw [hop] at hn; cases hn
theorem forget_put {E : List (Nat × Nat)} {s : St} {H : Hp} {d : Option Tmp} {v : Value} (h : ∀ t, d = some t → slotE ops E t = false) : forget ops E ((s.at_ H).put d v) = ((forget ops E s).at_ H).put d v := by
  cases d with
  | none => rfl
  | some t =>
    simp only [forget, St.put, St.at_]
    congr 1
    funext u
    by_cases hu : u = t
    · subst hu; simp [h u rfl]
    · simp [hu]
theorem forget_fact {i : Nat} {s s' : St} {E : List (Nat × Nat)} {o : Oper} (h : OpFact P ops i s s') (ho : ops[i]? = some o) (hs : ∀ t ∈ slots ops o, slotE ops E t = false) (hd : ∀ t, o.dst = some t → slotE ops E t = false) :
    OpFact P ops i (forget ops E s) (forget ops E s') := by
  have hev : ∀ x ∈ o.op.operands, evOf P (forget ops E s) x = evOf P s x := by
    intro x hx
    cases x with
    | tmp t =>
      have : slotE ops E t = false := hs t (by
        unfold slots opSlots
        rw [List.mem_append]
        exact .inl (List.mem_filterMap.2 ⟨.tmp t, by simpa using hx, rfl⟩))
      simp [evOf, forget, this]
    | const v => rfl
    | global g => rfl
    | func g => rfl
  have hgd : gd ops (forget ops E s) o = gd ops s o := by
    unfold gd
    cases hg : o.guard with
    | none => rfl
    | some q =>
      obtain ⟨j, want⟩ := q
      simp only
      cases hd : (ops[j]?).bind (·.dst) with
      | none => rfl
      | some t =>
        have : slotE ops E t = false := hs t (by
          unfold slots guardSlots
          rw [List.mem_append]
          refine .inr ?_
          rw [hg]; simp only; rw [hd]; simp)
        simp [forget, this]
  cases h with
  | @skip o' ho' hg hf =>
    rw [ho] at ho'; cases ho'
    have : forget ops E (s.put o.dst undef) = (forget ops E s).put o.dst undef := forget_put (s := s) (H := s.H) hd
    rw [this]
    exact .skip ho (by rw [hgd]; exact hg) hf
  | @val o' v H' ho' hg hnd he hf =>
    rw [ho] at ho'; cases ho'
    rw [forget_put hd]
    exact .val ho (by rw [hgd]; exact hg) hnd (by rw [show (forget ops E s).H = s.H from rfl, opD_congr hev]; exact he) hf
  | @call o' g args v H' ho' hg hnd he hf k =>
    rw [ho] at ho'; cases ho'
    rw [forget_put hd]
    exact .call ho (by rw [hgd]; exact hg) hnd (by rw [show (forget ops E s).H = s.H from rfl, opD_congr hev]; exact he) hf k
theorem Run.fitFree (r : Run P ops st f) {S : Nat → Bool} {E : List (Nat × Nat)} (hS : Sets P ops S E) {q : Nat} {o : Oper} (hq : inE E q = true) (ho : ops[q]? = some o) (hf : freeA P ops o = true)
    (hall : ∀ y b, y < q → ops[y]? = some b → isMut P b = true → S y = true) : Fit P ops S q o := by
  have hbef : ∀ j, Bef ops q j → S j = decide (j < q) := by
    intro j hb
    have h1 := hS.before q j hq hb
    simp only [Dn, Bool.or_eq_false_iff] at h1
    have := Bef.lt r.back hb
    rw [h1.1]; simp; omega
  have hfor : ∀ j a, ops[j]? = some a → Bef ops j q → S j = true := by
    intro j a ha hb
    have h1 := hS.down j q hb (by simp [Dn, hq])
    simp only [Dn, Bool.or_eq_true] at h1
    rcases h1 with h1 | h1
    · exact h1
    · obtain ⟨a', ha', hf'⟩ := hS.free j h1
      rw [ha] at ha'; cases ha'
      exact (noMut hb ho hf ha (freeMut hf')).elim
  refine ⟨hS.out q hq, ?_, ?_, ?_⟩
  · intro j a ha hne h1 h2
    rcases Nat.lt_or_gt_of_ne hne with k | k
    · rw [hfor j a ha (r.order k ha ho (by simp [clash, h1]))]; simp [k]
    · exact hbef j (r.order k ho ha (by simp [clash, h2]))
  · intro _ j a ha hne hm
    rcases Nat.lt_or_gt_of_ne hne with k | k
    · rw [hall j a k ha hm]; simp [k]
    · cases hj : S j with
      | false => simp; omega
      | true =>
        have := hS.pre j a hj ha hm q o k ho (freeMut hf)
        rw [hS.out q hq] at this; cases this
  · intro j a ha hne hb
    rcases hb with hb | hb
    · have hb := bef_ok hb
      have := Bef.lt r.back hb
      rw [hfor j a ha hb]; simp [this]
    · exact hbef j (bef_ok hb)
theorem getD_put {a : Act} {d : Option Tmp} {v : Value} {t : Nat} (h : d ≠ some t) : (a.put d v).tmps.getD t undef = a.tmps.getD t undef := by
  cases d with
  | none => rfl
  | some u =>
    simp only [Act.put]
    rw [Array.getD_eq_getD_getElem?, Array.getD_eq_getD_getElem?, Array.getElem?_setIfInBounds, if_neg (fun q => h (by rw [q]))]
theorem getD_put_same {a : Act} {v : Value} {t : Nat} (h : t < a.tmps.size) : (a.put (some t) v).tmps.getD t undef = v := by
  simp only [Act.put]
  rw [Array.getD_eq_getD_getElem?, Array.getElem?_setIfInBounds]
  simp [h]
theorem inE_filter {E : List (Nat × Nat)} {q j : Nat} : inE (E.filter fun x => x.1 != q) j = (inE E j && j != q) := by
  rw [Bool.eq_iff_iff]
  simp only [inE, List.any_eq_true, List.mem_filter, Bool.and_eq_true, bne_iff_ne, beq_iff_eq]
  constructor
  · rintro ⟨x, ⟨h1, h2⟩, h3⟩
    exact ⟨⟨x, h1, h3⟩, by rw [← h3]; exact h2⟩
  · rintro ⟨⟨x, h1, h3⟩, h2⟩
    exact ⟨x, ⟨h1, by rw [h3]; exact h2⟩, h3⟩
theorem nodup_inj {f : Nat × Nat → Nat} : ∀ {l : List (Nat × Nat)}, (l.map f).Nodup → ∀ {x y : Nat × Nat}, x ∈ l → y ∈ l → f x = f y → x = y
  | z :: l, h, x, y, hx, hy, e => by
    simp only [List.map_cons, List.nodup_cons, List.mem_map, not_exists, not_and] at h
    rcases List.mem_cons.1 hx with hx' | hx'
    · rcases List.mem_cons.1 hy with hy' | hy'
      · rw [hx', hy']
      · exact (h.1 y hy' (by rw [← e, hx'])).elim
    · rcases List.mem_cons.1 hy with hy' | hy'
      · exact (h.1 x hx' (by rw [e, hy'])).elim
      · exact nodup_inj h.2 hx' hy' e
theorem Run.absorb (r : Run P ops st f) {vv : Nat → Value} (hvv : ∀ j, j < ops.size → f (j + 1) = ((f j).at_ (f (j + 1)).H).put (dstOf ops j) (vv j) ∧ (f j).fits (dstOf ops j))
    {X : Cx} {S : Nat → Bool} {E : List (Nat × Nat)} {R : Ren} {a : Act} {w : World} (hS : Sets P ops S E) (hM : Mid P ops st f vv X S E R a w) {x : Nat × Nat} (hx : x ∈ E)
    (hall : ∀ y b, y < x.1 → ops[y]? = some b → isMut P b = true → S y = true) :
    ∃ R', R.le R' ∧ Mid P ops st f vv X (fun j => j == x.1 || S j) (E.filter fun y => y.1 != x.1) R' a w ∧ Sets P ops (fun j => j == x.1 || S j) (E.filter fun y => y.1 != x.1) ∧
      ∀ j, Dn (fun j => j == x.1 || S j) (E.filter fun y => y.1 != x.1) j = Dn S E j := by
  have hq := inE_mem hx
  obtain ⟨o, ho, hf⟩ := hS.free _ hq
  have fit := r.fitFree hS hq ho hf hall
  have hfact := r.one hvv ho fit
  obtain ⟨kept, hrel, hE, hk⟩ := hM.rel
  obtain ⟨o', t, cs, cs', mk, ty, ho', hdst, hop, hmk, hvr, hkx, hXk, hslot⟩ := hE x hx
  rw [ho] at ho'; cases ho'
  obtain ⟨-, htn, v, H', he, heq⟩ := newFact hfact ho hf hdst
  have hev := r.evAt hvv ho fit.none fit.slot
  rw [opD_congr hev, hop] at he
  cases he
  have hxeq : ∀ y ∈ E, y.1 = x.1 → y = x := by
    intro y hy e
    have := hS.uniq
    exact nodup_inj (f := fun z => z.1) this hy hx e
  have hxk : ∀ y ∈ E, y.2 = x.2 → y = x := fun y hy e => nodup_inj (f := fun z => z.2) hM.ks hy hx e
  have hdn : ∀ j, Dn (fun j => j == x.1 || S j) (E.filter fun y => y.1 != x.1) j = Dn S E j := by
    intro j
    show ((j == x.1 || S j) || inE (E.filter fun y => y.1 != x.1) j) = (S j || inE E j)
    rw [inE_filter]
    by_cases hj : j = x.1
    · subst hj; rw [hq]; simp
    · have h1 : (j == x.1) = false := by simpa using hj
      have h2 : (j != x.1) = true := by simpa using hj
      rw [h1, h2, Bool.false_or, Bool.and_true]
  obtain ⟨hrel2, hle⟩ := hrel.adopt hkx hvr
  refine ⟨_, hle, ⟨⟨fun k' => if k' = x.2 then none else kept k', ?_, ?_, ?_⟩, ?_, ?_⟩, ⟨?_, ?_, ?_, ?_, ?_, ?_⟩, hdn⟩
  · rw [heq]
    exact hrel2
  · intro y hy
    obtain ⟨hy1, hy2⟩ := List.mem_filter.1 hy
    obtain ⟨oy, ty1, csy, csy', mky, tyy, b1, b2, b3, b4, b5, b6, b7, b8⟩ := hE y hy1
    refine ⟨oy, ty1, csy, csy', mky, tyy, b1, b2, b3, b4, b5.mono hle, ?_, b7, b8⟩
    show (if y.2 = x.2 then none else kept y.2) = _
    rw [if_neg]
    · exact b6
    · intro e
      have := hxk y hy1 e
      subst this; simp at hy2
  · intro k hkE
    by_cases e : k = x.2
    · subst e; simp [hXk]
    · simp only [if_neg e]
      refine hk k fun y hy => ?_
      by_cases h1 : y.1 = x.1
      · rw [hxeq y hy h1]; exact fun q => e q.symm
      · exact hkE y (List.mem_filter.2 ⟨hy, by simpa using h1⟩)
  · have hold := hM.str
    have hH : (stS P ops st f vv S).n = st.n := rfl
    refine ⟨?_, ?_, ?_⟩
    · exact hold.size
    · intro u v e
      rw [heq] at e
      simp only [forget] at e
      split at e
      · cases e
      · rename_i hns
        simp only [St.put, St.at_] at e
        by_cases hu : u = t
        · subst hu
          simp only [if_true] at e
          cases e
          refine ⟨htn, ?_⟩
          rw [hslot]
          exact hmk _ _ _ (Ren.add_same _ _ _)
        · rw [if_neg hu] at e
          have h1 : slotE ops E u = false := by
            cases hq : slotE ops E u with
            | false => rfl
            | true =>
              exfalso
              apply hns
              obtain ⟨y, hy, hyd⟩ := List.any_eq_true.1 hq
              refine List.any_eq_true.2 ⟨y, List.mem_filter.2 ⟨hy, ?_⟩, hyd⟩
              simp only [bne_iff_ne]
              intro e1
              rw [e1] at hyd
              simp only [dstOf, ho, Option.bind_some, hdst, beq_iff_eq, Option.some.injEq] at hyd
              exact hu hyd.symm
          have := hold.env u v (by simp only [forget, h1]; exact e)
          exact ⟨this.1, this.2.mono hle⟩
    · exact (hold.mono hle).defs
  · refine List.Nodup.sublist ?_ hM.ks
    exact List.Sublist.map _ List.filter_sublist
  · intro i j hb hj
    rw [hdn] at hj ⊢
    exact hS.down i j hb hj
  · intro q hq'
    rw [inE_filter] at hq'
    simp only [Bool.and_eq_true, bne_iff_ne] at hq'
    simp [hq'.2, hS.out q hq'.1]
  · intro q hq'
    rw [inE_filter] at hq'
    simp only [Bool.and_eq_true] at hq'
    exact hS.free q hq'.1
  · intro q j hq' hb
    rw [inE_filter] at hq'
    simp only [Bool.and_eq_true] at hq'
    rw [hdn]
    exact hS.before q j hq'.1 hb
  · intro j a' hj ha' hm y b hy hb hbm
    simp only [Bool.or_eq_true, beq_iff_eq] at hj ⊢
    rcases hj with hj | hj
    · subst hj
      exact .inr (hall y b hy hb hbm)
    · exact .inr (hS.pre j a' hj ha' hm y b hy hb hbm)
  · exact List.Nodup.sublist (List.Sublist.map _ List.filter_sublist) hS.uniq
theorem exists_least : ∀ (E : List (Nat × Nat)), E ≠ [] → ∃ x ∈ E, ∀ y ∈ E, x.1 ≤ y.1
  | [], h => (h rfl).elim
  | [x], _ => ⟨x, by simp, fun y hy => by simp at hy; subst hy; exact Nat.le_refl _⟩
  | x :: z :: E, _ => by
    obtain ⟨m, h1, h2⟩ := exists_least (z :: E) (by simp)
    by_cases h : x.1 ≤ m.1
    · refine ⟨x, by simp, fun y hy => ?_⟩
      rcases List.mem_cons.1 hy with rfl | hy
      · exact Nat.le_refl _
      · exact Nat.le_trans h (h2 y hy)
    · refine ⟨m, List.mem_cons_of_mem _ h1, fun y hy => ?_⟩
      rcases List.mem_cons.1 hy with rfl | hy
      · omega
      · exact h2 y hy
theorem Run.settle (r : Run P ops st f) {vv : Nat → Value} (hvv : ∀ j, j < ops.size → f (j + 1) = ((f j).at_ (f (j + 1)).H).put (dstOf ops j) (vv j) ∧ (f j).fits (dstOf ops j)) {X : Cx} {a : Act} {w : World} :
    ∀ (n : Nat) {S : Nat → Bool} {E : List (Nat × Nat)} {R : Ren}, E.length = n → Sets P ops S E → Mid P ops st f vv X S E R a w →
      ∃ R' S' E', R.le R' ∧ Mid P ops st f vv X S' E' R' a w ∧ Sets P ops S' E' ∧ Settled P ops S' E' ∧ ∀ j, Dn S' E' j = Dn S E j := by
  intro n
  induction n using Nat.strongRecOn with
  | _ n ih =>
    intro S E R hn hS hM
    by_cases hE : E = []
    · exact ⟨R, S, E, Ren.le_refl R, hM, hS, .inl hE, fun _ => rfl⟩
    · obtain ⟨x, hx, hleast⟩ := exists_least E hE
      by_cases hy : ∃ y b, y < x.1 ∧ ops[y]? = some b ∧ isMut P b = true ∧ S y = false
      · obtain ⟨y, b, h1, h2, h3, h4⟩ := hy
        refine ⟨R, S, E, Ren.le_refl R, hM, hS, .inr ⟨y, b, h2, h3, ?_, fun q hq => ?_⟩, fun _ => rfl⟩
        · simp only [Dn, h4, Bool.false_or]
          cases hin : inE E y with
          | false => rfl
          | true =>
            obtain ⟨z, hz, e⟩ := inE_some hin
            have := hleast z hz
            omega
        · obtain ⟨z, hz, e⟩ := inE_some hq
          have := hleast z hz
          omega
      · have hall : ∀ y b, y < x.1 → ops[y]? = some b → isMut P b = true → S y = true := by
          intro y b h1 h2 h3
          cases h4 : S y with
          | true => rfl
          | false => exact (hy ⟨y, b, h1, h2, h3, h4⟩).elim
        obtain ⟨R1, l1, m1, s1, d1⟩ := r.absorb hvv hS hM hx hall
        have hlt : (E.filter fun y => y.1 != x.1).length < n := by
          rw [← hn]
          exact List.length_filter_lt_length_iff_exists.2 ⟨x, hx, by simp⟩
        obtain ⟨R2, S2, E2, l2, m2, s2, t2, d2⟩ := ih _ hlt rfl s1 m1
        exact ⟨R2, S2, E2, Ren.le_trans l1 l2, m2, s2, t2, fun j => (d2 j).trans (d1 j)⟩
theorem Run.B (r : Run P ops st f) {S : Nat → Bool} {E : List (Nat × Nat)} (hS : Sets P ops S E) (hE : Settled P ops S E) {i : Nat} {o : Oper} (ho : ops[i]? = some o) (hp : ∀ p ∈ preds o, Dn S E p = true) {j : Nat} (hb : Bef ops j i) : S j = true := by
  have hd := hS.down.add ho hp
  have hji := Bef.lt r.back hb
  have h1 := hd j i hb (by simp)
  have h2 : (j == i) = false := by simp; omega
  simp only [h2, Bool.false_or] at h1
  cases hj : S j with
  | true => rfl
  | false =>
    exfalso
    simp only [Dn, hj, Bool.false_or] at h1
    rcases hE with hE | ⟨y, b, g1, g2, g3, g4⟩
    · subst hE; simp [inE] at h1
    · obtain ⟨oj, hoj, hf⟩ := hS.free j h1
      have hy := g4 j h1
      have := hd y i (r.befFree hb hoj hf hy g1 g2) (by simp)
      have h3 : (y == i) = false := by simp; omega
      simp only [h3, Bool.false_or] at this
      rw [g3] at this; cases this
theorem Run.fitStep (r : Run P ops st f) {S : Nat → Bool} {E : List (Nat × Nat)} (hS : Sets P ops S E) (hE : Settled P ops S E) {i : Nat} {o : Oper} (hi : Dn S E i = false) (ho : ops[i]? = some o) (hp : ∀ p ∈ preds o, Dn S E p = true)
    (hn : ¬ (freeA P ops o = true ∧ ∃ y b, y < i ∧ ops[y]? = some b ∧ isMut P b = true ∧ S y = false)) :
    Fit P ops S i o ∧ (isMut P o = true → ∀ y b, y < i → ops[y]? = some b → isMut P b = true → S y = true) := by
  have hi2 := hi
  simp only [Dn, Bool.or_eq_false_iff] at hi2
  have B : ∀ {j}, Bef ops j i → S j = true := fun hb => r.B hS hE ho hp hb
  have A : ∀ {j}, Bef ops i j → S j = false := by
    intro j hb
    cases hj : S j with
    | false => rfl
    | true =>
      have := hS.down i j hb (by simp [Dn, hj])
      rw [hi] at this; cases this
  have low : isMut P o = true → ∀ y b, y < i → ops[y]? = some b → isMut P b = true → S y = true := by
    intro hm y b hy hb hbm
    by_cases hf : freeA P ops o = true
    · cases h4 : S y with
      | true => rfl
      | false => exact (hn ⟨hf, y, b, hy, hb, hbm, h4⟩).elim
    · have hf : freeA P ops o = false := by simpa using hf
      exact B (r.order hy hb ho (by simp [clash, hm, hbm, hf]))
  refine ⟨⟨hi2.1, ?_, ?_, ?_⟩, low⟩
  · intro j a ha hne h1 h2
    rcases Nat.lt_or_gt_of_ne hne with k | k
    · rw [B (r.order k ha ho (by simp [clash, h1]))]; simp [k]
    · rw [A (r.order k ho ha (by simp [clash, h2]))]; simp; omega
  · intro hm j a ha hne hma
    rcases Nat.lt_or_gt_of_ne hne with k | k
    · rw [low hm j a k ha hma]; simp [k]
    · cases hj : S j with
      | false => simp; omega
      | true =>
        have := hS.pre j a hj ha hma i o k ho hm
        rw [hi2.1] at this; cases this
  · intro j a ha hne hb
    rcases hb with hb | hb
    · have hb := bef_ok hb
      have := Bef.lt r.back hb
      rw [B hb]; simp [this]
    · have hb := bef_ok hb
      have := Bef.lt r.back hb
      rw [A hb]; simp; omega
theorem Run.apart (r : Run P ops st f) {S : Nat → Bool} {E : List (Nat × Nat)} (hS : Sets P ops S E) (hE : Settled P ops S E) {i : Nat} {o : Oper} (hi : Dn S E i = false) (ho : ops[i]? = some o) (hp : ∀ p ∈ preds o, Dn S E p = true)
    {q : Nat} {a : Oper} (hq : inE E q = true) (ha : ops[q]? = some a) (h1 : clash2 ops a o = true) (h2 : clash2 ops o a = true) : False := by
  obtain ⟨a', ha', hf⟩ := hS.free q hq
  rw [ha] at ha'; cases ha'
  have hne : q ≠ i := by
    intro e; subst e
    simp only [Dn, hq, Bool.or_true] at hi; cases hi
  rcases Nat.lt_or_gt_of_ne hne with k | k
  · have := r.B hS hE ho hp (r.order k ha ho (by simp [clash, h1]))
    rw [hS.out q hq] at this; cases this
  · have := hS.down i q (r.order k ho ha (by simp [clash, h2])) (by simp [Dn, hq])
    rw [hi] at this; cases this
theorem Run.early (r : Run P ops st f) {vv : Nat → Value} (hvv : ∀ j, j < ops.size → f (j + 1) = ((f j).at_ (f (j + 1)).H).put (dstOf ops j) (vv j) ∧ (f j).fits (dstOf ops j)) {X : Cx} (hG : GX P X) {S : Nat → Bool} {E : List (Nat × Nat)} {R : Ren} {a : Act} {w : World} (hS : Sets P ops S E) (hM : Mid P ops st f vv X S E R a w)
    {i : Nat} {o : Oper} (hi : Dn S E i = false) (ho : ops[i]? = some o) (hp : ∀ p ∈ preds o, Dn S E p = true) (hf : freeA P ops o = true) (b : Frame) (K : List Item) (cs : List Frame) (σ : List Nat) :
    ∃ a' w' k, a'.defers = a.defers ∧ Mid P ops st f vv X S ((i, k) :: E) R a' w' ∧ Sets P ops S ((i, k) :: E) ∧ Steps P (lone (fr b a (.inRegion ops (i :: σ) :: K)) cs w) (lone (fr b a' (.inRegion ops σ :: K)) cs w') := by
  obtain ⟨hnew, hg, ⟨t, hdst⟩, hpn⟩ := freeA_facts hf
  have hlt : i < ops.size := (Array.getElem?_eq_some_iff.1 ho).1
  obtain ⟨hnd, htn, v0, H0, he0, -⟩ := newFact (r.fact i hlt) ho hf hdst
  rw [(r.same i (Nat.le_of_lt hlt)).1] at htn
  have hi2 := hi
  simp only [Dn, Bool.or_eq_false_iff] at hi2
  obtain ⟨kept, hrel, hE, hk⟩ := hM.rel
  have hA : ∀ j, Bef ops i j → Dn S E j = false := by
    intro j hb
    cases h1 : Dn S E j with
    | false => rfl
    | true => rw [hS.down _ j hb h1] at hi; cases hi
  have hB : ∀ j a, ops[j]? = some a → Bef ops j i → S j = true ∧ isMut P a = false := by
    intro j a ha hb
    have hnm : isMut P a = false := by
      cases h : isMut P a with
      | false => rfl
      | true => exact (noMut hb ho hf ha h).elim
    have h1 := (hS.down.add ho hp) j i hb (by simp)
    have hji := Bef.lt r.back hb
    have h2 : (j == i) = false := by simp; omega
    simp only [h2, Bool.false_or, Dn, Bool.or_eq_true] at h1
    rcases h1 with h1 | h1
    · exact ⟨h1, hnm⟩
    · obtain ⟨a', ha', hf'⟩ := hS.free j h1
      rw [ha] at ha'; cases ha'
      rw [freeMut hf'] at hnm; cases hnm
  have hslot : ∀ j a, ops[j]? = some a → j ≠ i → clash2 ops a o = true → clash2 ops o a = true → S j = decide (j < i) := by
    intro j a ha hne h1 h2
    rcases Nat.lt_or_gt_of_ne hne with k | k
    · rw [(hB j a ha (r.order k ha ho (by simp [clash, h1]))).1]; simp [k]
    · have := hA j (r.order k ho ha (by simp [clash, h2]))
      simp only [Dn, Bool.or_eq_false_iff] at this
      rw [this.1]; simp; omega
  have hslotE : ∀ t ∈ slots ops o, slotE ops E t = false := by
    intro u hu
    cases q : slotE ops E u with
    | false => rfl
    | true =>
      exfalso
      obtain ⟨x, hx, hd⟩ := List.any_eq_true.1 q
      obtain ⟨o', t', _, _, _, _, b1, b2, -⟩ := hE x hx
      have : t' = u := by simpa [dstOf, b1, b2] using hd
      subst this
      have hh : hits o'.dst (slots ops o) = true := by rw [b2]; simpa [hits] using hu
      obtain ⟨o2, ho2, hf2⟩ := hS.free _ (inE_mem hx)
      rw [b1] at ho2; cases ho2
      have hne : x.1 ≠ i := by
        intro e
        rw [← e, inE_mem hx] at hi2; cases hi2.2
      rcases Nat.lt_or_gt_of_ne hne with k | k
      · have := (hB x.1 o' b1 (r.order k b1 ho (by simp [clash, clash2, hh]))).2
        rw [freeMut hf2] at this; cases this
      · have := hA x.1 (r.order k ho b1 (by simp [clash, clash2, hh]))
        simp [Dn, inE_mem hx] at this
  have hev : ∀ x ∈ o.op.operands, evOf P (forget ops E (stS P ops st f vv S)) x = evOf P (f i) x := by
    intro x hx
    rw [← r.evAt hvv ho hi2.1 hslot x hx]
    cases x with
    | tmp u =>
      have : slotE ops E u = false := hslotE u (by
        unfold slots opSlots
        rw [List.mem_append]
        exact .inl (List.mem_filterMap.2 ⟨.tmp u, by simpa using hx, rfl⟩))
      simp [evOf, forget, this]
    | const v => rfl
    | global g => rfl
    | func g => rfl
  have hEv : EvR R (evOf P (forget ops E (stS P ops st f vv S))) a.eval := evOf_ok (X := X.keep kept) ⟨hG.g, hG.laid⟩ (st := forget ops E (stS P ops st f vv S)) hrel hM.str
  obtain ⟨cs', csw, mk, ty, hop, hmk, hvr, hrun⟩ := freeD hf (by rw [opD_congr hev]; exact he0) hEv
  have hsz : t < a.tmps.size := by rw [hM.str.size]; exact htn
  have hold : ∀ x ∈ E, x.2 < w.heap.size := by
    intro x hx
    obtain ⟨_, _, _, _, _, _, _, _, _, _, _, b6, _, _⟩ := hE x hx
    have := (hrel.kept _ _ b6).2.1
    rcases Nat.lt_or_ge x.2 w.heap.size with q | q
    · exact q
    · rw [Array.getElem?_eq_none q] at this; cases this
  have hXn : X.kept w.heap.size = none := by
    rw [← hk w.heap.size (fun x hx e => by have := hold x hx; omega)]
    cases q : kept w.heap.size with
    | none => rfl
    | some o' =>
      have := (hrel.kept _ _ q).2.1
      rw [Array.getElem?_eq_none (Nat.le_refl _)] at this; cases this
  have hdist : ∀ x ∈ E, ∀ o' t', ops[x.1]? = some o' → o'.dst = some t' → t' ≠ t := by
    intro x hx o' t' ho' hd' e
    subst e
    obtain ⟨o2, ho2, hf2⟩ := hS.free _ (inE_mem hx)
    rw [ho'] at ho2; cases ho2
    have hne : x.1 ≠ i := by
      intro e
      rw [← e, inE_mem hx] at hi2; cases hi2.2
    rcases Nat.lt_or_gt_of_ne hne with q | q
    · exact noMut (r.order q ho' ho (by simp [clash, clash2, hd', hdst])) ho hf ho' (freeMut hf2)
    · exact noMut (r.order q ho ho' (by simp [clash, clash2, hd', hdst])) ho' hf2 ho (freeMut hf)
  have hw : Region.wanted o (yielded ops a.tmps) = true := by unfold Region.wanted; rw [hg]
  refine ⟨a.put (some t) (mk w.heap.size), w.alloc (.cells ⟨csw⟩ ty), w.heap.size, rfl, ⟨⟨_, hrel.garbage (.cells ⟨csw⟩ ty), ?_, ?_⟩, ?_, ?_⟩, ⟨?_, ?_, ?_, ?_, hS.pre, ?_⟩, ?_⟩
  · intro x hx
    rcases List.mem_cons.1 hx with rfl | hx
    · refine ⟨o, t, cs', csw, mk, ty, ho, hdst, fun H2 => by rw [← opD_congr hev]; exact hop H2, hmk, hvr, ?_, hXn, getD_put_same hsz⟩
      show (if w.heap.size = w.heap.size then _ else _) = _
      rw [if_pos rfl]
    · obtain ⟨o', t', cs1, cs2, mk', ty', b1, b2, b3, b4, b5, b6, b7, b8⟩ := hE x hx
      refine ⟨o', t', cs1, cs2, mk', ty', b1, b2, b3, b4, b5, ?_, b7, ?_⟩
      · have := hold x hx
        show (if x.2 = w.heap.size then _ else kept x.2) = _
        rw [if_neg (by omega)]; exact b6
      · rw [getD_put (by intro q; cases q; exact hdist x hx o' _ b1 b2 rfl)]; exact b8
  · intro k hkE
    have h1 := hkE _ (List.mem_cons_self ..)
    show (if k = w.heap.size then _ else kept k) = _
    rw [if_neg (fun q => h1 q.symm)]
    exact hk k fun x hx => hkE x (List.mem_cons_of_mem _ hx)
  · refine ⟨by simp [Act.put]; exact hM.str.size, ?_, hM.str.defs⟩
    intro u v e
    simp only [forget] at e
    split at e
    · cases e
    · rename_i hns
      have hu : u ≠ t := by
        intro q; subst q
        apply hns
        simp [slotE, dstOf, ho, hdst]
      have h1 : slotE ops E u = false := by
        cases q : slotE ops E u with
        | false => rfl
        | true => exact (hns (by unfold slotE at q ⊢; rw [List.any_cons, q, Bool.or_true])).elim
      have := hM.str.env u v (by simp only [forget, h1]; exact e)
      refine ⟨this.1, ?_⟩
      rw [getD_put (fun q => hu (by cases q; rfl))]
      exact this.2
  · rw [List.map_cons, List.nodup_cons]
    refine ⟨fun q => ?_, hM.ks⟩
    obtain ⟨x, hx, e⟩ := List.mem_map.1 q
    have := hold x hx
    omega
  · have hd := hS.down.add ho hp
    have e : Dn S ((i, w.heap.size) :: E) = fun j => j == i || Dn S E j := by
      funext j
      rw [Bool.eq_iff_iff]
      simp only [Dn, inE, List.any_cons, Bool.or_eq_true, beq_iff_eq]
      constructor
      · rintro (q | q | q)
        · exact .inr (.inl q)
        · exact .inl q.symm
        · exact .inr (.inr q)
      · rintro (q | q | q)
        · exact .inr (.inl q.symm)
        · exact .inl q
        · exact .inr (.inr q)
    rw [e]; exact hd
  · intro q hq
    obtain ⟨x, hx, e⟩ := inE_some hq
    rcases List.mem_cons.1 hx with rfl | hx
    · subst e; exact hi2.1
    · subst e; exact hS.out _ (inE_mem hx)
  · intro q hq
    obtain ⟨x, hx, e⟩ := inE_some hq
    rcases List.mem_cons.1 hx with rfl | hx
    · subst e; exact ⟨o, ho, hf⟩
    · subst e; exact hS.free _ (inE_mem hx)
  · intro q j hq hb
    obtain ⟨x, hx, e⟩ := inE_some hq
    have hjlt := Bef.lt r.back hb
    have hnew : Dn S E j = false → j ≠ i → Dn S ((i, w.heap.size) :: E) j = false := by
      intro h1 h2
      simp only [Dn, Bool.or_eq_false_iff] at h1
      have h3 : (i == j) = false := by simp; exact fun e => h2 e.symm
      show (S j || (i == j || inE E j)) = false
      rw [h1.1, h1.2, h3]; rfl
    rcases List.mem_cons.1 hx with rfl | hx
    · simp only at e; subst e
      refine hnew ?_ (by omega)
      cases h1 : Dn S E j with
      | false => rfl
      | true => rw [hS.down _ j hb h1] at hi; cases hi
    · subst e
      refine hnew (hS.before _ j (inE_mem hx) hb) ?_
      intro q; subst q
      obtain ⟨o2, ho2, hf2⟩ := hS.free x.1 (inE_mem (E := E) (by assumption))
      exact noMut hb ho hf ho2 (freeMut hf2)
  · rw [List.map_cons, List.nodup_cons]
    refine ⟨fun q => ?_, hS.uniq⟩
    obtain ⟨x, hx, e⟩ := List.mem_map.1 q
    simp only at e
    rw [← e, inE_mem hx] at hi2; cases hi2.2
  · refine .one ?_
    have := s_op_val (P := P) (b := b) (a := a) (k := K) (cs := cs) (w := w) (ops := ops) (rest := σ) ho hw (.inr (by intro c q; rw [q] at hnew; cases hnew)) (hrun w)
    rw [hdst] at this
    exact this
theorem Run.onward (r : Run P ops st f) {vv : Nat → Value} (hvv : ∀ j, j < ops.size → f (j + 1) = ((f j).at_ (f (j + 1)).H).put (dstOf ops j) (vv j) ∧ (f j).fits (dstOf ops j)) {X : Cx} {S : Nat → Bool} {E : List (Nat × Nat)} {R : Ren} {a : Act} {w : World} (hG : GX P X) (hS : Sets P ops S E) (hE : Settled P ops S E) (hM : Mid P ops st f vv X S E R a w)
    {i : Nat} {o : Oper} (hi : Dn S E i = false) (ho : ops[i]? = some o) (hp : ∀ p ∈ preds o, Dn S E p = true) (hn : ¬ (freeA P ops o = true ∧ ∃ y b, y < i ∧ ops[y]? = some b ∧ isMut P b = true ∧ S y = false))
    (b : Frame) (K : List Item) (cs : List Frame) (σ : List Nat) (hb : st.dok = true → b.roundOf = none) :
    ∃ R' a' w', a'.defers = a.defers ∧ R.le R' ∧ Mid P ops st f vv X (fun j => j == i || S j) E R' a' w' ∧ Sets P ops (fun j => j == i || S j) E ∧ Steps P (lone (fr b a (.inRegion ops (i :: σ) :: K)) cs w) (lone (fr b a' (.inRegion ops σ :: K)) cs w') := by
  obtain ⟨fit, low⟩ := r.fitStep hS hE hi ho hp hn
  have hi2 := hi
  simp only [Dn, Bool.or_eq_false_iff] at hi2
  obtain ⟨kept, hrel, hEE, hk⟩ := hM.rel
  have hslots : ∀ t ∈ slots ops o, slotE ops E t = false := by
    intro t ht
    cases q : slotE ops E t with
    | false => rfl
    | true =>
      exfalso
      obtain ⟨x, hx, hd⟩ := List.any_eq_true.1 q
      obtain ⟨a', t', _, _, _, _, b1, b3, _⟩ := hEE x hx
      have : t' = t := by simpa [dstOf, b1, b3] using hd
      subst this
      have hh : hits a'.dst (slots ops o) = true := by rw [b3]; simpa [hits] using ht
      exact r.apart hS hE hi ho hp (inE_mem hx) b1 (by simp [clash2, hh]) (by simp [clash2, hh])
  have hdst : ∀ t, o.dst = some t → slotE ops E t = false := by
    intro t ht
    cases q : slotE ops E t with
    | false => rfl
    | true =>
      exfalso
      obtain ⟨x, hx, hd⟩ := List.any_eq_true.1 q
      obtain ⟨a', t', _, _, _, _, b1, b3, _⟩ := hEE x hx
      have : t' = t := by simpa [dstOf, b1, b3] using hd
      subst this
      exact r.apart hS hE hi ho hp (inE_mem hx) b1 (by simp [clash2, b3, ht]) (by simp [clash2, b3, ht])
  have hfact := forget_fact (r.one hvv ho fit) ho hslots hdst
  obtain ⟨R1, a1, w1, l1, r1, t1, _, st1, v', ha1⟩ := hfact.step (X.keep kept) R a w ⟨hG.g, hG.laid⟩ hrel hM.str b K cs σ hb
  refine ⟨R1, a1, w1, by rw [ha1]; exact put_defers _ _ _, l1, ⟨⟨kept, r1, ?_, hk⟩, t1, hM.ks⟩, ⟨?_, ?_, hS.free, ?_, ?_, hS.uniq⟩, st1⟩
  · intro x hx
    obtain ⟨o', t', cs1, cs2, mk', ty', b1, b3, b4, b5, b6, b7, b8, b9⟩ := hEE x hx
    refine ⟨o', t', cs1, cs2, mk', ty', b1, b3, b4, b5, b6.mono l1, b7, b8, ?_⟩
    rw [ha1, getD_put]
    · exact b9
    · rw [ho]
      intro q
      have h1 := hdst t' q
      have : slotE ops E t' = true := List.any_eq_true.2 ⟨x, hx, by simp [dstOf, b1, b3]⟩
      rw [h1] at this; cases this
  · have hd := hS.down.add ho hp
    have e : Dn (fun j => j == i || S j) E = fun j => j == i || Dn S E j := by
      funext j
      simp only [Dn, Bool.or_assoc]
    rw [e]; exact hd
  · intro q hq
    have h1 : (q == i) = false := by
      cases h : q == i with
      | false => rfl
      | true =>
        have : q = i := by simpa using h
        subst this
        rw [hi2.2] at hq; cases hq
    show (q == i || S q) = false
    rw [h1, hS.out q hq]; rfl
  · intro q j hq hbq
    have h1 := hS.before q j hq hbq
    have h2 : (j == i) = false := by
      cases h : j == i with
      | false => rfl
      | true =>
        have : j = i := by simpa using h
        subst this
        have := r.B hS hE ho hp hbq
        rw [hS.out q hq] at this; cases this
    show ((j == i || S j) || inE E j) = false
    rw [h2]; exact h1
  · intro j a' hj ha' hm y b' hy hb' hbm
    simp only [Bool.or_eq_true, beq_iff_eq] at hj ⊢
    rcases hj with hj | hj
    · subst hj
      rw [ho] at ha'; cases ha'
      exact .inr (low hm y b' hy hb' hbm)
    · exact .inr (hS.pre j a' hj ha' hm y b' hy hb' hbm)
theorem Run.sched (r : Run P ops st f) {vv : Nat → Value} (hvv : ∀ j, j < ops.size → f (j + 1) = ((f j).at_ (f (j + 1)).H).put (dstOf ops j) (vv j) ∧ (f j).fits (dstOf ops j)) :
    ∀ (σ : List Nat) (S : Nat → Bool) (E : List (Nat × Nat)), Sets P ops S E → Settled P ops S E → Sched ops σ (Dn S E) → ∀ (X : Cx) (R : Ren) (a : Act) (w : World), GX P X → Mid P ops st f vv X S E R a w →
      ∀ (b : Frame) (K : List Item) (cs : List Frame), (st.dok = true → b.roundOf = none) →
      ∃ (R' : Ren) (a' : Act) (w' : World), a'.defers = a.defers ∧ R.le R' ∧ Rel X R' (f ops.size).H w' ∧ StR R' (f ops.size) a' ∧ Steps P (lone (fr b a (.inRegion ops σ :: K)) cs w) (lone (fr b a' (.inRegion ops [] :: K)) cs w')
  | [], S, E, hS, hE, hs, X, R, a, w, hG, hM, b, K, cs, hb => by
    have hE0 : E = [] := by
      rcases hE with hE | ⟨y, b, g1, _, g3, _⟩
      · exact hE
      · have := hs y (Array.getElem?_eq_some_iff.1 g1).1
        rw [g3] at this; cases this
    subst hE0
    have hn := r.same ops.size (Nat.le_refl _)
    have hs' : ∀ i, i < ops.size → S i = true := fun i hi => by have := hs i hi; simpa [Dn, inE] using this
    have heq : stS P ops st f vv S = f ops.size := by
      have h1 := r.Em_full hvv (S := S) ops.size (Nat.le_refl _) hs'
      have h2 := r.Hm_full (S := S) ops.size (Nat.le_refl _) hs'
      obtain ⟨n1, n2, n3⟩ := hn
      generalize f ops.size = z at *
      cases z
      simp only at h1 h2 n1 n2 n3
      subst h1 h2 n1 n2 n3
      rfl
    obtain ⟨⟨kept, hrel, _, hk⟩, hstr, _⟩ := hM
    have hkk : kept = X.kept := funext fun k => hk k (by simp)
    have hX : X.keep kept = X := by rw [hkk]; rfl
    have hf : forget ops [] (stS P ops st f vv S) = stS P ops st f vv S := by simp [forget, slotE]
    rw [hX, heq] at hrel
    rw [hf, heq] at hstr
    exact ⟨R, a, w, rfl, Ren.le_refl R, hrel, hstr, .refl _ _⟩
  | i :: σ, S, E, hS, hE, hs, X, R, a, w, hG, hM, b, K, cs, hb => by
    obtain ⟨h1, ⟨o, ho, hp⟩, h3⟩ := hs
    have fin : ∀ {S1 E1 R1 a1 w1}, a1.defers = a.defers → R.le R1 → Mid P ops st f vv X S1 E1 R1 a1 w1 → Sets P ops S1 E1 → (∀ j, Dn S1 E1 j = (j == i || Dn S E j)) → Steps P (lone (fr b a (.inRegion ops (i :: σ) :: K)) cs w) (lone (fr b a1 (.inRegion ops σ :: K)) cs w1) →
        ∃ (R' : Ren) (a' : Act) (w' : World), a'.defers = a.defers ∧ R.le R' ∧ Rel X R' (f ops.size).H w' ∧ StR R' (f ops.size) a' ∧ Steps P (lone (fr b a (.inRegion ops (i :: σ) :: K)) cs w) (lone (fr b a' (.inRegion ops [] :: K)) cs w') := by
      intro S1 E1 R1 a1 w1 q1 l1 m1 s1 d1 st1
      obtain ⟨R2, S2, E2, l2, m2, s2, t2, d2⟩ := r.settle hvv _ rfl s1 m1
      have e : Dn S2 E2 = fun j => j == i || Dn S E j := funext fun j => (d2 j).trans (d1 j)
      obtain ⟨R3, a3, w3, q3, l3, r3, t3, st3⟩ := Run.sched r hvv σ S2 E2 s2 t2 (by rw [e]; exact h3) X R2 a1 w1 hG m2 b K cs hb
      exact ⟨R3, a3, w3, q3.trans q1, Ren.le_trans l1 (Ren.le_trans l2 l3), r3, t3, st1.trans st3⟩
    by_cases hn : freeA P ops o = true ∧ ∃ y b, y < i ∧ ops[y]? = some b ∧ isMut P b = true ∧ S y = false
    · obtain ⟨a1, w1, k, q1, m1, s1, st1⟩ := r.early hvv hG hS hM h1 ho hp hn.1 b K cs σ
      refine fin q1 (Ren.le_refl R) m1 s1 (fun j => ?_) st1
      rw [Bool.eq_iff_iff]
      simp only [Dn, inE, List.any_cons, Bool.or_eq_true, beq_iff_eq]
      constructor
      · rintro (q | q | q)
        · exact .inr (.inl q)
        · exact .inl q.symm
        · exact .inr (.inr q)
      · rintro (q | q | q)
        · exact .inr (.inl q.symm)
        · exact .inl q
        · exact .inr (.inr q)
    · obtain ⟨R1, a1, w1, q1, l1, m1, s1, st1⟩ := r.onward hvv hG hS hE hM h1 ho hp hn b K cs σ hb
      exact fin q1 l1 m1 s1 (fun j => by simp only [Dn, Bool.or_assoc]) st1
theorem stS_none (vv : Nat → Value) : stS P ops st f vv (fun _ => false) = st := by
  have h1 : Em ops st vv ops.size (fun _ => false) = st.env := by
    funext t
    rw [Em_stop vv (i := 0) (Nat.zero_le _) (fun _ _ _ _ => rfl)]; rfl
  have h2 : Hm P ops st f ops.size (fun _ => false) = st.H := by
    rw [Hm_stop (i := 0) (Nat.zero_le _) (fun _ _ _ _ => rfl)]; rfl
  simp only [stS, h1, h2]
theorem Run.region (r : Run P ops st f) (hmix : P.follows .mixedOrders = true) {Q : Ex → St → Prop} (hQ : Q .normal (f ops.size)) (id : Nat) : SC P (.region id ops true) Q st := by
  obtain ⟨vv, hvv⟩ := r.vals
  refine ⟨.normal, f ops.size, hQ, fun X R a w hG hR hS hM b K cs hb => ?_⟩
  have hsch := sched_of r.back (w.tape w.drawn (.order b.fn id))
  have h0 := stS_none (P := P) (ops := ops) (st := st) (f := f) vv
  have hd0 : Dn (fun _ => false) [] = fun _ => false := rfl
  obtain ⟨R1, a1, w1, q1, l1, r1, t1, st1⟩ := r.sched hvv _ (fun _ => false) [] ⟨fun _ _ _ h => (by cases h), fun _ h => (by cases h), fun _ h => (by cases h), fun _ _ h => (by cases h), fun _ _ h => (by cases h), by simp⟩ (.inl rfl) (by rw [hd0]; exact hsch) X R a w.drew hG
    ⟨⟨X.kept, by rw [h0]; exact hR.drew, fun x hx => (by cases hx), fun _ _ => rfl⟩, by rw [h0]; exact hS, by simp⟩ b K cs hb
  refine ⟨X, R1, a1, w1, .normal, ⟨Cx.le.refl X, fun m q => .inl (by rw [← q1]; exact q)⟩, l1, r1, t1, hM.same q1, .normal, (r.same ops.size (Nat.le_refl _)).2.2, ?_⟩
  refine .head s_region_draw (Steps.trans (m₁ := lone (fr b a1 (.inRegion ops [] :: K)) cs w1) ?_ (.one (s_region_end (ops := ops))))
  simp only [hmix, Region.schedule, Bool.true_or, if_true]
  exact st1
end main
def side (P : Program) (ops : Array Oper) (fl : Bool) (st0 : St) (j : Nat) (s : St) : Prop :=
  fl = true → Ext st0.H s.H ∧ (floating P ops (masks ops.toList []) j = true → ∀ o, ops[j]? = some o → ∀ b, readBlk (evOf P s) o.op = some b → b < st0.H.next)
def SD (P : Program) (ops : Array Oper) (fl : Bool) (st0 : St) (k i : Nat) (Q : St → Prop) (s : St) : Prop :=
  ∃ f : Nat → St, f i = s ∧ (∀ j, i ≤ j → j < i + k → OpFact P ops j (f j) (f (j + 1)) ∧ side P ops fl st0 j (f j)) ∧ Q (f (i + k))
section rules
variable {P : Program} {ops : Array Oper} {fl : Bool} {st0 s : St} {k i : Nat} {Q : St → Prop} {o : Oper}
theorem SD.nil (h : Q s) : SD P ops fl st0 0 i Q s := ⟨fun _ => s, rfl, fun j h1 h2 => by omega, h⟩
theorem SD.cons {s' : St} (h : OpFact P ops i s s') (hs : side P ops fl st0 i s) (hk : SD P ops fl st0 k (i + 1) Q s') : SD P ops fl st0 (k + 1) i Q s := by
  obtain ⟨f, h1, h2, h3⟩ := hk
  refine ⟨fun j => if j = i then s else f j, by simp, fun j hj1 hj2 => ?_, ?_⟩
  · by_cases hji : j = i
    · subst hji
      simp only [if_true, if_neg (show ¬ j + 1 = j by omega), h1]
      exact ⟨h, hs⟩
    · simp only [if_neg hji, if_neg (show ¬ j + 1 = i by omega)]
      exact h2 j (by omega) (by omega)
  · simp only [if_neg (show ¬ i + (k + 1) = i by omega)]
    rw [show i + (k + 1) = i + 1 + k by omega]
    exact h3
theorem SD.skip (ho : ops[i]? = some o) (hg : gd ops s o = some false) (hf : s.fits o.dst) (hs : side P ops fl st0 i s) (h : SD P ops fl st0 k (i + 1) Q (s.put o.dst undef)) : SD P ops fl st0 (k + 1) i Q s :=
  SD.cons (.skip ho hg hf) hs h
theorem SD.val (ho : ops[i]? = some o) (hg : gd ops s o = some true) {v : Value} {H' : Hp} (hd : notDefer o.op = true) (he : opD P s.H (evOf P s) o = some (.val v H')) (hf : s.fits o.dst) (hs : side P ops fl st0 i s)
    (h : SD P ops fl st0 k (i + 1) Q ((s.at_ H').put o.dst v)) : SD P ops fl st0 (k + 1) i Q s := SD.cons (.val ho hg hd he hf) hs h
theorem SD.call (ho : ops[i]? = some o) (hg : gd ops s o = some true) {f : FuncId} {args : List Value} (hd : notDefer o.op = true) (he : opD P s.H (evOf P s) o = some (.enter f args)) (hf : s.fits o.dst) (hs : side P ops fl st0 i s)
    (h : SCall P f args s.H fun
      | .ret v, H' => SD P ops fl st0 k (i + 1) Q ((s.at_ H').put o.dst v)
      | .panic _, _ => False) : SD P ops fl st0 (k + 1) i Q s := by
  obtain ⟨en, H', q, kk⟩ := h
  cases en with
  | ret v => exact SD.cons (.call ho hg hd he hf (CFact.of kk)) hs q
  | panic v => exact q.elim
theorem SC.regionDraw {id : Nat} {Q : Ex → St → Prop} (hmix : P.follows .mixedOrders = true) (hok : okDraw P ops = true) (hfl : ((List.range ops.size).any fun i => floating P ops (masks ops.toList []) i) = fl)
    (h : SD P ops fl s ops.size 0 (fun s' => (fl = true → Ext s.H s'.H) ∧ Q .normal s') s) : SC P (.region id ops true) Q s := by
  obtain ⟨f, h1, h2, h3, h4⟩ := h
  simp only [Nat.zero_add] at h2 h3 h4
  have hfloat : ∀ i, floating P ops (masks ops.toList []) i = true → fl = true := by
    intro i hi
    rw [← hfl]
    refine List.any_eq_true.2 ⟨i, List.mem_range.2 ?_, hi⟩
    unfold floating at hi
    split at hi
    · rename_i o ho; exact (Array.getElem?_eq_some_iff.1 ho).1
    · cases hi
  refine Run.region (f := f) ⟨h1, fun j hj => (h2 j (Nat.zero_le _) hj).1, hok, ops.size, fun b => fl = true ∧ b < s.H.next, fun i j hij => floatPair_lt hij, fun j _ hj b hb => ?_, fun i o ho hi b hb => ?_⟩ hmix h4 id
  · obtain ⟨hf, hb⟩ := hb
    rcases Nat.lt_or_ge j ops.size with q | q
    · exact ((h2 j (Nat.zero_le _) q).2 hf).1.same b hb
    · have : j = ops.size := by omega
      subst this; exact (h3 hf).same b hb
  · have hlt : i < ops.size := (Array.getElem?_eq_some_iff.1 ho).1
    exact ⟨hfloat i hi, ((h2 i (Nat.zero_le _) hlt).2 (hfloat i hi)).2 hi o ho b hb⟩
def sideT (P : Program) (ops : Array Oper) (c : Nat) (T : Nat → Prop) (st0 : St) (j : Nat) (s : St) : Prop :=
  (j ≤ c → ∀ b, T b → s.H.get b = st0.H.get b) ∧ (floating P ops (masks ops.toList []) j = true → ∀ o, ops[j]? = some o → ∀ b, readBlk (evOf P s) o.op = some b → T b)
def ST (P : Program) (ops : Array Oper) (c : Nat) (T : Nat → Prop) (st0 : St) (k i : Nat) (Q : St → Prop) (s : St) : Prop :=
  ∃ f : Nat → St, f i = s ∧ (∀ j, i ≤ j → j < i + k → OpFact P ops j (f j) (f (j + 1)) ∧ sideT P ops c T st0 j (f j)) ∧ Q (f (i + k))
def cutOk (P : Program) (ops : Array Oper) (c : Nat) : Bool := Nat.ble c ops.size && (List.range ops.size).all fun i => (List.range ops.size).all fun j => !floatPair P ops (masks ops.toList []) i j || (Nat.blt i c && Nat.blt j c)
variable {c : Nat} {T : Nat → Prop}
theorem ST.nil (h : Q s) : ST P ops c T st0 0 i Q s := ⟨fun _ => s, rfl, fun j h1 h2 => by omega, h⟩
theorem ST.cons {s' : St} (h : OpFact P ops i s s') (hs : sideT P ops c T st0 i s) (hk : ST P ops c T st0 k (i + 1) Q s') : ST P ops c T st0 (k + 1) i Q s := by
  obtain ⟨f, h1, h2, h3⟩ := hk
  refine ⟨fun j => if j = i then s else f j, by simp, fun j hj1 hj2 => ?_, ?_⟩
  · by_cases hji : j = i
    · subst hji
      simp only [if_true, if_neg (show ¬ j + 1 = j by omega), h1]
      exact ⟨h, hs⟩
    · simp only [if_neg hji, if_neg (show ¬ j + 1 = i by omega)]
      exact h2 j (by omega) (by omega)
  · simp only [if_neg (show ¬ i + (k + 1) = i by omega)]
    rw [show i + (k + 1) = i + 1 + k by omega]
    exact h3
theorem ST.call (ho : ops[i]? = some o) (hg : gd ops s o = some true) {f : FuncId} {args : List Value} (hd : notDefer o.op = true) (he : opD P s.H (evOf P s) o = some (.enter f args)) (hf : s.fits o.dst) (hs : sideT P ops c T st0 i s)
    (h : SCall P f args s.H fun
      | .ret v, H' => ST P ops c T st0 k (i + 1) Q ((s.at_ H').put o.dst v)
      | .panic _, _ => False) : ST P ops c T st0 (k + 1) i Q s := by
  obtain ⟨en, H', q, kk⟩ := h
  cases en with
  | ret v => exact ST.cons (.call ho hg hd he hf (CFact.of kk)) hs q
  | panic v => exact q.elim
theorem SC.regionDrawT {id : Nat} {Q : Ex → St → Prop} (hmix : P.follows .mixedOrders = true) (hok : okDraw P ops = true) (hc : cutOk P ops c = true)
    (h : ST P ops c T s ops.size 0 (fun s' => (c = ops.size → ∀ b, T b → s'.H.get b = s.H.get b) ∧ Q .normal s') s) : SC P (.region id ops true) Q s := by
  obtain ⟨f, h1, h2, h3, h4⟩ := h
  simp only [Nat.zero_add] at h2 h3 h4
  simp only [cutOk, Bool.and_eq_true, Nat.ble_eq] at hc
  refine Run.region (f := f) ⟨h1, fun j hj => (h2 j (Nat.zero_le _) hj).1, hok, c, T, fun i j hij => ?_, fun j hj1 hj b hb => ?_, fun i o ho hi b hb => ?_⟩ hmix h4 id
  · obtain ⟨l1, l2⟩ := floatPair_lt hij
    have := List.all_eq_true.1 (List.all_eq_true.1 hc.2 i (List.mem_range.2 l1)) j (List.mem_range.2 l2)
    rw [hij] at this
    simpa using this
  · rcases Nat.lt_or_ge j ops.size with q | q
    · exact (h2 j (Nat.zero_le _) q).2.1 hj1 b hb
    · have : j = ops.size := by omega
      subst this; exact h3 (by omega) b hb
  · have hlt : i < ops.size := (Array.getElem?_eq_some_iff.1 ho).1
    exact (h2 i (Nat.zero_le _) hlt).2.2 hi o ho b hb
end rules
end Go.Det
