import Derived.Test.YtiodokcfjgmpaaaGreatDoorD45
set_option linter.unusedSimpArgs false
set_option linter.unusedVariables false
namespace Go.Det
open Go Go.RowKit
theorem pureRun_bind {α β : Type} (P : Program) (f : α → Sem β) : ∀ s : Sem α, pureRun P (s >>= f) = (pureRun P s).bind fun a => pureRun P (f a)
  | .pure a => rfl
  | .program k => by
    show pureRun P (Sem.program fun p => Sem.bind (k p) f) = _
    simp only [pureRun]
    exact pureRun_bind P f (k P)
  | .load _ _ _ | .store _ _ _ _ | .new _ _ | .shape _ _ | .freeze _ _ _ | .frozen _ _ | .getObj _ _ | .setObj _ _ _ | .choose _ _ | .sys _ _ | .mark _ _ | .halt _ => rfl
def eqL {α : Type} (h : α → Option Bool) : List α → Option Bool
  | [] => some true
  | x :: l => match h x, eqL h l with
    | some a, some b => some (a && b)
    | _, _ => none
def part2 (P : Program) (t : TypeId) (xs ys : Array Value) (off : Nat) : Option (Value × Value) :=
  match pureRun P (part t xs off), pureRun P (part t ys off) with
  | some x, some y => some (x, y)
  | _, _ => none
def eqT (P : Program) : Nat → TypeId → Value → Value → Option Bool
  | 0, _, _, _ => none
  | d + 1, t, x, y =>
    match P.underlying t, x, y with
    | some .bool, .bool a, .bool b => some (a == b)
    | some (.int _), .int k a, .int k' b => if k = k' then some (a == b) else none
    | some .string, .string a, .string b => some (a == b)
    | some (.struct fields), .agg xs, .agg ys =>
      if P.stoodInHeld t = true then none else
      if (fields.toList.all fun f => f.name != "_") = true then eqL (fun f : Field => match part2 P f.type xs ys f.offset with | some (x, y) => eqT P d f.type x y | none => none) fields.toList else none
    | some (.array len elem), .agg xs, .agg ys =>
      match pureRun P (sizeOf elem) with
      | some n => eqL (fun i : Nat => match part2 P elem xs ys (i * n) with | some (x, y) => eqT P d elem x y | none => none) (List.range' 0 len 1)
      | none => none
    | _, _, _ => none
theorem pureRun_underlying {P : Program} {t : TypeId} {d : TypeDesc} (h : P.underlying t = some d) : pureRun P (underlying t) = some d := by
  show pureRun P (Sem.program fun p => Sem.bind (Sem.pure p) _) = _
  simp only [pureRun, Sem.bind, h]; rfl
theorem loopF {P : Program} {α : Type} (g : α → Sem Bool) (h : α → Option Bool) (hg : ∀ x b, h x = some b → pureRun P (g x) = some b) (nm : α → Prop) :
    ∀ (l : List α) (hn : ∀ x ∈ l, nm x) (b : Bool), eqL h l = some b →
    ∀ (B : α → (Option Bool × Unit) → Sem (ForInStep (Option Bool × Unit))) (hB : ∀ x s, nm x → pureRun P (B x s) = (pureRun P (g x)).bind fun r => some (bif r then ForInStep.yield (none, ()) else ForInStep.done (some false, ()))) (F : (Option Bool × Unit) → Sem Bool) (hF1 : F (none, ()) = pure true) (hF2 : ∀ r, F (some r, ()) = pure r),
    pureRun P (forIn l (none, ()) B >>= F) = some b := by
  intro l
  induction l with
  | nil =>
    intro hn b hb B hB F hF1 hF2
    cases hb
    show pureRun P (F (none, ())) = _
    rw [hF1]; rfl
  | cons x l ih =>
    intro hn b hb B hB F hF1 hF2
    unfold eqL at hb
    split at hb
    · rename_i a c h1 h2
      cases hb
      have hx := hg x a h1
      rw [List.forIn_cons]
      simp only [pureRun_bind, hB x _ (hn x (List.mem_cons_self ..)), hx, Option.bind_some]
      cases a with
      | false =>
        show pureRun P (F (some false, ())) = _
        rw [hF2]; rfl
      | true =>
        have := ih (fun y hy => hn y (List.mem_cons_of_mem _ hy)) c h2 B hB F hF1 hF2
        simp only [pureRun_bind] at this
        simp only [cond_true, Bool.true_and]
        exact this
    · cases hb
theorem eqT_ok {P : Program} : ∀ (d : Nat) {t : TypeId} {x y : Value} {b : Bool}, eqT P d t x y = some b → ∀ D, d ≤ D → pureRun P (Op.equalIn D t x y) = some b
  | 0, _, _, _, _, h, _, _ => by simp [eqT] at h
  | d + 1, t, x, y, b, h, 0, hD => by omega
  | d + 1, t, x, y, b, h, D + 1, hD => by
    have hd : d ≤ D := by omega
    have pk : ∀ (e : TypeId) (xs ys : Array Value) (off : Nat) (b : Bool), (match part2 P e xs ys off with | some (x, y) => eqT P d e x y | none => none) = some b →
        pureRun P (do let a ← part e xs off; let b ← part e ys off; Op.equalIn D e a b) = some b := by
      intro e xs ys off b hb
      simp only [pureRun_bind]
      split at hb
      · rename_i x y hp
        unfold part2 at hp
        split at hp
        · rename_i x' y' h1 h2
          cases hp
          simp only [h1, h2, Option.bind_some]
          exact eqT_ok d hb D hd
        · cases hp
      · cases hb
    unfold eqT at h
    unfold Op.equalIn
    simp only [pureRun_bind]
    split at h
    · rename_i hu; rw [pureRun_underlying hu]; exact h
    · rename_i hu; rw [pureRun_underlying hu]
      simp only [Option.bind_some]
      split at h
      · rename_i hk; rw [if_pos hk]; exact h
      · cases h
    · rename_i hu; rw [pureRun_underlying hu]; exact h
    · rename_i fields xs ys hu
      rw [pureRun_underlying hu]
      simp only [Option.bind_some]
      split at h
      · cases h
      · rename_i hst
        split at h
        · rename_i hn
          rw [pureRun_bind]
          show pureRun P (if P.stoodInHeld t = true then _ else _) = _
          rw [if_neg hst]
          rw [← Array.forIn_toList]
          refine loopF (P := P) (fun f : Field => do
              let a ← part f.type xs f.offset
              let b ← part f.type ys f.offset
              Op.equalIn D f.type a b) _ (fun f b hb => pk f.type xs ys f.offset b hb) (fun f => f.name ≠ "_") fields.toList
            (fun f hf => by
              have := List.all_eq_true.1 hn f hf
              simpa using this) b h _ ?_ _ rfl (fun _ => rfl)
          intro f s hf
          rw [if_pos hf]
          simp only [pureRun_bind, Option.bind_assoc]
          congr 1; funext a; congr 1; funext b; congr 1; funext r
          cases r <;> rfl
        · cases h
    · rename_i len elem xs ys hu
      rw [pureRun_underlying hu]
      simp only [Option.bind_some]
      rw [pureRun_bind]
      split at h
      · rename_i n hn
        rw [hn, Option.bind_some]
        rw [Std.Legacy.Range.forIn_eq_forIn_range']
        refine loopF (P := P) (fun i : Nat => do
            let a ← part elem xs (i * n)
            let b ← part elem ys (i * n)
            Op.equalIn D elem a b) _ (fun i b hb => pk elem xs ys (i * n) b hb) (fun _ => True) _ (fun _ _ => trivial) b ?_ _ ?_ _ rfl (fun _ => rfl)
        · simpa [Std.Legacy.Range.size] using h
        intro f s hf
        simp only [pureRun_bind, Option.bind_assoc]
        congr 1; funext a; congr 1; funext b; congr 1; funext r
        cases r <;> rfl
      · cases h
    · cases h
section ops
variable {P : Program} {H : Hp} {ev : Ev} {o : Oper}
theorem nilEq_agg {d : TypeDesc} {xs ys : Array Value} : nilEq d (.agg xs) (.agg ys) = none := by cases d <;> rfl
theorem opD_neS {t u : TypeId} {x y : Operand} {xs ys : List Value} {b : Bool} (ho : o.op = .binOp .neq t x y u) (hx : ev x = some (.agg ⟨xs⟩)) (hy : ev y = some (.agg ⟨ys⟩)) (hf : (flat (.agg ⟨xs⟩) && flat (.agg ⟨ys⟩)) = true) (hg : P.eqGuardType P.depth t = false) (h : eqT P 20 t (.agg ⟨xs⟩) (.agg ⟨ys⟩) = some b) : opD P H ev o = some (.val (.bool (!b)) H) := by
  simp only [Bool.and_eq_true] at hf
  have he := eqT_ok 20 h Op.maxDepth (by decide)
  have hr : pureRun P (execOp (fun x => (ev x).getD undef) o) = some (.value (.bool (!b))) := by
    unfold execOp
    simp only [ho, hx, hy, Option.getD_some]
    have hq : pureRun P (eqGuard .neq t x y (.agg ⟨xs⟩) (.agg ⟨ys⟩)) = some () := by
      show pureRun P (if (!(P.eqGuardType P.depth t)) = true then _ else _) = _
      rw [hg]; rfl
    have hb : pureRun P (binOp .neq t (.agg ⟨xs⟩) (.agg ⟨ys⟩)) = some (.bool (!b)) := by
      show pureRun P (Op.equalIn Op.maxDepth t (.agg ⟨xs⟩) (.agg ⟨ys⟩) >>= fun r => pure (Value.bool (!r))) = _
      rw [pureRun_bind, he]; rfl
    simp only [pureRun_bind, hq, hb, Option.bind_some]; rfl
  have hn : nilD P .neq t (.agg ⟨xs⟩) (.agg ⟨ys⟩) = none := by
    unfold nilD
    split
    · rw [nilEq_agg]
    · rfl
  have hgd : genD P ev o = some (.bool (!b)) := by
    unfold genD
    rw [if_pos (by simp only [ho, Op.operands]; simp [hx, hy, hf.1, hf.2])]
    simp only [hr]
    rfl
  unfold opD
  simp only [ho, hx, hy]
  unfold binD
  simp only [hn, hgd]
def gmax (a b : Int) : Int := if b > a then b else a
theorem gmax_eq (a b : Int) : gmax a b = max a b := by unfold gmax; omega
theorem opD_max {c : Call} {x y : Operand} {k : IntKind} {a b : Int} (ho : o.op = .call c) (hc : c.callee = .builtin .max) (ha : c.args = #[x, y]) (hx : ev x = some (.int k a)) (hy : ev y = some (.int k b)) : opD P H ev o = some (.val (.int k (gmax a b)) H) := by
  obtain ⟨cal, args, at_⟩ := c
  simp only at hc ha
  subst hc ha
  have hr : pureRun P (execOp (fun x => (ev x).getD undef) o) = some (.value (.int k (gmax a b))) := by
    unfold execOp
    simp only [ho]
    unfold resolve
    simp only [List.map_toArray, List.map_cons, List.map_nil, hx, hy, Option.getD_some]
    rfl
  have hgd : genD P ev o = some (.int k (gmax a b)) := by
    unfold genD
    rw [if_pos (by simp only [ho, Op.operands]; simp [Call.operands, hx, hy, flat])]
    simp only [hr]
    rfl
  unfold opD
  simp only [ho]
  unfold callD
  simp only [argsD, hx, hy, hgd]
  rfl
end ops
end Go.Det
