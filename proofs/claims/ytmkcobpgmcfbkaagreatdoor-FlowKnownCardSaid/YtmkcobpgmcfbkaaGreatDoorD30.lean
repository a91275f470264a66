import Derived.Test.YtmkcobpgmcfbkaaGreatDoorD29
set_option linter.unusedSimpArgs false
set_option linter.unusedVariables false
namespace Go.Det
open Go Go.RowKit
inductive OV where
  | val (x : SV)
  | new (cs : List Value)
  | upd (k : Nat) (cs : List Value)
  | enter (f : FuncId) (args : List SV)
  | cmp | hard | stuck
def argsV (P : Program) (l : VEnv) : List Operand → Option (List SV)
  | [] => some []
  | x :: r => match evV P l x with
    | some v => match argsV P l r with
      | some vs => some (v :: vs)
      | none => none
    | none => none
def sv0 : SV → Option SV0
  | .v x => some (.v x)
  | .p k o => some (.p k o)
  | .fn .. => none
def svOf : SV0 → SV
  | .v x => .v x
  | .p k o => .p k o
def sv0s : List SV → Option (List SV0)
  | [] => some []
  | x :: r => match sv0 x with
    | some v => match sv0s r with
      | some vs => some (v :: vs)
      | none => none
    | none => none
def evPlain (P : Program) (l : VEnv) : Ev := fun x => match evV P l x with | some (.v u) => some u | _ => none
def isPlain (P : Program) (l : VEnv) (x : Operand) : Bool := match evV P l x with | some (.v _) => true | _ => false
def loadC (P : Program) (t : TypeId) (cs : List Value) (off : Nat) : Option Value :=
  match isAggD P t with
  | some true => match sizeD P t with
    | some n => match Nat.ble (off + n) cs.length with
      | true => some (.agg ⟨(cs.drop off).take n⟩)
      | false => none
    | none => none
  | some false => cs[off]?
  | none => none
def storeC (P : Program) (t : TypeId) (cs : List Value) (off : Nat) (u : Value) : Option (List Value) :=
  match sizeD P t with
  | some n => match Nat.beq n u.cells.size with
    | true => match Nat.ble (off + u.cells.size) cs.length with
      | true => match u.cells.toList.all fun x => x.oneCell' with
        | true => some (wr cs off u.cells.toList)
        | false => none
      | false => none
    | false => none
  | none => none
def genV (P : Program) (x : VS) (o : Oper) : OV :=
  match o.op.operands.toList.all (isPlain P x.l) with
  | true => match cls P o.op with
    | some .pure => match opD P ⟨.nil, 0, 0⟩ (evPlain P x.l) o with
      | some (.val v _) => .val (.v v)
      | _ => .stuck
    | _ => .hard
  | false => .hard
def lenV (P : Program) (c : Call) (v : Value) : Option Value :=
  match c.argTypes[0]? with
  | some t => match P.underlying t, v with
    | some .string, .string s => some (.int .i64 s.size)
    | some (.array n _), _ => some (.int .i64 n)
    | some (.slice _), .slice _ n _ => some (.int .i64 n)
    | _, _ => none
  | none => none
def callV (P : Program) (x : VS) (o : Oper) (c : Call) : OV :=
  match c.callee with
  | .value g =>
    match argsV P x.l c.args.toList with
    | none => .stuck
    | some args =>
      match evV P x.l g with
      | some (.v (.func (.func f) ⟨first⟩ ⟨caps⟩)) => match enterD P f [] with
        | some _ => .enter f (first.map .v ++ args ++ caps.map .v)
        | none => .stuck
      | some (.fn f caps) => match enterD P f [] with
        | some _ => .enter f (args ++ caps.map svOf)
        | none => .stuck
      | _ => .stuck
  | .builtin .len => match argsV P x.l c.args.toList with
    | some [.v v] => match lenV P c v with
      | some r => .val (.v r)
      | none => .hard
    | _ => .hard
  | _ => .hard
def opV (P : Program) (x : VS) (o : Oper) : OV :=
  match o.op with
  | .move a | .assign a => match evV P x.l a with
    | some v => .val v
    | none => .stuck
  | .pick c a b => match evV P x.l c with
    | some (.v (.bool true)) => match evV P x.l a with
      | some v => .val v
      | none => .stuck
    | some (.v (.bool false)) => match evV P x.l b with
      | some v => .val v
      | none => .stuck
    | _ => .stuck
  | .alloc t => match isB P t with
    | true => .hard
    | false => match zeroD P t with
      | some z => match flat z with
        | true => match apartE x.loc.length x.l with
          | true => .new z.cells.toList
          | false => .stuck
        | false => .stuck
      | none => .stuck
  | .box _ a => match evV P x.l a with
    | some (.v u) => match apartE x.loc.length x.l with
      | true => .new u.cells.toList
      | false => .stuck
    | _ => .hard
  | .load t a => match evV P x.l a with
    | some (.p k off) => match x.loc[k]? with
      | some cs => match loadC P t cs off with
        | some v => .val (.v v)
        | none => .stuck
      | none => .stuck
    | _ => .hard
  | .store t a b => match evV P x.l a with
    | some (.p k off) => match evV P x.l b with
      | some (.v u) => match x.loc[k]? with
        | some cs => match storeC P t cs off u with
          | some cs' => .upd k cs'
          | none => .stuck
        | none => .stuck
      | _ => .hard
    | _ => .hard
  | .fieldAddr t a f => match evV P x.l a with
    | some (.p k off) => match P.underlying t with
      | some (.struct fields) => match fields[f]? with
        | some fd => match sizeD P fd.type with
          | some (n + 1) => .val (.p k (off + fd.offset))
          | _ => .stuck
        | none => .stuck
      | _ => .stuck
    | _ => genV P x o
  | .nilCheck a => match evV P x.l a with
    | some (.p k off) => .val (.p k off)
    | some (.fn f c) => .val (.fn f c)
    | _ => genV P x o
  | .makeFunc (.func f) first caps => match argsV P x.l first.toList with
    | some [] => match argsV P x.l caps.toList with
      | some l => match sv0s l with
        | some l => .val (.fn f l)
        | none => .hard
      | none => .stuck
    | _ => genV P x o
  | .call c => callV P x o c
  | .binOp op t _ _ _ => match op with
    | .eql | .neq | .lss | .leq | .gtr | .geq => .cmp
    | .quo | .rem | .shl | .shr => .hard
    | _ => match P.underlying t with
      | some (.int _) => genV P x o
      | _ => .hard
  | .build .. | .makeInterface .. | .field .. | .typeAssert .. | .extract .. | .unOp .. | .convert .. => genV P x o
  | _ => .hard
section ok
variable {P : Program} {x : VS} {ids : Nat → Nat} {n : NN} {H : Hp} {o : Oper}
theorem argsV_eq : ∀ {l : List Operand} {vs : List SV}, argsV P x.l l = some vs → argsD (evS P (x.ss ids n H)) l = some (vs.map (den ids))
  | [], vs, h => by simp only [argsV, Option.some.injEq] at h; subst h; rfl
  | y :: l, vs, h => by
    simp only [argsV] at h
    split at h
    · rename_i v hv
      split at h
      · rename_i r hr
        cases h
        simp only [argsD, evV_eq P x ids n H hv, argsV_eq hr, List.map_cons]
      · cases h
    · cases h
theorem genV_ok {v : SV} (h : genV P x o = .val v) : opD P H (evS P (x.ss ids n H)) o = some (.val (den ids v) H) := by
  unfold genV at h
  split at h
  · rename_i hp
    split at h
    · rename_i hc
      split at h
      · rename_i u H1 he
        cases h
        have hev : ∀ y ∈ o.op.operands, evS P (x.ss ids n H) y = evPlain P x.l y := by
          intro y hy
          have := List.all_eq_true.1 hp y (by simpa using hy)
          unfold isPlain at this
          unfold evPlain
          split at this
          · rename_i w hw
            exact evV_eq P x ids n H hw
          · cases this
        obtain ⟨w, k1, k2⟩ := pure_ok hc he
        cases k1
        rw [opD_congr hev]; exact k2 H
      · cases h
    · cases h
  · cases h
theorem genV_only {v : OV} (h : genV P x o = v) : (∃ w, v = .val w) ∨ v = .hard ∨ v = .stuck := by
  unfold genV at h
  repeat' split at h
  all_goals (subst h; simp)
theorem genV_enter {f : FuncId} {args : List SV} (h : genV P x o = .enter f args) : False := by
  unfold genV at h
  repeat' split at h
  all_goals cases h
theorem enterD_any {f : FuncId} {r : Res} (h : enterD P f [] = some r) (args : List Value) : enterD P f args = some (.enter f args) := by
  unfold enterD at h ⊢
  split at h
  · rename_i fn hf
    split at h
    · cases h
    · rename_i hc
      simp only [hc]; rfl
  · cases h
theorem goD_any {H : Hp} {f : FuncId} {r : Res} (h : enterD P f [] = some r) (args : List Value) : goD P H f args = some (.enter f args) := by
  unfold goD; rw [enterD_any h]
theorem svOf_den {c : SV0} : den ids (svOf c) = den0 ids c := by cases c <;> rfl
theorem sv0_den : ∀ {a : SV} {c : SV0}, sv0 a = some c → den ids a = den0 ids c
  | .v _, _, h => by simp only [sv0, Option.some.injEq] at h; subst h; rfl
  | .p _ _, _, h => by simp only [sv0, Option.some.injEq] at h; subst h; rfl
theorem sv0s_den : ∀ {l : List SV} {c : List SV0}, sv0s l = some c → l.map (den ids) = c.map (den0 ids)
  | [], c, h => by simp only [sv0s, Option.some.injEq] at h; subst h; rfl
  | a :: l, c, h => by
    simp only [sv0s] at h
    split at h
    · rename_i v hv
      split at h
      · rename_i r hr
        cases h
        rw [List.map_cons, List.map_cons, sv0_den hv, sv0s_den hr]
      · cases h
    · cases h
theorem callV_enter {c : Call} {f : FuncId} {args : List SV} (ho : o.op = .call c) (h : callV P x o c = .enter f args) : opD P H (evS P (x.ss ids n H)) o = some (.enter f (args.map (den ids))) := by
  unfold callV at h
  split at h
  · rename_i g hcal
    split at h
    · cases h
    · rename_i axs ha
      have ha := argsV_eq (ids := ids) (n := n) (H := H) ha
      split at h
      · rename_i f' first caps hg
        split at h
        · rename_i r hr
          cases h
          have := evV_eq P x ids n H hg
          unfold opD; simp only [ho]; unfold callD; simp only [ha, hcal, this, den]
          rw [goD_any hr]
          simp [List.map_append, den, Function.comp_def]
        · cases h
      · rename_i f' caps hg
        split at h
        · rename_i r hr
          cases h
          have := evV_eq P x ids n H hg
          unfold opD; simp only [ho]; unfold callD; simp only [ha, hcal, this, den]
          rw [goD_any hr]
          simp [List.map_append, svOf_den, Function.comp_def]
        · cases h
      · cases h
  · split at h
    · split at h <;> cases h
    · cases h
  · cases h
theorem callV_val {c : Call} {v : SV} (ho : o.op = .call c) (h : callV P x o c = .val v) : opD P H (evS P (x.ss ids n H)) o = some (.val (den ids v) H) := by
  unfold callV at h
  split at h
  · split at h
    · cases h
    · split at h
      · split at h <;> cases h
      · split at h <;> cases h
      · cases h
  · rename_i hcal
    split at h
    · rename_i u ha
      have ha := argsV_eq (ids := ids) (n := n) (H := H) ha
      split at h
      · rename_i r hr
        cases h
        have hl : lenOfD P H c.argTypes u = some r := by
          unfold lenV at hr
          unfold lenOfD
          split at hr
          · rename_i t ht
            rw [ht]; simp only
            split at hr <;> first | (cases hr; done) | (cases hr; first | rfl | (rename_i h1; simp only [h1]) | simp_all)
          · cases hr
        unfold opD; simp only [ho]; unfold callD; simp only [ha, hcal, List.map_cons, List.map_nil, den, hl, Option.map_some]
      · cases h
    · cases h
  · cases h
end ok
section frames
variable {P : Program} {B0 B : Hp} {cl : Bool} {kB : Nat} {loc : List (List Value)} {ids : Nat → Nat} {H : Hp}
theorem Fr.alloc (fr : Fr B0 B cl kB loc ids H) (cs : List Value) : Fr B0 B cl kB (loc ++ [cs]) (fun k => if k = loc.length then H.next else ids k) (H.alloc (.cells .fix cs)) := by
  refine ⟨fr.ext0.alloc _, by rw [Hp.next_alloc]; have := fr.nextB; omega, fun h => (fr.extB h).alloc _, ?_, ?_, ?_⟩
  · intro k c h
    by_cases hk : k = loc.length
    · subst hk
      simp only [List.getElem?_append_right (Nat.le_refl _), Nat.sub_self, List.getElem?_cons_zero, Option.some.injEq] at h
      subst h
      simp only [if_true]
      rw [Hp.get_alloc, if_pos rfl]
      exact ⟨rfl, by rw [Hp.next_alloc]; omega, fr.ext0.next⟩
    · have hlt : k < loc.length := by
        have := (List.getElem?_eq_some_iff.1 h).1
        simp at this; omega
      rw [List.getElem?_append_left hlt] at h
      obtain ⟨h1, h2, h3⟩ := fr.here k c h
      simp only [if_neg hk]
      rw [Hp.get_alloc, if_neg (by omega)]
      exact ⟨h1, by rw [Hp.next_alloc]; omega, h3⟩
  · intro k hk hkB
    simp only [List.length_append, List.length_cons, List.length_nil] at hk
    by_cases e : k = loc.length
    · subst e; simp only [if_true]; exact fr.nextB
    · simp only [if_neg e]; exact fr.old k (by omega) hkB
  · intro j k hj hk e
    simp only [List.length_append, List.length_cons, List.length_nil] at hj hk
    have hlt : ∀ i, i < loc.length → ids i < H.next := fun i hi => (fr.here i loc[i] (List.getElem?_eq_getElem hi)).2.1
    by_cases e1 : j = loc.length
    · by_cases e2 : k = loc.length
      · omega
      · simp only [if_pos e1, if_neg e2] at e
        have := hlt k (by omega); omega
    · by_cases e2 : k = loc.length
      · simp only [if_neg e1, if_pos e2] at e
        have := hlt j (by omega); omega
      · simp only [if_neg e1, if_neg e2] at e
        exact fr.inj j k (by omega) (by omega) e
theorem Fr.store (fr : Fr B0 B cl kB loc ids H) {k : Nat} {cs cs' : List Value} (hk : loc[k]? = some cs) : Fr B0 B (match Nat.ble kB k with | true => cl | false => false) kB (loc.set k cs') ids (H.put (ids k) (.cells .fix cs')) := by
  obtain ⟨h1, h2, h3⟩ := fr.here k cs hk
  have hlt := (List.getElem?_eq_some_iff.1 hk).1
  refine ⟨fr.ext0.put _ h3, fr.nextB, ?_, ?_, ?_, ?_⟩
  · intro hc
    cases hb : Nat.ble kB k with
    | true =>
      rw [hb] at hc
      exact (fr.extB hc).put _ (fr.old k hlt (Nat.le_of_ble_eq_true hb))
    | false => rw [hb] at hc; cases hc
  · intro j c h
    rw [Hp.get_put]
    by_cases e : j = k
    · subst e
      rw [List.getElem?_set_self hlt] at h; cases h
      rw [if_pos rfl]; exact ⟨rfl, h2, h3⟩
    · rw [List.getElem?_set_ne (fun q => e q.symm)] at h
      obtain ⟨g1, g2, g3⟩ := fr.here j c h
      have hj := (List.getElem?_eq_some_iff.1 h).1
      rw [if_neg (fun q => e (fr.inj j k hj hlt q))]
      exact ⟨g1, g2, g3⟩
  · intro j hj; rw [List.length_set] at hj; exact fr.old j hj
  · intro i j hi hj; rw [List.length_set] at hi hj; exact fr.inj i j hi hj
end frames
end Go.Det
