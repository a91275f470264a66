import Derived.Test.YtppedainpmjbmaaGreatDoorD62
set_option linter.unusedSimpArgs false
set_option linter.unusedVariables false
namespace Go.Det.Fast
open Go Go.Det Go.RowKit

/-! ## 70. The evaluator once more, by recursors with closed cases: what the kernel unfolds is copied whole, and closed cases are not copied -/
abbrev S := Option ES
/-! ### Forcing -/
noncomputable def nfS : Nat → (Nat → S) → S := @Nat.rec (fun _ => (Nat → S) → S) (fun k => k 0) (fun m _ k => k (Nat.succ m))
theorem nfS_eq (n : Nat) (k : Nat → S) : nfS n k = k n := by cases n <;> rfl
noncomputable def inS : Int → (Int → S) → S := @Int.rec (fun _ => (Int → S) → S) (fun m k => nfS m fun m => k (.ofNat m)) (fun m k => nfS m fun m => k (.negSucc m))
theorem inS_eq (n : Int) (k : Int → S) : inS n k = k n := by cases n <;> simp only [inS, nfS_eq]
noncomputable def bfS : Bool → (Bool → S) → S := @Bool.rec (fun _ => (Bool → S) → S) (fun k => k false) (fun k => k true)
theorem bfS_eq (n : Bool) (k : Bool → S) : bfS n k = k n := by cases n <;> rfl
noncomputable def afS : Addr → (Addr → S) → S := @Addr.rec (fun _ => (Addr → S) → S) (fun b o s k => nfS b fun b => nfS o fun o => k ⟨b, o, s⟩)
theorem afS_eq (a : Addr) (k : Addr → S) : afS a k = k a := by cases a; simp only [afS, nfS_eq]
noncomputable def ofS : Option Addr → (Option Addr → S) → S := @Option.rec Addr (fun _ => (Option Addr → S) → S) (fun k => k none) (fun a k => afS a fun a => k (some a))
theorem ofS_eq (a : Option Addr) (k : Option Addr → S) : ofS a k = k a := by cases a <;> simp only [ofS, afS_eq]

noncomputable def vf1S : Value → (Value → S) → S := @Value.rec (fun _ => (Value → S) → S) (fun _ => PUnit) (fun _ => PUnit)
    (fun b => fun k => bfS b fun b => k (.bool b))
    (fun d n => fun k => inS n fun n => k (.int d n))
    (fun q1 q2 => fun z => z (.float q1 q2))
    (fun q1 q2 q3 => fun z => z (.complex q1 q2 q3))
    (fun q1 => fun z => z (.string q1))
    (fun a => fun k => ofS a fun a => k (.pointer a))
    (fun a l c => fun k => ofS a fun a => nfS l fun l => nfS c fun c => k (.slice a l c))
    (fun q1 => fun z => z (.map q1))
    (fun q1 => fun z => z (.chan q1))
    (fun q1 q2 q3 _ _ => fun z => z (.func q1 q2 q3))
    (fun z => z (.nilFunc))
    (fun q1 q2 _ => fun z => z (.iface q1 q2))
    (fun z => z (.nilIface))
    (fun q1 _ => fun z => z (.agg q1))
    (fun q1 _ => fun z => z (.tuple q1))
    (fun _ _ => ⟨⟩) ⟨⟩ (fun _ _ _ _ => ⟨⟩)
theorem vf1S_eq (v : Value) (k : Value → S) : vf1S v k = k v := by cases v <;> simp only [vf1S, bfS_eq, inS_eq, ofS_eq, nfS_eq]
noncomputable def lfS : List Value → (List Value → S) → S := @List.rec Value (fun _ => (List Value → S) → S) (fun k => k []) (fun v _ ih k => vf1S v fun v => ih fun l => k (v :: l))
theorem lfS_eq : ∀ (l : List Value) (k : List Value → S), lfS l k = k l
  | [], k => rfl
  | v :: l, k => by
    show vf1S v (fun v => lfS l fun l => k (v :: l)) = _
    rw [vf1S_eq, lfS_eq l]
noncomputable def arS : Array Value → (List Value → S) → S := @Array.rec Value (fun _ => (List Value → S) → S) (fun l k => lfS l k)
noncomputable def vfS : Value → (Value → S) → S := @Value.rec (fun _ => (Value → S) → S) (fun _ => PUnit) (fun _ => PUnit)
    (fun b => fun k => bfS b fun b => k (.bool b))
    (fun d n => fun k => inS n fun n => k (.int d n))
    (fun q1 q2 => fun z => z (.float q1 q2))
    (fun q1 q2 q3 => fun z => z (.complex q1 q2 q3))
    (fun q1 => fun z => z (.string q1))
    (fun a => fun k => ofS a fun a => k (.pointer a))
    (fun a l c => fun k => ofS a fun a => nfS l fun l => nfS c fun c => k (.slice a l c))
    (fun q1 => fun z => z (.map q1))
    (fun q1 => fun z => z (.chan q1))
    (fun q1 q2 q3 _ _ => fun z => z (.func q1 q2 q3))
    (fun z => z (.nilFunc))
    (fun q1 q2 _ => fun z => z (.iface q1 q2))
    (fun z => z (.nilIface))
    (fun c _ => fun k => arS c fun l => k (.agg ⟨l⟩))
    (fun c _ => fun k => arS c fun l => k (.tuple ⟨l⟩))
    (fun _ _ => ⟨⟩) ⟨⟩ (fun _ _ _ _ => ⟨⟩)
theorem vfS_eq (v : Value) (k : Value → S) : vfS v k = k v := by
  cases v
  case agg c => obtain ⟨l⟩ := c; exact lfS_eq l _
  case tuple c => obtain ⟨l⟩ := c; exact lfS_eq l _
  all_goals simp only [vfS, bfS_eq, inS_eq, ofS_eq, nfS_eq]

noncomputable def mkVL : T Value → Option Value → T Value → T Value := @T.rec Value (fun _ => Option Value → T Value → T Value) (fun v r => .node v .nil r) (fun a b c _ _ v r => .node v (.node a b c) r)
noncomputable def mkVR : T Value → Option Value → T Value → T Value := @T.rec Value (fun _ => Option Value → T Value → T Value) (fun v l => .node v l .nil) (fun a b c _ _ v l => .node v l (.node a b c))
theorem mkVL_eq (v : Option Value) (l r : T Value) : mkVL l v r = .node v l r := by cases l <;> rfl
theorem mkVR_eq (v : Option Value) (l r : T Value) : mkVR r v l = .node v l r := by cases r <;> rfl
abbrev UV := T Value → Nat → T Value
noncomputable def getV : T Value → Nat → Option Value :=
  @T.rec Value (fun _ => Nat → Option Value) (fun _ => none)
    (fun v _ _ gl gr n => @Bool.rec (fun _ => Option Value) (@Bool.rec (fun _ => Option Value) (gr (Nat.sub (Nat.div n 2) 1)) (gl (Nat.div n 2)) (Nat.beq (Nat.mod n 2) 1)) v (Nat.beq n 0))
theorem getV_eq (t : T Value) : ∀ n, getV t n = t.get n := by
  induction t with
  | nil => intro n; rfl
  | node v l r hl hr =>
    intro n
    show @Bool.rec (fun _ => Option Value) (@Bool.rec (fun _ => Option Value) (getV r (Nat.sub (Nat.div n 2) 1)) (getV l (Nat.div n 2)) (Nat.beq (Nat.mod n 2) 1)) v (Nat.beq n 0) = _
    rw [hl, hr, T.get.eq_2]
    cases Nat.beq n 0 with
    | true => rfl
    | false =>
      show @Bool.rec (fun _ => Option Value) (r.get (n / 2 - 1)) (l.get (n / 2)) (Nat.beq (n % 2) 1) = match Nat.beq (n % 2) 1 with | true => l.get (n / 2) | false => r.get (n / 2 - 1)
      cases Nat.beq (n % 2) 1 <;> rfl
noncomputable def rootV : T Value → Option Value → T Value := @T.rec Value (fun _ => Option Value → T Value) (fun x => .node x .nil .nil) (fun _ l r _ _ x => .node x l r)
noncomputable def oddV : T Value → UV → Nat → T Value := @T.rec Value (fun _ => UV → Nat → T Value) (fun ih n => mkVL (ih .nil n) none .nil) (fun v l r _ _ ih n => mkVL (ih l n) v r)
noncomputable def evenV : T Value → UV → Nat → T Value := @T.rec Value (fun _ => UV → Nat → T Value) (fun ih n => mkVR (ih .nil n) none .nil) (fun v l r _ _ ih n => mkVR (ih r n) v l)
noncomputable def upV : Nat → Option Value → UV :=
  @Nat.rec (fun _ => Option Value → UV) (fun _ t _ => t)
    (fun _ ih x t n => @Bool.rec (fun _ => T Value) (@Bool.rec (fun _ => T Value) (evenV t (ih x) (Nat.sub (Nat.div n 2) 1)) (oddV t (ih x) (Nat.div n 2)) (Nat.beq (Nat.mod n 2) 1)) (rootV t x) (Nat.beq n 0))
theorem upV_eq (x : Option Value) : ∀ f t n, upV f x t n = T.upd x f t n
  | 0, t, n => rfl
  | f + 1, t, n => by
    show @Bool.rec (fun _ => T Value) (@Bool.rec (fun _ => T Value) (evenV t (upV f x) (n / 2 - 1)) (oddV t (upV f x) (n / 2)) (Nat.beq (n % 2) 1)) (rootV t x) (Nat.beq n 0) = _
    rw [show upV f x = T.upd x f from funext fun t => funext fun n => upV_eq x f t n]
    unfold T.upd
    cases t <;> cases Nat.beq n 0 <;> first | rfl | (cases Nat.beq (n % 2) 1 <;> simp only [oddV, evenV, mkVL_eq, mkVR_eq, T.mkL_eq, T.mkR_eq])
noncomputable def setV (t : T Value) (n : Nat) (x : Option Value) : T Value := upV (Nat.succ n) x t n
theorem setV_eq (t : T Value) (n : Nat) (x : Option Value) : setV t n x = t.set n x := upV_eq x _ t n

noncomputable def mkBL : T Blk → Option Blk → T Blk → T Blk := @T.rec Blk (fun _ => Option Blk → T Blk → T Blk) (fun v r => .node v .nil r) (fun a b c _ _ v r => .node v (.node a b c) r)
noncomputable def mkBR : T Blk → Option Blk → T Blk → T Blk := @T.rec Blk (fun _ => Option Blk → T Blk → T Blk) (fun v l => .node v l .nil) (fun a b c _ _ v l => .node v l (.node a b c))
theorem mkBL_eq (v : Option Blk) (l r : T Blk) : mkBL l v r = .node v l r := by cases l <;> rfl
theorem mkBR_eq (v : Option Blk) (l r : T Blk) : mkBR r v l = .node v l r := by cases r <;> rfl
abbrev UB := T Blk → Nat → T Blk
noncomputable def getB : T Blk → Nat → Option Blk :=
  @T.rec Blk (fun _ => Nat → Option Blk) (fun _ => none)
    (fun v _ _ gl gr n => @Bool.rec (fun _ => Option Blk) (@Bool.rec (fun _ => Option Blk) (gr (Nat.sub (Nat.div n 2) 1)) (gl (Nat.div n 2)) (Nat.beq (Nat.mod n 2) 1)) v (Nat.beq n 0))
theorem getB_eq (t : T Blk) : ∀ n, getB t n = t.get n := by
  induction t with
  | nil => intro n; rfl
  | node v l r hl hr =>
    intro n
    show @Bool.rec (fun _ => Option Blk) (@Bool.rec (fun _ => Option Blk) (getB r (Nat.sub (Nat.div n 2) 1)) (getB l (Nat.div n 2)) (Nat.beq (Nat.mod n 2) 1)) v (Nat.beq n 0) = _
    rw [hl, hr, T.get.eq_2]
    cases Nat.beq n 0 with
    | true => rfl
    | false =>
      show @Bool.rec (fun _ => Option Blk) (r.get (n / 2 - 1)) (l.get (n / 2)) (Nat.beq (n % 2) 1) = match Nat.beq (n % 2) 1 with | true => l.get (n / 2) | false => r.get (n / 2 - 1)
      cases Nat.beq (n % 2) 1 <;> rfl
noncomputable def rootB : T Blk → Option Blk → T Blk := @T.rec Blk (fun _ => Option Blk → T Blk) (fun x => .node x .nil .nil) (fun _ l r _ _ x => .node x l r)
noncomputable def oddB : T Blk → UB → Nat → T Blk := @T.rec Blk (fun _ => UB → Nat → T Blk) (fun ih n => mkBL (ih .nil n) none .nil) (fun v l r _ _ ih n => mkBL (ih l n) v r)
noncomputable def evenB : T Blk → UB → Nat → T Blk := @T.rec Blk (fun _ => UB → Nat → T Blk) (fun ih n => mkBR (ih .nil n) none .nil) (fun v l r _ _ ih n => mkBR (ih r n) v l)
noncomputable def upB : Nat → Option Blk → UB :=
  @Nat.rec (fun _ => Option Blk → UB) (fun _ t _ => t)
    (fun _ ih x t n => @Bool.rec (fun _ => T Blk) (@Bool.rec (fun _ => T Blk) (evenB t (ih x) (Nat.sub (Nat.div n 2) 1)) (oddB t (ih x) (Nat.div n 2)) (Nat.beq (Nat.mod n 2) 1)) (rootB t x) (Nat.beq n 0))
theorem upB_eq (x : Option Blk) : ∀ f t n, upB f x t n = T.upd x f t n
  | 0, t, n => rfl
  | f + 1, t, n => by
    show @Bool.rec (fun _ => T Blk) (@Bool.rec (fun _ => T Blk) (evenB t (upB f x) (n / 2 - 1)) (oddB t (upB f x) (n / 2)) (Nat.beq (n % 2) 1)) (rootB t x) (Nat.beq n 0) = _
    rw [show upB f x = T.upd x f from funext fun t => funext fun n => upB_eq x f t n]
    unfold T.upd
    cases t <;> cases Nat.beq n 0 <;> first | rfl | (cases Nat.beq (n % 2) 1 <;> simp only [oddB, evenB, mkBL_eq, mkBR_eq, T.mkL_eq, T.mkR_eq])
noncomputable def setB (t : T Blk) (n : Nat) (x : Option Blk) : T Blk := upB (Nat.succ n) x t n
theorem setB_eq (t : T Blk) (n : Nat) (x : Option Blk) : setB t n x = t.set n x := upB_eq x _ t n

/-! ### Slots -/
noncomputable def evK : Operand → T Value → Program → Option Value := @Operand.rec (fun _ => T Value → Program → Option Value)
  (fun t s _ => getV s t) (fun v _ _ => @Bool.rec (fun _ => Option Value) none (some v) (flat v)) (fun g _ P => @Bool.rec (fun _ => Option Value) none (some (.pointer (some ⟨g, 0, none⟩))) (Nat.blt g P.globals.size)) (fun f _ _ => some (.func (.func f) ⟨[]⟩ ⟨[]⟩))
noncomputable def evF (P : Program) (s : ES) : Ev := fun x => evK x s.t P
theorem evF_eq (P : Program) (s : ES) : evF P s = evE P s := by
  funext x
  cases x with
  | tmp t => exact getV_eq _ _
  | const v => show @Bool.rec (fun _ => Option Value) none (some v) (flat v) = match flat v with | true => some v | false => none; cases flat v <;> rfl
  | global g => show @Bool.rec (fun _ => Option Value) none (some (.pointer (some ⟨g, 0, none⟩))) (Nat.blt g P.globals.size) = match Nat.blt g P.globals.size with | true => some (.pointer (some ⟨g, 0, none⟩)) | false => none; cases Nat.blt g P.globals.size <;> rfl
  | func f => rfl
abbrev DF := List (Value × List Value)
noncomputable def tfS : T Value → Nat → Hp → DF → Bool → S := @T.rec Value (fun _ => Nat → Hp → DF → Bool → S) (fun n H d k => some ⟨.nil, n, H, d, k⟩) (fun v l r _ _ n H d k => some ⟨.node v l r, n, H, d, k⟩)
theorem tfS_eq (t : T Value) (n : Nat) (H : Hp) (d : DF) (k : Bool) : tfS t n H d k = some ⟨t, n, H, d, k⟩ := by cases t <;> rfl
noncomputable def htS : T Blk → Nat → Nat → (Hp → S) → S := @T.rec Blk (fun _ => Nat → Nat → (Hp → S) → S) (fun n lo k => nfS n fun n => nfS lo fun lo => k ⟨.nil, n, lo⟩) (fun v l r _ _ n lo k => nfS n fun n => nfS lo fun lo => k ⟨.node v l r, n, lo⟩)
theorem htS_eq (t : T Blk) (n lo : Nat) (k : Hp → S) : htS t n lo k = k ⟨t, n, lo⟩ := by cases t <;> simp only [htS, nfS_eq]
noncomputable def hfS : Hp → (Hp → S) → S := @Hp.rec (fun _ => (Hp → S) → S) (fun t n lo k => htS t n lo k)
theorem hfS_eq (H : Hp) (k : Hp → S) : hfS H k = k H := by obtain ⟨t, n, lo⟩ := H; exact htS_eq t n lo k
noncomputable def putT : Bool → T Value → Nat → DF → Bool → Nat → Value → Hp → S := @Bool.rec (fun _ => T Value → Nat → DF → Bool → Nat → Value → Hp → S)
  (fun _ _ _ _ _ _ _ => none) (fun t0 n df dk t v H => vfS v fun v => hfS H fun H => tfS (setV t0 t (some v)) n H df dk)
noncomputable def putD : Option Tmp → T Value → Nat → DF → Bool → Value → Hp → S := @Option.rec Tmp (fun _ => T Value → Nat → DF → Bool → Value → Hp → S)
  (fun t0 n df dk _ H => hfS H fun H => some ⟨t0, n, H, df, dk⟩) (fun t t0 n df dk v H => putT (Nat.blt t n) t0 n df dk t v H)
noncomputable def putX : ES → Option Tmp → Value → Hp → S := @ES.rec (fun _ => Option Tmp → Value → Hp → S) (fun t0 n _ df dk d v H => putD d t0 n df dk v H)
noncomputable def putF (s : ES) (d : Option Tmp) (v : Value) (H : Hp) : Option ES := putX s d v H
theorem putF_eq (s : ES) (d : Option Tmp) (v : Value) (H : Hp) : putF s d v H = putE s d v H := by
  obtain ⟨t0, n, H0, df, dk⟩ := s
  unfold putE
  cases d with
  | none => simp only [hforce_eq]; exact hfS_eq _ _
  | some t =>
    show putT (Nat.blt t n) t0 n df dk t v H = _
    simp only
    cases Nat.blt t n with
    | false => rfl
    | true => simp only [putT, vfS_eq, hfS_eq, tfS_eq, vforce_eq, hforce_eq, tforce_eq, setV_eq]

/-! ### Operations -/
abbrev R := Option Res
noncomputable def oVal : Option Value → Hp → R := @Option.rec Value (fun _ => Hp → R) (fun _ => none) (fun v H => some (.val v H))
noncomputable def oMv : Option (Value × Hp) → R := @Option.rec (Value × Hp) (fun _ => R) none (@Prod.rec Value Hp (fun _ => R) fun v H => some (.val v H))
noncomputable def oHv : Option Hp → R := @Option.rec Hp (fun _ => R) none fun H => some (.val undef H)
theorem oVal_m (x : Option Value) (H : Hp) : oVal x H = match x with | some v => some (.val v H) | none => none := by cases x <;> rfl
theorem oHv_m (x : Option Hp) : oHv x = match x with | some H => some (.val undef H) | none => none := by cases x <;> rfl

noncomputable def lstG : List Value → Nat → Option Value := @List.rec Value (fun _ => Nat → Option Value) (fun _ => none) (fun v _ ih n => @Nat.rec (fun _ => Option Value) (some v) (fun m _ => ih m) n)
theorem lstG_eq : ∀ (l : List Value) (n : Nat), lstG l n = l[n]?
  | [], n => by cases n <;> rfl
  | v :: l, 0 => rfl
  | v :: l, n + 1 => by
    show lstG l n = _
    rw [lstG_eq l n]; simp
noncomputable def ldA : Option Nat → Nat → List Value → Option Value := @Option.rec Nat (fun _ => Nat → List Value → Option Value) (fun _ _ => none)
  (fun n o cs => @Bool.rec (fun _ => Option Value) none (some (.agg ⟨(cs.drop o).take n⟩)) (Nat.ble (Nat.add o n) cs.length))
noncomputable def ldK : Option Bool → Program → TypeId → Nat → List Value → Option Value := @Option.rec Bool (fun _ => Program → TypeId → Nat → List Value → Option Value) (fun _ _ _ _ => none)
  (@Bool.rec (fun _ => Program → TypeId → Nat → List Value → Option Value) (fun _ _ o cs => lstG cs o) (fun P t o cs => ldA (sizeD P t) o cs))
noncomputable def ldB : Option Blk → Program → TypeId → Nat → Option Value := @Option.rec Blk (fun _ => Program → TypeId → Nat → Option Value) (fun _ _ _ => none)
  (@Blk.rec (fun _ => Program → TypeId → Nat → Option Value) (fun _ cs P t o => ldK (isAggD P t) P t o cs) (fun _ _ _ _ _ => none) (fun _ _ _ _ _ => none) (fun _ _ _ _ => none) (fun _ _ _ => none))
noncomputable def ldSp : Option Nat → Hp → Program → TypeId → Nat → Nat → Option Value := @Option.rec Nat (fun _ => Hp → Program → TypeId → Nat → Nat → Option Value) (fun H P t b o => ldB (getB H.t b) P t o) (fun _ _ _ _ _ _ => none)
noncomputable def ldAd : Option Addr → Hp → Program → TypeId → Option Value := @Option.rec Addr (fun _ => Hp → Program → TypeId → Option Value) (fun _ _ _ => none) (@Addr.rec (fun _ => Hp → Program → TypeId → Option Value) fun b o s H P t => ldSp s H P t b o)
noncomputable def ldV : Value → Hp → Program → TypeId → Option Value := @Value.rec (fun _ => Hp → Program → TypeId → Option Value) (fun _ => PUnit) (fun _ => PUnit)
    (fun q1 => fun _ _ _ => none)
    (fun q1 q2 => fun _ _ _ => none)
    (fun q1 q2 => fun _ _ _ => none)
    (fun q1 q2 q3 => fun _ _ _ => none)
    (fun q1 => fun _ _ _ => none)
    (fun a => ldAd a)
    (fun q1 q2 q3 => fun _ _ _ => none)
    (fun q1 => fun _ _ _ => none)
    (fun q1 => fun _ _ _ => none)
    (fun q1 q2 q3 _ _ => fun _ _ _ => none)
    (fun _ _ _ => none)
    (fun q1 q2 _ => fun _ _ _ => none)
    (fun _ _ _ => none)
    (fun q1 _ => fun _ _ _ => none)
    (fun q1 _ => fun _ _ _ => none)
    (fun _ _ => ⟨⟩) ⟨⟩ (fun _ _ _ _ => ⟨⟩)
theorem ldV_eq (P : Program) (H : Hp) (t : TypeId) (v : Value) : ldV v H P t = loadD P H t v := by
  cases v
  case pointer a =>
    cases a with
    | none => rfl
    | some a =>
      obtain ⟨b, o, s⟩ := a
      cases s with
      | some s => rfl
      | none =>
        show ldB (getB H.t b) P t o = _
        rw [getB_eq]
        simp only [loadD, Hp.get]
        cases H.t.get b with
        | none => rfl
        | some x =>
          cases x <;> try rfl
          rename_i m cs
          show ldK (isAggD P t) P t o cs = _
          simp only
          cases isAggD P t with
          | none => rfl
          | some q =>
            cases q with
            | false => exact lstG_eq _ _
            | true =>
              show ldA (sizeD P t) o cs = _
              simp only
              cases sizeD P t with
              | none => rfl
              | some n =>
                show @Bool.rec (fun _ => Option Value) none (some (.agg ⟨(cs.drop o).take n⟩)) (Nat.ble (o + n) cs.length) = _
                simp only
                by_cases h : o + n ≤ cs.length
                · rw [if_pos h, Nat.ble_eq_true_of_le h]
                · rw [if_neg h, show Nat.ble (o + n) cs.length = false from by rw [Bool.eq_false_iff]; intro k; exact h (Nat.le_of_ble_eq_true k)]
  all_goals rfl
noncomputable def oLoad : Option Value → Program → Hp → TypeId → R := @Option.rec Value (fun _ => Program → Hp → TypeId → R) (fun _ _ _ => none) (fun v P H t => oVal (ldV v H P t) H)

def fldsD (P : Program) (t : TypeId) (f : Nat) : Option Field := match P.underlying t with
  | some (.struct fields) => fields[f]?
  | _ => none
noncomputable def faN : Option Nat → Nat → Nat → Nat → Option Value := @Option.rec Nat (fun _ => Nat → Nat → Nat → Option Value) (fun _ _ _ => none)
  (fun n b o off => @Bool.rec (fun _ => Option Value) (some (.pointer (some ⟨b, Nat.add o off, none⟩))) none (Nat.beq n 0))
noncomputable def faF : Option Field → Program → Nat → Nat → Option Value := @Option.rec Field (fun _ => Program → Nat → Nat → Option Value) (fun _ _ _ => none) (fun fd P b o => faN (sizeD P fd.type) b o fd.offset)
noncomputable def faSp : Option Nat → Nat → Nat → Program → TypeId → Nat → Option Value := @Option.rec Nat (fun _ => Nat → Nat → Program → TypeId → Nat → Option Value)
  (fun b o P t f => faF (fldsD P t f) P b o) (fun _ _ _ _ _ _ => none)
noncomputable def faAd : Option Addr → Program → TypeId → Nat → Option Value := @Option.rec Addr (fun _ => Program → TypeId → Nat → Option Value) (fun _ _ _ => none) (@Addr.rec (fun _ => Program → TypeId → Nat → Option Value) fun b o s P t f => faSp s b o P t f)
noncomputable def faV : Value → Program → TypeId → Nat → Option Value := @Value.rec (fun _ => Program → TypeId → Nat → Option Value) (fun _ => PUnit) (fun _ => PUnit)
    (fun q1 => fun _ _ _ => none)
    (fun q1 q2 => fun _ _ _ => none)
    (fun q1 q2 => fun _ _ _ => none)
    (fun q1 q2 q3 => fun _ _ _ => none)
    (fun q1 => fun _ _ _ => none)
    (fun a => faAd a)
    (fun q1 q2 q3 => fun _ _ _ => none)
    (fun q1 => fun _ _ _ => none)
    (fun q1 => fun _ _ _ => none)
    (fun q1 q2 q3 _ _ => fun _ _ _ => none)
    (fun _ _ _ => none)
    (fun q1 q2 _ => fun _ _ _ => none)
    (fun _ _ _ => none)
    (fun q1 _ => fun _ _ _ => none)
    (fun q1 _ => fun _ _ _ => none)
    (fun _ _ => ⟨⟩) ⟨⟩ (fun _ _ _ _ => ⟨⟩)
theorem faV_eq (P : Program) (t : TypeId) (v : Value) (f : Nat) : faV v P t f = fieldAddrD P t v f := by
  unfold fieldAddrD
  cases v
  case pointer a =>
    cases a with
    | none => show none = _; split <;> first | rfl | (rename_i h; cases h)
    | some a =>
      obtain ⟨b, o, s⟩ := a
      cases s with
      | some s => show none = _; split <;> first | rfl | (rename_i h; cases h)
      | none =>
        show faF (fldsD P t f) P b o = _
        unfold fldsD
        cases P.underlying t with
        | none => rfl
        | some d =>
          cases d <;> try rfl
          rename_i fields
          simp only
          cases fields[f]? with
          | none => rfl
          | some fd =>
            show faN (sizeD P fd.type) b o fd.offset = _
            simp only
            cases sizeD P fd.type with
            | none => rfl
            | some n =>
              show @Bool.rec (fun _ => Option Value) (some (.pointer (some ⟨b, o + fd.offset, none⟩))) none (Nat.beq n 0) = _
              cases n <;> rfl
  all_goals (show none = _; split <;> first | rfl | (rename_i h; cases h))
noncomputable def oFieldAddr : Option Value → Program → Hp → TypeId → Nat → R := @Option.rec Value (fun _ => Program → Hp → TypeId → Nat → R) (fun _ _ _ _ => none) (fun v P H t f => oVal (faV v P t f) H)

abbrev OH := Option Hp
noncomputable def nfH : Nat → (Nat → OH) → OH := @Nat.rec (fun _ => (Nat → OH) → OH) (fun k => k 0) (fun m _ k => k (Nat.succ m))
theorem nfH_eq (n : Nat) (k : Nat → OH) : nfH n k = k n := by cases n <;> rfl
noncomputable def inH : Int → (Int → OH) → OH := @Int.rec (fun _ => (Int → OH) → OH) (fun m k => nfH m fun m => k (.ofNat m)) (fun m k => nfH m fun m => k (.negSucc m))
theorem inH_eq (n : Int) (k : Int → OH) : inH n k = k n := by cases n <;> simp only [inH, nfH_eq]
noncomputable def bfH : Bool → (Bool → OH) → OH := @Bool.rec (fun _ => (Bool → OH) → OH) (fun k => k false) (fun k => k true)
theorem bfH_eq (n : Bool) (k : Bool → OH) : bfH n k = k n := by cases n <;> rfl
noncomputable def afH : Addr → (Addr → OH) → OH := @Addr.rec (fun _ => (Addr → OH) → OH) (fun b o s k => nfH b fun b => nfH o fun o => k ⟨b, o, s⟩)
theorem afH_eq (a : Addr) (k : Addr → OH) : afH a k = k a := by cases a; simp only [afH, nfH_eq]
noncomputable def ofH : Option Addr → (Option Addr → OH) → OH := @Option.rec Addr (fun _ => (Option Addr → OH) → OH) (fun k => k none) (fun a k => afH a fun a => k (some a))
theorem ofH_eq (a : Option Addr) (k : Option Addr → OH) : ofH a k = k a := by cases a <;> simp only [ofH, afH_eq]
noncomputable def vf1H : Value → (Value → OH) → OH := @Value.rec (fun _ => (Value → OH) → OH) (fun _ => PUnit) (fun _ => PUnit)
    (fun b => fun k => bfH b fun b => k (.bool b))
    (fun d n => fun k => inH n fun n => k (.int d n))
    (fun q1 q2 => fun z => z (.float q1 q2))
    (fun q1 q2 q3 => fun z => z (.complex q1 q2 q3))
    (fun q1 => fun z => z (.string q1))
    (fun a => fun k => ofH a fun a => k (.pointer a))
    (fun a l c => fun k => ofH a fun a => nfH l fun l => nfH c fun c => k (.slice a l c))
    (fun q1 => fun z => z (.map q1))
    (fun q1 => fun z => z (.chan q1))
    (fun q1 q2 q3 _ _ => fun z => z (.func q1 q2 q3))
    (fun z => z (.nilFunc))
    (fun q1 q2 _ => fun z => z (.iface q1 q2))
    (fun z => z (.nilIface))
    (fun q1 _ => fun z => z (.agg q1))
    (fun q1 _ => fun z => z (.tuple q1))
    (fun _ _ => ⟨⟩) ⟨⟩ (fun _ _ _ _ => ⟨⟩)
theorem vf1H_eq (v : Value) (k : Value → OH) : vf1H v k = k v := by cases v <;> simp only [vf1H, bfH_eq, inH_eq, ofH_eq, nfH_eq]
noncomputable def lfH : List Value → (List Value → OH) → OH := @List.rec Value (fun _ => (List Value → OH) → OH) (fun k => k []) (fun v _ ih k => vf1H v fun v => ih fun l => k (v :: l))
theorem lfH_eq : ∀ (l : List Value) (k : List Value → OH), lfH l k = k l
  | [], k => rfl
  | v :: l, k => by
    show vf1H v (fun v => lfH l fun l => k (v :: l)) = _
    rw [vf1H_eq, lfH_eq l]
noncomputable def cellsK : Mode → Hp → Nat → List Value → OH := fun m H b cs => lfH cs fun cs => some ⟨setB H.t b (some (.cells m cs)), H.next, min H.lo b⟩
theorem cellsK_eq (m : Mode) (H : Hp) (b : Nat) (cs : List Value) : cellsK m H b cs = some (H.put b (.cells m cs)) := by
  simp only [cellsK, lfH_eq, Hp.put, blkS_eq, setB_eq]
noncomputable def allocK : Mode → Hp → List Value → OH := fun m H cs => lfH cs fun cs => some ⟨setB H.t H.next (some (.cells m cs)), Nat.succ H.next, H.lo⟩
theorem allocK_eq (m : Mode) (H : Hp) (cs : List Value) : allocK m H cs = some (H.alloc (.cells m cs)) := by
  simp only [allocK, lfH_eq, Hp.alloc, blkS_eq, setB_eq]
/-! stores -/
noncomputable def lsetG : List Value → Nat → Value → List Value := @List.rec Value (fun _ => Nat → Value → List Value) (fun _ _ => []) (fun a l ih n v => @Nat.rec (fun _ => List Value) (v :: l) (fun m _ => a :: ih m v) n)
theorem lsetG_eq : ∀ (l : List Value) (n : Nat) (v : Value), lsetG l n v = l.set n v
  | [], n, v => by simp [lsetG]
  | a :: l, 0, v => rfl
  | a :: l, n + 1, v => by
    show a :: lsetG l n v = _
    rw [lsetG_eq l]; rfl
noncomputable def wrG : List Value → List Value → Nat → List Value := @List.rec Value (fun _ => List Value → Nat → List Value) (fun cs _ => cs) (fun v _ ih cs o => ih (lsetG cs o v) (Nat.succ o))
theorem wrG_eq : ∀ (vs cs : List Value) (o : Nat), wrG vs cs o = wr cs o vs
  | [], cs, o => rfl
  | v :: vs, cs, o => by
    show wrG vs (lsetG cs o v) (Nat.succ o) = _
    rw [wrG_eq vs, lsetG_eq, wr]
noncomputable def one1 : Value → Bool := @Value.rec (fun _ => Bool) (fun _ => PUnit) (fun _ => PUnit)
    (fun q1 => true)
    (fun q1 q2 => true)
    (fun q1 q2 => true)
    (fun q1 q2 q3 => true)
    (fun q1 => true)
    (fun q1 => true)
    (fun q1 q2 q3 => true)
    (fun q1 => true)
    (fun q1 => true)
    (fun q1 q2 q3 _ _ => true)
    (true)
    (fun q1 q2 _ => true)
    (true)
    (fun c _ => false)
    (fun c _ => false)
    (fun _ _ => ⟨⟩) ⟨⟩ (fun _ _ _ _ => ⟨⟩)
noncomputable def cellsL : Value → List Value := @Value.rec (fun _ => List Value) (fun _ => PUnit) (fun _ => PUnit)
    (fun q1 => [(.bool q1)])
    (fun q1 q2 => [(.int q1 q2)])
    (fun q1 q2 => [(.float q1 q2)])
    (fun q1 q2 q3 => [(.complex q1 q2 q3)])
    (fun q1 => [(.string q1)])
    (fun q1 => [(.pointer q1)])
    (fun q1 q2 q3 => [(.slice q1 q2 q3)])
    (fun q1 => [(.map q1)])
    (fun q1 => [(.chan q1)])
    (fun q1 q2 q3 _ _ => [(.func q1 q2 q3)])
    ([(.nilFunc)])
    (fun q1 q2 _ => [(.iface q1 q2)])
    ([(.nilIface)])
    (fun c _ => c.toList)
    (fun q1 _ => [(.tuple q1)])
    (fun _ _ => ⟨⟩) ⟨⟩ (fun _ _ _ _ => ⟨⟩)
theorem one1_eq (v : Value) : one1 v = v.oneCell' := by cases v <;> rfl
theorem cellsL_eq (v : Value) : cellsL v = v.cells.toList := by cases v <;> rfl
noncomputable def all1 : List Value → Bool := @List.rec Value (fun _ => Bool) true (fun v _ ih => @Bool.rec (fun _ => Bool) false ih (one1 v))
theorem all1_eq : ∀ l : List Value, all1 l = l.all fun v => v.oneCell'
  | [] => rfl
  | v :: l => by
    show @Bool.rec (fun _ => Bool) false (all1 l) (one1 v) = _
    rw [one1_eq, all1_eq l]
    simp only [List.all_cons]
    cases v.oneCell' <;> rfl
noncomputable def lenG : List Value → Nat := @List.rec Value (fun _ => Nat) 0 (fun _ _ ih => Nat.succ ih)
theorem lenG_eq : ∀ l : List Value, lenG l = l.length
  | [] => rfl
  | v :: l => by show Nat.succ (lenG l) = _; rw [lenG_eq l]; rfl
noncomputable def modeK : Mode → Bool := @Mode.rec (fun _ => Bool) false true (fun _ _ => true) (fun _ => true)
noncomputable def szK : Option Nat → Nat → Bool := @Option.rec Nat (fun _ => Nat → Bool) (fun _ => false) (fun n m => Nat.beq n m)
noncomputable def an : Bool → Bool → Bool := @Bool.rec (fun _ => Bool → Bool) (fun _ => false) (fun b => b)
noncomputable def stOk : Bool → Mode → Hp → Nat → List Value → OH := @Bool.rec (fun _ => Mode → Hp → Nat → List Value → OH) (fun _ _ _ _ => none) (fun m H b cs => cellsK m H b cs)
noncomputable def stB : Option Blk → Hp → Program → TypeId → Nat → Nat → List Value → OH := @Option.rec Blk (fun _ => Hp → Program → TypeId → Nat → Nat → List Value → OH) (fun _ _ _ _ _ _ => none)
  (@Blk.rec (fun _ => Hp → Program → TypeId → Nat → Nat → List Value → OH) (fun m cs H P t b o l => stOk (an (modeK m) (an (szK (sizeD P t) (lenG l)) (an (Nat.ble (Nat.add o (lenG l)) (lenG cs)) (all1 l)))) m H b (wrG l cs o))
    (fun _ _ _ _ _ _ _ _ => none) (fun _ _ _ _ _ _ _ _ => none) (fun _ _ _ _ _ _ _ => none) (fun _ _ _ _ _ _ => none))
noncomputable def stSp : Option Nat → Nat → Nat → Hp → Program → TypeId → List Value → OH := @Option.rec Nat (fun _ => Nat → Nat → Hp → Program → TypeId → List Value → OH) (fun b o H P t l => stB (getB H.t b) H P t b o l) (fun _ _ _ _ _ _ _ => none)
noncomputable def stAd : Option Addr → Hp → Program → TypeId → List Value → OH := @Option.rec Addr (fun _ => Hp → Program → TypeId → List Value → OH) (fun _ _ _ _ => none) (@Addr.rec (fun _ => Hp → Program → TypeId → List Value → OH) fun b o s H P t l => stSp s b o H P t l)
noncomputable def stV : Value → Hp → Program → TypeId → List Value → OH := @Value.rec (fun _ => Hp → Program → TypeId → List Value → OH) (fun _ => PUnit) (fun _ => PUnit)
    (fun q1 => fun _ _ _ _ => none)
    (fun q1 q2 => fun _ _ _ _ => none)
    (fun q1 q2 => fun _ _ _ _ => none)
    (fun q1 q2 q3 => fun _ _ _ _ => none)
    (fun q1 => fun _ _ _ _ => none)
    (fun a => stAd a)
    (fun q1 q2 q3 => fun _ _ _ _ => none)
    (fun q1 => fun _ _ _ _ => none)
    (fun q1 => fun _ _ _ _ => none)
    (fun q1 q2 q3 _ _ => fun _ _ _ _ => none)
    (fun _ _ _ _ => none)
    (fun q1 q2 _ => fun _ _ _ _ => none)
    (fun _ _ _ _ => none)
    (fun q1 _ => fun _ _ _ _ => none)
    (fun q1 _ => fun _ _ _ _ => none)
    (fun _ _ => ⟨⟩) ⟨⟩ (fun _ _ _ _ => ⟨⟩)
theorem an_iff {a b : Bool} : an a b = true ↔ a = true ∧ b = true := by cases a <;> simp [an]
theorem stV_eq (P : Program) (H : Hp) (t : TypeId) (a v : Value) : stV a H P t (cellsL v) = storeD P H t a v := by
  rw [cellsL_eq]
  cases a
  case pointer a =>
    cases a with
    | none => rfl
    | some a =>
      obtain ⟨b, o, s⟩ := a
      cases s with
      | some s => rfl
      | none =>
        show stB (getB H.t b) H P t b o v.cells.toList = _
        rw [getB_eq]
        simp only [storeD, Hp.get]
        cases H.t.get b with
        | none => rfl
        | some x =>
          cases x <;> try rfl
          rename_i m cs
          show stOk (an (modeK m) (an (szK (sizeD P t) (lenG v.cells.toList)) (an (Nat.ble (o + lenG v.cells.toList) (lenG cs)) (all1 v.cells.toList)))) m H b (wrG v.cells.toList cs o) = _
          rw [lenG_eq, lenG_eq, all1_eq, wrG_eq]
          have hl : v.cells.toList.length = v.cells.size := by simp
          have hm : modeK m = true ↔ m ≠ .old := by cases m <;> simp [modeK]
          have hs : szK (sizeD P t) v.cells.toList.length = true ↔ sizeD P t = some v.cells.size := by
            rw [hl]
            cases sizeD P t with
            | none => simp [szK]
            | some n =>
              show Nat.beq n v.cells.size = true ↔ _
              rw [Nat.beq_eq]; simp
          simp only
          by_cases h : m ≠ .old ∧ sizeD P t = some v.cells.size ∧ o + v.cells.size ≤ cs.length ∧ (v.cells.toList.all fun x => x.oneCell') = true
          · rw [if_pos h, an_iff.2 ⟨hm.2 h.1, an_iff.2 ⟨hs.2 h.2.1, an_iff.2 ⟨by rw [hl]; exact Nat.ble_eq_true_of_le h.2.2.1, h.2.2.2⟩⟩⟩]
            exact cellsK_eq _ _ _ _
          · rw [if_neg h]
            have : an (modeK m) (an (szK (sizeD P t) v.cells.toList.length) (an (Nat.ble (o + v.cells.toList.length) cs.length) (v.cells.toList.all fun v => v.oneCell'))) = false := by
              rw [Bool.eq_false_iff]
              intro k
              obtain ⟨k1, k2⟩ := an_iff.1 k
              obtain ⟨k2, k3⟩ := an_iff.1 k2
              obtain ⟨k3, k4⟩ := an_iff.1 k3
              rw [hl] at k3
              exact h ⟨hm.1 k1, hs.1 k2, Nat.le_of_ble_eq_true k3, k4⟩
            rw [this]; rfl
  all_goals rfl
noncomputable def oSt2 : Option Value → Value → Program → Hp → TypeId → R := @Option.rec Value (fun _ => Value → Program → Hp → TypeId → R) (fun _ _ _ _ => none) (fun v a P H t => oHv (stV a H P t (cellsL v)))
noncomputable def oStore : Option Value → Option Value → Program → Hp → TypeId → R := @Option.rec Value (fun _ => Option Value → Program → Hp → TypeId → R) (fun _ _ _ _ => none) (fun a x P H t => oSt2 x a P H t)
/-! new variables -/
noncomputable def alR : OH → Nat → R := @Option.rec Hp (fun _ => Nat → R) (fun _ => none) (fun H b => some (.val (.pointer (some ⟨b, 0, none⟩)) H))
noncomputable def oBox : Option Value → Hp → R := @Option.rec Value (fun _ => Hp → R) (fun _ => none) (fun v H => alR (allocK .fix H (cellsL v)) H.next)
noncomputable def oAl2 : Bool → Program → Hp → TypeId → Value → R := @Bool.rec (fun _ => Program → Hp → TypeId → Value → R) (fun _ _ _ _ => none) (fun P H t z => alR (allocK (bM P t) H (cellsL z)) H.next)
noncomputable def oAlloc : Option Value → Program → Hp → TypeId → R := @Option.rec Value (fun _ => Program → Hp → TypeId → R) (fun _ _ _ => none) (fun z P H t => oAl2 (flat z) P H t z)
/-! places of elements -/
def slElD (P : Program) (t : TypeId) : Option Nat := match P.underlying t with
  | some (.slice e) => sizeD P e
  | _ => none
noncomputable def iaB : Bool → Nat → Nat → Nat → Nat → Option Value := @Bool.rec (fun _ => Nat → Nat → Nat → Nat → Option Value) (fun _ _ _ _ => none) (fun b o m n => some (.pointer (some ⟨b, Nat.add o (Nat.mul m n), none⟩)))
noncomputable def iaI : Int → Nat → Nat → Nat → Nat → Option Value := @Int.rec (fun _ => Nat → Nat → Nat → Nat → Option Value) (fun m b o l n => iaB (Nat.blt m l) b o m n) (fun _ _ _ _ _ => none)
noncomputable def iaN : Option Nat → Int → Nat → Nat → Nat → Option Value := @Option.rec Nat (fun _ => Int → Nat → Nat → Nat → Option Value) (fun _ _ _ _ => none) (fun n i b o l => iaI i b o l n)
noncomputable def iaX : Value → Program → TypeId → Nat → Nat → Nat → Option Value := @Value.rec (fun _ => Program → TypeId → Nat → Nat → Nat → Option Value) (fun _ => PUnit) (fun _ => PUnit)
    (fun q1 => fun _ _ _ _ _ => none)
    (fun k i => fun P t b o l => iaN (slElD P t) i b o l)
    (fun q1 q2 => fun _ _ _ _ _ => none)
    (fun q1 q2 q3 => fun _ _ _ _ _ => none)
    (fun q1 => fun _ _ _ _ _ => none)
    (fun q1 => fun _ _ _ _ _ => none)
    (fun q1 q2 q3 => fun _ _ _ _ _ => none)
    (fun q1 => fun _ _ _ _ _ => none)
    (fun q1 => fun _ _ _ _ _ => none)
    (fun q1 q2 q3 _ _ => fun _ _ _ _ _ => none)
    (fun _ _ _ _ _ => none)
    (fun q1 q2 _ => fun _ _ _ _ _ => none)
    (fun _ _ _ _ _ => none)
    (fun q1 _ => fun _ _ _ _ _ => none)
    (fun q1 _ => fun _ _ _ _ _ => none)
    (fun _ _ => ⟨⟩) ⟨⟩ (fun _ _ _ _ => ⟨⟩)
noncomputable def iaSp : Option Nat → Nat → Nat → Nat → Program → TypeId → Value → Option Value := @Option.rec Nat (fun _ => Nat → Nat → Nat → Program → TypeId → Value → Option Value) (fun b o l P t i => iaX i P t b o l) (fun _ _ _ _ _ _ _ => none)
noncomputable def iaAd : Option Addr → Nat → Program → TypeId → Value → Option Value := @Option.rec Addr (fun _ => Nat → Program → TypeId → Value → Option Value) (fun _ _ _ _ => none) (@Addr.rec (fun _ => Nat → Program → TypeId → Value → Option Value) fun b o s l P t i => iaSp s b o l P t i)
noncomputable def iaV : Value → Program → TypeId → Value → Option Value := @Value.rec (fun _ => Program → TypeId → Value → Option Value) (fun _ => PUnit) (fun _ => PUnit)
    (fun q1 => fun P t i => indexAddrD P t (.bool q1) i)
    (fun q1 q2 => fun P t i => indexAddrD P t (.int q1 q2) i)
    (fun q1 q2 => fun P t i => indexAddrD P t (.float q1 q2) i)
    (fun q1 q2 q3 => fun P t i => indexAddrD P t (.complex q1 q2 q3) i)
    (fun q1 => fun P t i => indexAddrD P t (.string q1) i)
    (fun q1 => fun P t i => indexAddrD P t (.pointer q1) i)
    (fun a l c => iaAd a l)
    (fun q1 => fun P t i => indexAddrD P t (.map q1) i)
    (fun q1 => fun P t i => indexAddrD P t (.chan q1) i)
    (fun q1 q2 q3 _ _ => fun P t i => indexAddrD P t (.func q1 q2 q3) i)
    (fun P t i => indexAddrD P t (.nilFunc) i)
    (fun q1 q2 _ => fun P t i => indexAddrD P t (.iface q1 q2) i)
    (fun P t i => indexAddrD P t (.nilIface) i)
    (fun q1 _ => fun P t i => indexAddrD P t (.agg q1) i)
    (fun q1 _ => fun P t i => indexAddrD P t (.tuple q1) i)
    (fun _ _ => ⟨⟩) ⟨⟩ (fun _ _ _ _ => ⟨⟩)
theorem iaV_eq (P : Program) (t : TypeId) (x i : Value) : iaV x P t i = indexAddrD P t x i := by
  cases x
  case slice a l c =>
    unfold indexAddrD
    cases a with
    | none => show none = _; split <;> first | rfl | (rename_i h; cases h)
    | some a =>
      obtain ⟨b, o, s⟩ := a
      cases s with
      | some s => show none = _; split <;> first | rfl | (rename_i h; cases h)
      | none =>
        cases i
        case int k i =>
          show iaN (slElD P t) i b o l = _
          unfold slElD
          cases P.underlying t with
          | none => rfl
          | some d =>
            cases d <;> try rfl
            rename_i e
            simp only
            cases sizeD P e with
            | none => rfl
            | some n =>
              show iaI i b o l n = _
              simp only
              cases i with
              | negSucc m => rw [if_neg (by omega)]; rfl
              | ofNat m =>
                show iaB (Nat.blt m l) b o m n = _
                by_cases h : m < l
                · rw [if_pos (by constructor <;> simp <;> omega), show Nat.blt m l = true from by rw [Nat.blt_eq]; exact h]; rfl
                · rw [if_neg (by simp; omega), show Nat.blt m l = false from by rw [Bool.eq_false_iff]; intro k; rw [Nat.blt_eq] at k; exact h k]; rfl
        all_goals (show none = _; split <;> first | rfl | (rename_i h; cases h))
  all_goals rfl
noncomputable def oIA2 : Option Value → Value → Program → Hp → TypeId → R := @Option.rec Value (fun _ => Value → Program → Hp → TypeId → R) (fun _ _ _ _ => none) (fun i v P H t => oVal (iaV v P t i) H)
noncomputable def oIndexAddr : Option Value → Option Value → Program → Hp → TypeId → R := @Option.rec Value (fun _ => Option Value → Program → Hp → TypeId → R) (fun _ _ _ _ => none) (fun v i P H t => oIA2 i v P H t)
noncomputable def oI2 : Option Value → Value → Program → Hp → TypeId → R := @Option.rec Value (fun _ => Value → Program → Hp → TypeId → R) (fun _ _ _ _ => none) (fun i v P H t => oVal (indexD P t v i) H)
noncomputable def oIndex : Option Value → Option Value → Program → Hp → TypeId → R := @Option.rec Value (fun _ => Option Value → Program → Hp → TypeId → R) (fun _ _ _ _ => none) (fun v i P H t => oI2 i v P H t)
noncomputable def oField : Option Value → Program → Hp → TypeId → Nat → R := @Option.rec Value (fun _ => Program → Hp → TypeId → Nat → R) (fun _ _ _ _ => none) (fun v P H t f => oVal (fieldD P t v f) H)

noncomputable def oExt : Value → Nat → Option Value := @Value.rec (fun _ => Nat → Option Value) (fun _ => PUnit) (fun _ => PUnit)
    (fun q1 => fun _ => none)
    (fun q1 q2 => fun _ => none)
    (fun q1 q2 => fun _ => none)
    (fun q1 q2 q3 => fun _ => none)
    (fun q1 => fun _ => none)
    (fun q1 => fun _ => none)
    (fun q1 q2 q3 => fun _ => none)
    (fun q1 => fun _ => none)
    (fun q1 => fun _ => none)
    (fun q1 q2 q3 _ _ => fun _ => none)
    (fun _ => none)
    (fun q1 q2 _ => fun _ => none)
    (fun _ => none)
    (fun q1 _ => fun _ => none)
    (fun c _ => fun i => lstG c.toList i)
    (fun _ _ => ⟨⟩) ⟨⟩ (fun _ _ _ _ => ⟨⟩)
noncomputable def oExtract : Option Value → Nat → Hp → R := @Option.rec Value (fun _ => Nat → Hp → R) (fun _ _ => none) (fun v i H => oVal (oExt v i) H)
/-! numbers -/
noncomputable def natW : Nat → Int := fun m => @Bool.rec (fun _ => Int) (IntKind.i64.wrap (.ofNat m)) (.ofNat m) (Nat.blt m 9223372036854775808)
theorem natW_eq (m : Nat) : natW m = IntKind.i64.wrap (m : Int) := by
  unfold natW
  cases h : Nat.blt m 9223372036854775808 with
  | false => rfl
  | true =>
    rw [Nat.blt_eq] at h
    show (m : Int) = _
    rw [show IntKind.i64.wrap (m : Int) = if (m : Int) % 18446744073709551616 ≥ 9223372036854775808 then (m : Int) % 18446744073709551616 - 18446744073709551616 else (m : Int) % 18446744073709551616 from by unfold IntKind.wrap; simp [IntKind.bits, IntKind.signed]]
    rw [if_neg (by omega)]
    omega
noncomputable def addI : Int → Int → Int := @Int.rec (fun _ => Int → Int) (fun m => @Int.rec (fun _ => Int) (fun n => natW (Nat.add m n)) (fun n => IntKind.i64.wrap (.ofNat m + .negSucc n))) (fun m b => IntKind.i64.wrap (.negSucc m + b))
theorem addI_eq (a b : Int) : addI a b = IntKind.i64.wrap (a + b) := by
  cases a <;> cases b <;> first | rfl | exact natW_eq _
noncomputable def addK : IntKind → Int → Int → Int := @IntKind.rec (fun _ => Int → Int → Int) (fun a b => IntKind.i8.wrap (a + b)) (fun a b => IntKind.i16.wrap (a + b)) (fun a b => IntKind.i32.wrap (a + b)) addI (fun a b => IntKind.u8.wrap (a + b)) (fun a b => IntKind.u16.wrap (a + b)) (fun a b => IntKind.u32.wrap (a + b)) (fun a b => IntKind.u64.wrap (a + b))
theorem addK_eq (k : IntKind) (a b : Int) : addK k a b = k.wrap (a + b) := by cases k <;> first | rfl | exact addI_eq a b
noncomputable def eqI : Int → Int → Bool := @Int.rec (fun _ => Int → Bool) (fun m => @Int.rec (fun _ => Bool) (fun n => Nat.beq m n) (fun _ => false)) (fun m => @Int.rec (fun _ => Bool) (fun _ => false) (fun n => Nat.beq m n))
theorem eqI_eq (a b : Int) : eqI a b = (a == b) := by
  cases a <;> cases b
  case ofNat.ofNat m n => show Nat.beq m n = _; rw [Bool.eq_iff_iff]; simp [Nat.beq_eq]; omega
  case negSucc.negSucc m n => show Nat.beq m n = _; rw [Bool.eq_iff_iff]; simp [Nat.beq_eq]
  case ofNat.negSucc m n => show false = _; symm; rw [Bool.eq_false_iff]; simp only [ne_eq, beq_iff_eq]; intro h; cases h
  case negSucc.ofNat m n => show false = _; symm; rw [Bool.eq_false_iff]; simp only [ne_eq, beq_iff_eq]; intro h; cases h
noncomputable def ltI : Int → Int → Bool := @Int.rec (fun _ => Int → Bool) (fun m => @Int.rec (fun _ => Bool) (fun n => Nat.blt m n) (fun _ => false)) (fun m => @Int.rec (fun _ => Bool) (fun _ => true) (fun n => Nat.blt n m))
theorem ltI_eq (a b : Int) : ltI a b = decide (a < b) := by
  rw [Bool.eq_iff_iff, decide_eq_true_eq]
  cases a <;> cases b
  case ofNat.ofNat m n => show Nat.blt m n = true ↔ _; rw [Nat.blt_eq]; simp
  case negSucc.negSucc m n => show Nat.blt n m = true ↔ _; rw [Nat.blt_eq]; omega
  case ofNat.negSucc m n => show false = true ↔ _; simp; omega
  case negSucc.ofNat m n => show true = true ↔ _; simp; omega
noncomputable def noB : Bool → Bool := @Bool.rec (fun _ => Bool) true false
theorem noB_eq (b : Bool) : noB b = !b := by cases b <;> rfl
noncomputable def ki : IntKind → Nat := @IntKind.rec (fun _ => Nat) 0 1 2 3 4 5 6 7
theorem ki_eq (k k' : IntKind) : Nat.beq (ki k) (ki k') = decide (k = k') := by cases k <;> cases k' <;> rfl
noncomputable def sm : Bool → Value → Option Value := @Bool.rec (fun _ => Value → Option Value) (fun _ => none) some
abbrev BI := IntKind → IntKind → Int → Int → Option Value
def bIold (op : BinOp) : BI := fun k k' a b => match op with
  | .shl | .shr => shiftD op k a b
  | _ => if k = k' then intD op k a b else none
noncomputable def bI : BinOp → BI := @BinOp.rec (fun _ => BI)
  (fun k k' a b => sm (Nat.beq (ki k) (ki k')) (.int k (addK k a b)))
  (bIold .sub)
  (bIold .mul)
  (bIold .quo)
  (bIold .rem)
  (bIold .and)
  (bIold .or)
  (bIold .xor)
  (bIold .shl)
  (bIold .shr)
  (bIold .andNot)
  (fun k k' a b => sm (Nat.beq (ki k) (ki k')) (.bool (eqI a b)))
  (fun k k' a b => sm (Nat.beq (ki k) (ki k')) (.bool (noB (eqI a b))))
  (fun k k' a b => sm (Nat.beq (ki k) (ki k')) (.bool (ltI a b)))
  (fun k k' a b => sm (Nat.beq (ki k) (ki k')) (.bool (noB (ltI b a))))
  (fun k k' a b => sm (Nat.beq (ki k) (ki k')) (.bool (ltI b a)))
  (fun k k' a b => sm (Nat.beq (ki k) (ki k')) (.bool (noB (ltI a b))))
theorem bI_eq (op : BinOp) (k k' : IntKind) (a b : Int) : bI op k k' a b = bIold op k k' a b := by
  have key : ∀ (x : Value), sm (Nat.beq (ki k) (ki k')) x = if k = k' then some x else none := by
    intro x; rw [ki_eq]; by_cases h : k = k' <;> simp [h, sm]
  cases op <;> first
    | rfl
    | (show sm (Nat.beq (ki k) (ki k')) (.int k (addK k a b)) = _; rw [key, addK_eq]; rfl)
    | (show sm (Nat.beq (ki k) (ki k')) (.bool (eqI a b)) = _; rw [key, eqI_eq]; rfl)
    | (show sm (Nat.beq (ki k) (ki k')) (.bool (noB (eqI a b))) = _; rw [key, noB_eq, eqI_eq]; rfl)
    | (show sm (Nat.beq (ki k) (ki k')) (.bool (ltI a b)) = _; rw [key, ltI_eq]; rfl)
    | (show sm (Nat.beq (ki k) (ki k')) (.bool (ltI b a)) = _; rw [key, ltI_eq]; rfl)
    | (show sm (Nat.beq (ki k) (ki k')) (.bool (noB (ltI b a))) = _; rw [key, noB_eq, ltI_eq]; simp only [bIold, intD]; rw [show decide (a ≤ b) = !decide (b < a) from by rw [Bool.eq_iff_iff]; simp])
    | (show sm (Nat.beq (ki k) (ki k')) (.bool (noB (ltI a b))) = _; rw [key, noB_eq, ltI_eq]; simp only [bIold, intD]; rw [show decide (a ≥ b) = !decide (a < b) from by rw [Bool.eq_iff_iff]; simp])
noncomputable def bin2 : Value → IntKind → Int → Program → Ev → Oper → BinOp → TypeId → Option Value := @Value.rec (fun _ => IntKind → Int → Program → Ev → Oper → BinOp → TypeId → Option Value) (fun _ => PUnit) (fun _ => PUnit)
    (fun q1 => fun k a P ev o op t => binD P ev o op t (.int k a) (.bool q1))
    (fun k' b => fun k a _ _ _ op _ => bI op k k' a b)
    (fun q1 q2 => fun k a P ev o op t => binD P ev o op t (.int k a) (.float q1 q2))
    (fun q1 q2 q3 => fun k a P ev o op t => binD P ev o op t (.int k a) (.complex q1 q2 q3))
    (fun q1 => fun k a P ev o op t => binD P ev o op t (.int k a) (.string q1))
    (fun q1 => fun k a P ev o op t => binD P ev o op t (.int k a) (.pointer q1))
    (fun q1 q2 q3 => fun k a P ev o op t => binD P ev o op t (.int k a) (.slice q1 q2 q3))
    (fun q1 => fun k a P ev o op t => binD P ev o op t (.int k a) (.map q1))
    (fun q1 => fun k a P ev o op t => binD P ev o op t (.int k a) (.chan q1))
    (fun q1 q2 q3 _ _ => fun k a P ev o op t => binD P ev o op t (.int k a) (.func q1 q2 q3))
    (fun k a P ev o op t => binD P ev o op t (.int k a) (.nilFunc))
    (fun q1 q2 _ => fun k a P ev o op t => binD P ev o op t (.int k a) (.iface q1 q2))
    (fun k a P ev o op t => binD P ev o op t (.int k a) (.nilIface))
    (fun q1 _ => fun k a P ev o op t => binD P ev o op t (.int k a) (.agg q1))
    (fun q1 _ => fun k a P ev o op t => binD P ev o op t (.int k a) (.tuple q1))
    (fun _ _ => ⟨⟩) ⟨⟩ (fun _ _ _ _ => ⟨⟩)
noncomputable def bin1 : Value → Value → Program → Ev → Oper → BinOp → TypeId → Option Value := @Value.rec (fun _ => Value → Program → Ev → Oper → BinOp → TypeId → Option Value) (fun _ => PUnit) (fun _ => PUnit)
    (fun q1 => fun y P ev o op t => binD P ev o op t (.bool q1) y)
    (fun k a => fun y => bin2 y k a)
    (fun q1 q2 => fun y P ev o op t => binD P ev o op t (.float q1 q2) y)
    (fun q1 q2 q3 => fun y P ev o op t => binD P ev o op t (.complex q1 q2 q3) y)
    (fun q1 => fun y P ev o op t => binD P ev o op t (.string q1) y)
    (fun q1 => fun y P ev o op t => binD P ev o op t (.pointer q1) y)
    (fun q1 q2 q3 => fun y P ev o op t => binD P ev o op t (.slice q1 q2 q3) y)
    (fun q1 => fun y P ev o op t => binD P ev o op t (.map q1) y)
    (fun q1 => fun y P ev o op t => binD P ev o op t (.chan q1) y)
    (fun q1 q2 q3 _ _ => fun y P ev o op t => binD P ev o op t (.func q1 q2 q3) y)
    (fun y P ev o op t => binD P ev o op t (.nilFunc) y)
    (fun q1 q2 _ => fun y P ev o op t => binD P ev o op t (.iface q1 q2) y)
    (fun y P ev o op t => binD P ev o op t (.nilIface) y)
    (fun q1 _ => fun y P ev o op t => binD P ev o op t (.agg q1) y)
    (fun q1 _ => fun y P ev o op t => binD P ev o op t (.tuple q1) y)
    (fun _ _ => ⟨⟩) ⟨⟩ (fun _ _ _ _ => ⟨⟩)
theorem bin1_eq (P : Program) (ev : Ev) (o : Oper) (op : BinOp) (t : TypeId) (x y : Value) : bin1 x y P ev o op t = binD P ev o op t x y := by
  cases x <;> try rfl
  cases y <;> try rfl
  show bI op _ _ _ _ = _
  rw [bI_eq]; rfl
noncomputable def oBin2 : Option Value → Value → Program → Hp → Ev → Oper → BinOp → TypeId → R := @Option.rec Value (fun _ => Value → Program → Hp → Ev → Oper → BinOp → TypeId → R) (fun _ _ _ _ _ _ _ => none) (fun y x P H ev o op t => oVal (bin1 x y P ev o op t) H)
noncomputable def oBin : Option Value → Option Value → Program → Hp → Ev → Oper → BinOp → TypeId → R := @Option.rec Value (fun _ => Option Value → Program → Hp → Ev → Oper → BinOp → TypeId → R) (fun _ _ _ _ _ _ _ => none) (fun x y P H ev o op t => oBin2 y x P H ev o op t)
noncomputable def oPk : Bool → Option Value → Option Value → Hp → R := @Bool.rec (fun _ => Option Value → Option Value → Hp → R) (fun _ b H => oVal b H) (fun a _ H => oVal a H)
noncomputable def oPkV : Value → Option Value → Option Value → Hp → R := @Value.rec (fun _ => Option Value → Option Value → Hp → R) (fun _ => PUnit) (fun _ => PUnit)
    (fun c => oPk c)
    (fun q1 q2 => fun _ _ _ => none)
    (fun q1 q2 => fun _ _ _ => none)
    (fun q1 q2 q3 => fun _ _ _ => none)
    (fun q1 => fun _ _ _ => none)
    (fun q1 => fun _ _ _ => none)
    (fun q1 q2 q3 => fun _ _ _ => none)
    (fun q1 => fun _ _ _ => none)
    (fun q1 => fun _ _ _ => none)
    (fun q1 q2 q3 _ _ => fun _ _ _ => none)
    (fun _ _ _ => none)
    (fun q1 q2 _ => fun _ _ _ => none)
    (fun _ _ _ => none)
    (fun q1 _ => fun _ _ _ => none)
    (fun q1 _ => fun _ _ _ => none)
    (fun _ _ => ⟨⟩) ⟨⟩ (fun _ _ _ _ => ⟨⟩)
noncomputable def oPick : Option Value → Option Value → Option Value → Hp → R := @Option.rec Value (fun _ => Option Value → Option Value → Hp → R) (fun _ _ _ => none) oPkV
/-! calls -/
noncomputable def cGo2 : R → Program → Hp → FuncId → List Value → R := @Option.rec Res (fun _ => Program → Hp → FuncId → List Value → R) (fun P H f args => externD P H f args) (fun r _ _ _ _ => some r)
def cValD (P : Program) (H : Hp) (args : List Value) (v : Value) : R := match v with
  | .func (.func f) ⟨first⟩ ⟨captured⟩ => goD P H f (first ++ args ++ captured)
  | .func (.yield l) ⟨[]⟩ ⟨[]⟩ => some (.yield l args)
  | _ => none
noncomputable def apG : List Value → List Value → List Value := @List.rec Value (fun _ => List Value → List Value) (fun l => l) (fun a _ ih l => a :: ih l)
theorem apG_eq : ∀ (a b : List Value), apG a b = a ++ b
  | [], b => rfl
  | x :: a, b => by show x :: apG a b = _; rw [apG_eq a b]; rfl
noncomputable def cFn : Fn → List Value → List Value → Program → Hp → List Value → R := @Fn.rec (fun _ => List Value → List Value → Program → Hp → List Value → R)
  (fun f x y P H args => cGo2 (enterD P f (apG (apG x args) y)) P H f (apG (apG x args) y))
  (fun _ _ _ _ _ _ => none)
  (fun _ _ _ _ _ _ _ => none)
  (fun _ _ _ _ _ _ _ _ _ => none)
  (fun l x y _ _ args => @List.rec Value (fun _ => R) (@List.rec Value (fun _ => R) (some (.yield l args)) (fun _ _ _ => none) y) (fun _ _ _ => none) x)
noncomputable def cVal : Value → Program → Hp → List Value → R := @Value.rec (fun _ => Program → Hp → List Value → R) (fun _ => PUnit) (fun _ => PUnit)
    (fun q1 => fun _ _ _ => none)
    (fun q1 q2 => fun _ _ _ => none)
    (fun q1 q2 => fun _ _ _ => none)
    (fun q1 q2 q3 => fun _ _ _ => none)
    (fun q1 => fun _ _ _ => none)
    (fun q1 => fun _ _ _ => none)
    (fun q1 q2 q3 => fun _ _ _ => none)
    (fun q1 => fun _ _ _ => none)
    (fun q1 => fun _ _ _ => none)
    (fun f x y _ _ => fun P H args => cFn f x.toList y.toList P H args)
    (fun _ _ _ => none)
    (fun q1 q2 _ => fun _ _ _ => none)
    (fun _ _ _ => none)
    (fun q1 _ => fun _ _ _ => none)
    (fun q1 _ => fun _ _ _ => none)
    (fun _ _ => ⟨⟩) ⟨⟩ (fun _ _ _ _ => ⟨⟩)
theorem cVal_eq (P : Program) (H : Hp) (args : List Value) (v : Value) : cVal v P H args = cValD P H args v := by
  cases v <;> try rfl
  rename_i f x y
  obtain ⟨x⟩ := x
  obtain ⟨y⟩ := y
  cases f <;> first
    | rfl
    | (show cGo2 (enterD P _ (apG (apG x args) y)) P H _ (apG (apG x args) y) = _
       rw [apG_eq, apG_eq]
       simp only [cValD, goD]
       cases enterD P _ (x ++ args ++ y) <;> rfl)
    | (cases x <;> cases y <;> rfl)
noncomputable def cOV : Option Value → Program → Hp → List Value → R := @Option.rec Value (fun _ => Program → Hp → List Value → R) (fun _ _ _ => none) cVal
noncomputable def one_ : List Value → (Value → R) → R → R := @List.rec Value (fun _ => (Value → R) → R → R) (fun _ d => d) (fun v l _ k d => @List.rec Value (fun _ => R) (k v) (fun _ _ _ => d) l)
noncomputable def oVal1 : List Value → Value → Program → Hp → Array TypeId → R := @List.rec Value (fun _ => Value → Program → Hp → Array TypeId → R) (fun x P H ts => oVal (lenOfD P H ts x) H) (fun _ _ _ _ _ _ _ => none)
noncomputable def oApp2 : List Value → Value → Value → Program → Hp → Array TypeId → R := @List.rec Value (fun _ => Value → Value → Program → Hp → Array TypeId → R) (fun s x P H ts => oMv (appendD P H ts s x)) (fun _ _ _ _ _ _ _ _ => none)
noncomputable def oApp1 : List Value → Value → Program → Hp → Array TypeId → R := @List.rec Value (fun _ => Value → Program → Hp → Array TypeId → R) (fun _ _ _ _ => none) (fun x l _ s P H ts => oApp2 l s x P H ts)
noncomputable def cBi : Builtin → List Value → Program → Hp → Ev → Oper → Call → R := @Builtin.rec (fun _ => List Value → Program → Hp → Ev → Oper → Call → R)
  (fun args P H _ _ c => @List.rec Value (fun _ => R) none (fun x l _ => oApp1 l x P H c.argTypes) args)
  (fun _ P H ev o c => callD P H ev o c)
  (fun _ P H ev o c => callD P H ev o c)
  (fun _ P H ev o c => callD P H ev o c)
  (fun _ P H ev o c => callD P H ev o c)
  (fun _ P H ev o c => callD P H ev o c)
  (fun _ P H ev o c => callD P H ev o c)
  (fun _ P H ev o c => callD P H ev o c)
  (fun args P H _ _ c => @List.rec Value (fun _ => R) none (fun x l _ => oVal1 l x P H c.argTypes) args)
  (fun _ P H ev o c => callD P H ev o c)
  (fun _ P H ev o c => callD P H ev o c)
  (fun _ P H ev o c => callD P H ev o c)
  (fun _ P H ev o c => callD P H ev o c)
  (fun _ P H ev o c => callD P H ev o c)
  (fun _ P H ev o c => callD P H ev o c)
  (fun _ P H ev o c => callD P H ev o c)
  (fun _ P H ev o c => callD P H ev o c)
  (fun _ P H ev o c => callD P H ev o c)
  (fun _ P H ev o c => callD P H ev o c)
  (fun _ P H ev o c => callD P H ev o c)
  (fun _ P H ev o c => callD P H ev o c)
  (fun _ P H ev o c => callD P H ev o c)
  (fun _ P H ev o c => callD P H ev o c)
  (fun _ P H ev o c => callD P H ev o c)
  (fun _ P H ev o c => callD P H ev o c)
  (fun _ P H ev o c => callD P H ev o c)
noncomputable def cCal : Callee → List Value → Program → Hp → Ev → Oper → Call → R := @Callee.rec (fun _ => List Value → Program → Hp → Ev → Oper → Call → R)
  (fun f args P H ev _ _ => cOV (ev f) P H args) (fun _ _ _ P H ev o c => callD P H ev o c) cBi
noncomputable def cArgs : Option (List Value) → Program → Hp → Ev → Oper → Call → R := @Option.rec (List Value) (fun _ => Program → Hp → Ev → Oper → Call → R) (fun _ _ _ _ _ => none) (fun args P H ev o c => cCal c.callee args P H ev o c)
noncomputable def agc : Option (List Value) → Value → Option (List Value) := @Option.rec (List Value) (fun _ => Value → Option (List Value)) (fun _ => none) (fun l v => some (v :: l))
noncomputable def agv : Option Value → Option (List Value) → Option (List Value) := @Option.rec Value (fun _ => Option (List Value) → Option (List Value)) (fun _ => none) (fun v l => agc l v)
noncomputable def argsG : List Operand → Ev → Option (List Value) := @List.rec Operand (fun _ => Ev → Option (List Value)) (fun _ => some []) (fun x _ ih ev => agv (ev x) (ih ev))
theorem argsG_eq (ev : Ev) : ∀ l, argsG l ev = argsD ev l
  | [] => rfl
  | x :: l => by
    show agv (ev x) (argsG l ev) = _
    rw [argsG_eq ev l, argsD]
    cases ev x with
    | none => rfl
    | some v => cases argsD ev l <;> rfl
noncomputable def callF (P : Program) (H : Hp) (ev : Ev) (o : Oper) (c : Call) : R := cArgs (argsG c.args.toList ev) P H ev o c
theorem callF_eq (P : Program) (H : Hp) (ev : Ev) (o : Oper) (c : Call) : callF P H ev o c = callD P H ev o c := by
  obtain ⟨cal, ar, ts⟩ := c
  unfold callF
  rw [argsG_eq]
  cases h : argsD ev ar.toList with
  | none => unfold callD; simp only [h]; rfl
  | some args =>
    cases cal with
    | value f =>
      show cOV (ev f) P H args = _
      unfold callD
      simp only [h]
      cases ev f with
      | none => rfl
      | some v =>
        rw [show cOV (some v) P H args = cValD P H args v from cVal_eq P H args v]
        cases v <;> try rfl
        rename_i fn x y
        obtain ⟨x⟩ := x
        obtain ⟨y⟩ := y
        cases fn <;> first | rfl | (cases x <;> cases y <;> rfl)
    | invoke r n => rfl
    | builtin b =>
      show cBi b args P H ev o _ = _
      cases b <;> try rfl
      all_goals
        unfold callD
        simp only [h]
        match args with
        | [] => rfl
        | [a] => first | rfl | (show oVal (lenOfD P H ts a) H = (lenOfD P H ts a).map fun v => Res.val v H; cases lenOfD P H ts a <;> rfl) | skip
        | [a, b] => first | rfl | (show oMv (appendD P H ts a b) = (appendD P H ts a b).map fun x => Res.val x.1 x.2; cases appendD P H ts a b <;> rfl)
        | _ :: _ :: _ :: _ => rfl
abbrev OG := Program → Hp → Ev → Oper → R
noncomputable def opK : Op → OG := @Op.rec (fun _ => OG)
    (fun x => fun _ H ev _ => oVal (ev x) H)
    (fun x => fun _ H ev _ => oVal (ev x) H)
    (fun c a b => fun _ H ev _ => oPick (ev c) (ev a) (ev b) H)
    (fun t => fun P H _ _ => oAlloc (zeroD P t) P H t)
    (fun _ x => fun _ H ev _ => oBox (ev x) H)
    (fun _ _ => fun P H ev o => opD P H ev o)
    (fun _ _ _ => fun P H ev o => opD P H ev o)
    (fun _ _ _ _ => fun P H ev o => opD P H ev o)
    (fun t a => fun P H ev _ => oLoad (ev a) P H t)
    (fun t a x => fun P H ev _ => oStore (ev a) (ev x) P H t)
    (fun _ => fun P H ev o => opD P H ev o)
    (fun _ => fun P H ev o => opD P H ev o)
    (fun _ => fun P H ev o => opD P H ev o)
    (fun op t x y _ => fun P H ev o => oBin (ev x) (ev y) P H ev o op t)
    (fun _ _ _ => fun P H ev o => opD P H ev o)
    (fun _ _ _ => fun P H ev o => opD P H ev o)
    (fun _ _ => fun P H ev o => opD P H ev o)
    (fun _ _ => fun P H ev o => opD P H ev o)
    (fun _ _ _ => fun P H ev o => opD P H ev o)
    (fun _ _ => fun P H ev o => opD P H ev o)
    (fun _ _ => fun P H ev o => opD P H ev o)
    (fun _ _ _ => fun P H ev o => opD P H ev o)
    (fun _ _ _ _ _ => fun P H ev o => opD P H ev o)
    (fun t x f => fun P H ev _ => oFieldAddr (ev x) P H t f)
    (fun t x f => fun P H ev _ => oField (ev x) P H t f)
    (fun t x i => fun P H ev _ => oIndexAddr (ev x) (ev i) P H t)
    (fun t x i => fun P H ev _ => oIndex (ev x) (ev i) P H t)
    (fun _ _ _ _ => fun P H ev o => opD P H ev o)
    (fun _ _ _ _ => fun P H ev o => opD P H ev o)
    (fun _ _ _ => fun P H ev o => opD P H ev o)
    (fun _ _ _ _ => fun P H ev o => opD P H ev o)
    (fun _ _ => fun P H ev o => opD P H ev o)
    (fun _ _ => fun P H ev o => opD P H ev o)
    (fun _ => fun P H ev o => opD P H ev o)
    (fun _ _ _ _ => fun P H ev o => opD P H ev o)
    (fun x i => fun _ H ev _ => oExtract (ev x) i H)
    (fun c => fun P H ev o => callF P H ev o c)
    (fun _ => fun P H ev o => opD P H ev o)
    (fun _ => fun P H ev o => opD P H ev o)
    (fun _ => fun P H ev o => opD P H ev o)
    (fun _ _ => fun P H ev o => opD P H ev o)
    (fun _ _ _ => fun P H ev o => opD P H ev o)
    (fun _ _ => fun P H ev o => opD P H ev o)
noncomputable def opF (P : Program) (H : Hp) (ev : Ev) (o : Oper) : R := opK o.op P H ev o
theorem opF_eq (P : Program) (H : Hp) (ev : Ev) (o : Oper) : opF P H ev o = opD P H ev o := by
  obtain ⟨dst, op, ty, pos, aft, gu⟩ := o
  cases op
  case binOp op t x y yt =>
    show oBin (ev x) (ev y) P H ev _ op t = _
    unfold opD
    simp only
    cases ev x <;> cases ev y <;> first | rfl | (show oVal (bin1 _ _ P ev _ op t) H = _; rw [bin1_eq, oVal_m]; rfl)
  case load t a =>
    show oLoad (ev a) P H t = _
    unfold opD
    simp only
    cases ev a <;> first | rfl | (show oVal (ldV _ H P t) H = _; rw [ldV_eq, oVal_m]; rfl)
  case store t a x =>
    show oStore (ev a) (ev x) P H t = _
    unfold opD
    simp only
    cases ev a <;> cases ev x <;> first | rfl | (show oHv (stV _ H P t (cellsL _)) = _; rw [stV_eq, oHv_m]; rfl)
  case fieldAddr t x f =>
    show oFieldAddr (ev x) P H t f = _
    unfold opD
    simp only
    cases ev x <;> first | rfl | (show oVal (faV _ P t f) H = _; rw [faV_eq, oVal_m]; rfl)
  case indexAddr t x i =>
    show oIndexAddr (ev x) (ev i) P H t = _
    unfold opD
    simp only
    cases ev x <;> cases ev i <;> first | rfl | (show oVal (iaV _ P t _) H = _; rw [iaV_eq, oVal_m]; rfl)
  case index t x i =>
    show oIndex (ev x) (ev i) P H t = _
    unfold opD
    simp only
    cases ev x <;> cases ev i <;> first | rfl | exact oVal_m _ _
  case alloc t =>
    show oAlloc (zeroD P t) P H t = _
    unfold opD
    simp only
    cases zeroD P t with
    | none => rfl
    | some z =>
      show oAl2 (flat z) P H t z = _
      simp only
      cases flat z with
      | false => rfl
      | true => show alR (allocK (bM P t) H (cellsL z)) H.next = _; rw [allocK_eq, cellsL_eq]; rfl
  case box t x =>
    show oBox (ev x) H = _
    unfold opD
    simp only
    cases ev x with
    | none => rfl
    | some v => show alR (allocK .fix H (cellsL v)) H.next = _; rw [allocK_eq, cellsL_eq]; rfl
  case extract x i =>
    show oExtract (ev x) i H = _
    unfold opD
    simp only
    cases ev x with
    | none => rfl
    | some v =>
      cases v <;> try rfl
      rename_i c
      obtain ⟨l⟩ := c
      show oVal (lstG l i) H = _
      rw [lstG_eq, oVal_m]
      simp only [List.getElem?_toArray]
      cases l[i]? <;> rfl
  case pick c a b =>
    show oPick (ev c) (ev a) (ev b) H = _
    unfold opD
    simp only
    cases ev c with
    | none => rfl
    | some v =>
      cases v <;> try rfl
      rename_i q
      cases q <;> exact oVal_m _ _
  case next it b => cases b <;> rfl
  case call c => exact callF_eq P H ev _ c
  case move x => exact oVal_m _ _
  case assign x => exact oVal_m _ _
  case field t x f =>
    show oField (ev x) P H t f = _
    unfold opD
    simp only
    cases ev x <;> first | rfl | exact oVal_m _ _
  all_goals rfl

/-! ### One operation -/
noncomputable def gdK : Option (Nat × Bool) → Array Oper → ES → Oper → Option Bool := @Option.rec (Nat × Bool) (fun _ => Array Oper → ES → Oper → Option Bool) (fun _ _ _ => some true) (fun _ ops s o => gdE ops s o)
theorem gdK_eq (ops : Array Oper) (s : ES) (o : Oper) : gdK o.guard ops s o = gdE ops s o := by
  cases h : o.guard with
  | none => unfold gdE; rw [h]; rfl
  | some q => rfl
abbrev OO := Option OE
noncomputable def doPut : Option ES → OO := @Option.rec ES (fun _ => OO) none fun s => some (.val s)
noncomputable def doCall : Option ES → FuncId → List Value → Option Tmp → OO := @Option.rec ES (fun _ => FuncId → List Value → Option Tmp → OO) (fun _ _ _ => none) (fun _ f args d => some (.call f args d))
noncomputable def doRes : R → ES → Oper → OO := @Option.rec Res (fun _ => ES → Oper → OO) (fun _ _ => none)
  (@Res.rec (fun _ => ES → Oper → OO) (fun v H s o => doPut (putF s o.dst v H)) (fun f args s o => doCall (putF s o.dst undef s.H) f args o.dst) (fun v _ _ => some (.panic v)) (fun _ _ _ _ => none) (fun _ _ _ _ => none) (fun _ _ => none))
noncomputable def doDo : Bool → Program → ES → Oper → OO := @Bool.rec (fun _ => Program → ES → Oper → OO) (fun _ _ _ => none) (fun P s o => doRes (opF P s.H (evF P s) o) s o)
noncomputable def doGd : Option Bool → Program → ES → Oper → OO := @Option.rec Bool (fun _ => Program → ES → Oper → OO) (fun _ _ _ => none)
  (@Bool.rec (fun _ => Program → ES → Oper → OO) (fun _ s o => doPut (putF s o.dst undef s.H)) (fun P s o => doDo (notDefer o.op) P s o))
noncomputable def doF (P : Program) (ops : Array Oper) (s : ES) (o : Oper) : OO := doGd (gdK o.guard ops s o) P s o
theorem doF_eq {P : Program} {ops : Array Oper} {i : Nat} {s : ES} {o : Oper} (h : ops[i]? = some o) : doF P ops s o = doE P ops i s := by
  unfold doE doF
  rw [h, gdK_eq]
  simp only
  cases gdE ops s o with
  | none => rfl
  | some b =>
    cases b with
    | false => show doPut (putF s o.dst undef s.H) = _; rw [putF_eq]; simp only; cases putE s o.dst undef s.H <;> rfl
    | true =>
      show doDo (notDefer o.op) P s o = _
      simp only
      cases notDefer o.op with
      | false => rfl
      | true =>
        show doRes (opF P s.H (evF P s) o) s o = _
        rw [opF_eq, evF_eq]
        simp only
        cases opD P s.H (evE P s) o with
        | none => rfl
        | some r =>
          cases r with
          | val v H' => show doPut (putF s o.dst v H') = _; rw [putF_eq]; simp only; cases putE s o.dst v H' <;> rfl
          | enter f args => show doCall (putF s o.dst undef s.H) f args o.dst = _; rw [putF_eq]; simp only; cases putE s o.dst undef s.H <;> rfl
          | panic v => rfl
          | yield l args => rfl
          | defer f args => rfl
          | recover => rfl

end Go.Det.Fast
