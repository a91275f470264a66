import Derived.WalkKit
import Derived.Lib.Bytealg
import Derived.Lib.Builder
import Derived.Lib.UnsafeStr
import Derived.Laws.Externs
import Derived.Lib.MakeNoZero
namespace Go.Det
open Go Go.RowKit
inductive T (α : Type) where
  | nil
  | node (v : Option α) (l r : T α)
def T.get {α : Type} : T α → Nat → Option α
  | .nil, _ => none
  | .node v l r, n => match Nat.beq n 0 with
    | true => v
    | false => match Nat.beq (n % 2) 1 with
      | true => l.get (n / 2)
      | false => r.get (n / 2 - 1)
theorem T.get_node {α : Type} (v : Option α) (l r : T α) (n : Nat) : (T.node v l r).get n = if n = 0 then v else if n % 2 = 1 then l.get (n / 2) else r.get (n / 2 - 1) := by
  have h1 : Nat.beq n 0 = decide (n = 0) := by rw [Bool.eq_iff_iff]; simp
  have h2 : Nat.beq (n % 2) 1 = decide (n % 2 = 1) := by rw [Bool.eq_iff_iff]; simp
  simp only [T.get, h1, h2]
  by_cases h : n = 0 <;> by_cases k : n % 2 = 1 <;> simp [h, k]
def T.val {α : Type} : T α → Option α
  | .nil => none
  | .node v _ _ => v
def T.left {α : Type} : T α → T α
  | .nil => .nil
  | .node _ l _ => l
def T.right {α : Type} : T α → T α
  | .nil => .nil
  | .node _ _ r => r
def T.mkL {α : Type} (v : Option α) (l r : T α) : T α :=
  match l with
  | .nil => .node v .nil r
  | .node a b c => .node v (.node a b c) r
def T.mkR {α : Type} (v : Option α) (l r : T α) : T α :=
  match r with
  | .nil => .node v l .nil
  | .node a b c => .node v l (.node a b c)
theorem T.mkL_eq {α : Type} (v : Option α) (l r : T α) : T.mkL v l r = .node v l r := by cases l <;> rfl
theorem T.mkR_eq {α : Type} (v : Option α) (l r : T α) : T.mkR v l r = .node v l r := by cases r <;> rfl
def T.upd {α : Type} (x : Option α) : Nat → T α → Nat → T α
  | 0, t, _ => t
  | f + 1, t, n =>
    match t with
    | .nil =>
      match Nat.beq n 0 with
      | true => .node x .nil .nil
      | false => match Nat.beq (n % 2) 1 with
        | true => T.mkL none (T.upd x f .nil (n / 2)) .nil
        | false => T.mkR none .nil (T.upd x f .nil (n / 2 - 1))
    | .node v l r =>
      match Nat.beq n 0 with
      | true => .node x l r
      | false => match Nat.beq (n % 2) 1 with
        | true => T.mkL v (T.upd x f l (n / 2)) r
        | false => T.mkR v l (T.upd x f r (n / 2 - 1))
theorem T.upd_eq {α : Type} (x : Option α) (f : Nat) (t : T α) (n : Nat) : T.upd x (f + 1) t n =
    if n = 0 then .node x t.left t.right
    else if n % 2 = 1 then .node t.val (T.upd x f t.left (n / 2)) t.right
    else .node t.val t.left (T.upd x f t.right (n / 2 - 1)) := by
  have h1 : Nat.beq n 0 = decide (n = 0) := by rw [Bool.eq_iff_iff]; simp
  have h2 : Nat.beq (n % 2) 1 = decide (n % 2 = 1) := by rw [Bool.eq_iff_iff]; simp
  cases t <;> simp only [T.upd, h1, h2, T.mkL_eq, T.mkR_eq, T.val, T.left, T.right] <;> by_cases h : n = 0 <;> by_cases k : n % 2 = 1 <;> simp [h, k]
def T.set {α : Type} (t : T α) (n : Nat) (x : Option α) : T α := T.upd x (n + 1) t n
theorem T.get_eq {α : Type} (t : T α) (n : Nat) : t.get n = if n = 0 then t.val else if n % 2 = 1 then t.left.get (n / 2) else t.right.get (n / 2 - 1) := by
  cases t with
  | nil => simp [T.get, T.val, T.left, T.right]
  | node v l r => exact T.get_node v l r n
theorem T.get_upd {α : Type} (x : Option α) : ∀ (f : Nat) (t : T α) (n m : Nat), n < f → (T.upd x f t n).get m = if m = n then x else t.get m
  | 0, _, _, _, h => by omega
  | f + 1, t, n, m, h => by
    rw [T.upd_eq]
    by_cases hn : n = 0
    · subst hn
      rw [if_pos rfl]
      by_cases hm : m = 0
      · subst hm; simp [T.get_node]
      · rw [if_neg hm, T.get_eq t m, if_neg hm, T.get_node, if_neg hm]
    · rw [if_neg hn]
      by_cases ho : n % 2 = 1
      · rw [if_pos ho, T.get_node, T.get_eq t m]
        by_cases hm : m = 0
        · rw [if_pos hm, if_pos hm, if_neg (by omega)]
        · rw [if_neg hm, if_neg hm]
          by_cases hmo : m % 2 = 1
          · rw [if_pos hmo, if_pos hmo, T.get_upd x f t.left (n / 2) (m / 2) (by omega)]
            by_cases e : m = n
            · subst e; simp
            · rw [if_neg e, if_neg (by omega)]
          · rw [if_neg hmo, if_neg hmo, if_neg (by omega)]
      · rw [if_neg ho, T.get_node, T.get_eq t m]
        by_cases hm : m = 0
        · rw [if_pos hm, if_pos hm, if_neg (by omega)]
        · rw [if_neg hm, if_neg hm]
          by_cases hmo : m % 2 = 1
          · rw [if_pos hmo, if_pos hmo, if_neg (by omega)]
          · rw [if_neg hmo, if_neg hmo, T.get_upd x f t.right (n / 2 - 1) (m / 2 - 1) (by omega)]
            by_cases e : m = n
            · subst e; simp
            · rw [if_neg e, if_neg (by omega)]
theorem T.get_set {α : Type} (t : T α) (n m : Nat) (x : Option α) : (t.set n x).get m = if m = n then x else t.get m :=
  T.get_upd x (n + 1) t n m (Nat.lt_succ_self n)
def nforce {α : Type} (n : Nat) (k : Nat → α) : α :=
  match n with
  | 0 => k 0
  | m + 1 => k (m + 1)
theorem nforce_eq {α : Type} (n : Nat) (k : Nat → α) : nforce n k = k n := by cases n <;> rfl
def iforce {α : Type} (n : Int) (k : Int → α) : α :=
  match n with
  | .ofNat m => nforce m fun m => k (.ofNat m)
  | .negSucc m => nforce m fun m => k (.negSucc m)
theorem iforce_eq {α : Type} (n : Int) (k : Int → α) : iforce n k = k n := by cases n <;> simp only [iforce, nforce_eq]
def bforce {α : Type} (b : Bool) (k : Bool → α) : α :=
  match b with
  | true => k true
  | false => k false
theorem bforce_eq {α : Type} (n : Bool) (k : Bool → α) : bforce n k = k n := by cases n <;> rfl
def aforce {α : Type} (a : Addr) (k : Addr → α) : α :=
  match a with
  | ⟨b, o, s⟩ => nforce b fun b => nforce o fun o => k ⟨b, o, s⟩
theorem aforce_eq {α : Type} (a : Addr) (k : Addr → α) : aforce a k = k a := by cases a; simp only [aforce, nforce_eq]
def oforce {α : Type} (a : Option Addr) (k : Option Addr → α) : α :=
  match a with
  | none => k none
  | some a => aforce a fun a => k (some a)
theorem oforce_eq {α : Type} (a : Option Addr) (k : Option Addr → α) : oforce a k = k a := by cases a <;> simp only [oforce, aforce_eq]
def vforce1 {α : Type} (v : Value) (k : Value → α) : α :=
  match v with
  | .int d n => iforce n fun n => k (.int d n)
  | .bool b => bforce b fun b => k (.bool b)
  | .slice a l c => oforce a fun a => nforce l fun l => nforce c fun c => k (.slice a l c)
  | .pointer a => oforce a fun a => k (.pointer a)
  | v => k v
theorem vforce1_eq {α : Type} (v : Value) (k : Value → α) : vforce1 v k = k v := by cases v <;> simp only [vforce1, iforce_eq, bforce_eq, nforce_eq, oforce_eq]
def lforce {α : Type} : List Value → (List Value → α) → α
  | [], k => k []
  | v :: l, k => vforce1 v fun v => lforce l fun l => k (v :: l)
theorem lforce_eq {α : Type} : ∀ (l : List Value) (k : List Value → α), lforce l k = k l
  | [], k => rfl
  | v :: l, k => by rw [lforce, vforce1_eq, lforce_eq l]
def vforce {α : Type} (v : Value) (k : Value → α) : α :=
  match v with
  | .agg ⟨l⟩ => lforce l fun l => k (.agg ⟨l⟩)
  | .tuple ⟨l⟩ => lforce l fun l => k (.tuple ⟨l⟩)
  | v => vforce1 v k
theorem vforce_eq {α : Type} (v : Value) (k : Value → α) : vforce v k = k v := by
  unfold vforce
  split
  · rw [lforce_eq]
  · rw [lforce_eq]
  · rw [vforce1_eq]
inductive Mode where
  | old | fix | more (sz : Nat) (ty : Option TypeId := none) | var (ty : TypeId)
  deriving DecidableEq
def Mode.ty : Mode → Option TypeId
  | .more _ t => t
  | .var t => some t
  | _ => none
def Mode.isMore (m : Mode) (n : Nat) : Bool := match m with | .more s _ => s == n | _ => false
theorem Mode.isMore_eq {m : Mode} {n : Nat} (h : m.isMore n = true) : ∃ ty, m = .more n ty := by
  unfold Mode.isMore at h
  split at h
  · simp only [beq_iff_eq] at h; subst h; exact ⟨_, rfl⟩
  · cases h
def Mode.isFix : Mode → Bool
  | .fix | .var _ => true
  | _ => false
def tyJ (o : Nat) (a b : Option TypeId) : Option TypeId := if o = 0 ∧ a = b then a else none
theorem tyJ_or {o : Nat} {a b : Option TypeId} {e : TypeId} (h : b = none ∨ b = some e) : ((o = 0 ∧ tyJ o a b = a) ∨ tyJ o a b = none) ∧ (tyJ o a b = none ∨ tyJ o a b = some e) := by
  unfold tyJ
  by_cases q : o = 0 ∧ a = b
  · obtain ⟨q1, q2⟩ := q; subst q2; rw [if_pos ⟨q1, rfl⟩]; exact ⟨.inl ⟨q1, rfl⟩, h⟩
  · rw [if_neg q]; exact ⟨.inr rfl, .inl rfl⟩
inductive Blk where
  | cells (m : Mode) (cs : List Value)
  | map (es : List MapEntry) (clock : Nat)
  | iter (s : ByteArray) (pos : Nat)
  | loop (l : Loop)
  | dfr
def blkS {α : Type} (x : Blk) (k : Blk → α) : α :=
  match x with
  | .cells m cs => lforce cs fun cs => k (.cells m cs)
  | .loop l => match l with
    | ⟨a, b, c, d, e, f, g, h⟩ => k (.loop ⟨a, b, c, d, e, f, g, h⟩)
  | x => k x
theorem blkS_eq {α : Type} (x : Blk) (k : Blk → α) : blkS x k = k x := by cases x <;> simp only [blkS, lforce_eq]
structure Hp where
  t : T Blk
  next : Nat
  lo : Nat
def Hp.get (H : Hp) (b : Nat) : Option Blk := H.t.get b
def Hp.alloc (H : Hp) (x : Blk) : Hp := { t := blkS x fun x => H.t.set H.next (some x), next := H.next + 1, lo := H.lo }
def Hp.put (H : Hp) (b : Nat) (x : Blk) : Hp := { t := blkS x fun x => H.t.set b (some x), next := H.next, lo := min H.lo b }
def Hp.kill (H : Hp) (b : Nat) : Hp := { t := H.t.set b none, next := H.next, lo := min H.lo b }
theorem Hp.get_alloc (H : Hp) (x : Blk) (b : Nat) : (H.alloc x).get b = if b = H.next then some x else H.get b := by
  simp only [Hp.get, Hp.alloc, blkS_eq, T.get_set]
theorem Hp.get_put (H : Hp) (x : Blk) (b c : Nat) : (H.put b x).get c = if c = b then some x else H.get c := by
  simp only [Hp.get, Hp.put, blkS_eq, T.get_set]
theorem Hp.get_kill (H : Hp) (b c : Nat) : (H.kill b).get c = if c = b then none else H.get c := by
  simp only [Hp.get, Hp.kill, T.get_set]
theorem Hp.next_alloc (H : Hp) (x : Blk) : (H.alloc x).next = H.next + 1 := rfl
theorem Hp.next_put (H : Hp) (x : Blk) (b : Nat) : (H.put b x).next = H.next := rfl
theorem Hp.next_kill (H : Hp) (b : Nat) : (H.kill b).next = H.next := rfl
structure Ext (H H' : Hp) : Prop where
  next : H.next ≤ H'.next
  same : ∀ b, b < H.next → H'.get b = H.get b
theorem Ext.refl (H : Hp) : Ext H H := ⟨Nat.le_refl _, fun _ _ => rfl⟩
theorem Ext.trans {A B C : Hp} (h : Ext A B) (k : Ext B C) : Ext A C :=
  ⟨Nat.le_trans h.next k.next, fun b hb => (k.same b (Nat.lt_of_lt_of_le hb h.next)).trans (h.same b hb)⟩
theorem Ext.alloc {A B : Hp} (h : Ext A B) (x : Blk) : Ext A (B.alloc x) :=
  ⟨Nat.le_succ_of_le h.next, fun b hb => by rw [Hp.get_alloc, if_neg (by have := h.next; omega)]; exact h.same b hb⟩
theorem Ext.put {A B : Hp} (h : Ext A B) {b : Nat} (x : Blk) (hb : A.next ≤ b) : Ext A (B.put b x) :=
  ⟨h.next, fun c hc => by rw [Hp.get_put, if_neg (by omega)]; exact h.same c hc⟩
theorem Ext.kill {A B : Hp} (h : Ext A B) {b : Nat} (hb : A.next ≤ b) : Ext A (B.kill b) :=
  ⟨h.next, fun c hc => by rw [Hp.get_kill, if_neg (by omega)]; exact h.same c hc⟩
structure RI where
  blk : Nat
  off : Nat
  sz : Nat
  tot : Nat
  own : Bool
def Mode.okE (m : Mode) (i : RI) (e : TypeId) : Prop := (∀ s t, m = .more s t → i.sz = s) ∧ ∀ T, m.ty = some T → e = T ∧ i.off = 0
theorem Mode.okE.fix {i : RI} {e : TypeId} : Mode.okE .fix i e := ⟨fun _ _ q => (by cases q), fun _ q => (by cases q)⟩
theorem Mode.okE.more {i : RI} {e : TypeId} : Mode.okE (.more i.sz) i e := ⟨fun _ _ q => (by cases q; rfl), fun _ q => (by cases q)⟩
theorem Mode.okE.moreO {i : RI} {e : TypeId} {ty : Option TypeId} (h0 : i.off = 0) (h : ty = none ∨ ty = some e) : Mode.okE (.more i.sz ty) i e := ⟨fun _ _ q => (by cases q; rfl), fun _ q => (by rcases h with rfl | rfl <;> cases q; exact ⟨rfl, h0⟩)⟩
theorem Mode.okE.var {i : RI} {e : TypeId} (h0 : i.off = 0) : Mode.okE (.var e) i e := ⟨fun _ _ q => (by cases q), fun _ q => (by cases q; exact ⟨rfl, h0⟩)⟩
abbrev Ren := Nat → Option RI
def Ren.le (R R' : Ren) : Prop := ∀ b i, R b = some i → R' b = some i
theorem Ren.le_refl (R : Ren) : R.le R := fun _ _ h => h
theorem Ren.le_trans {A B C : Ren} (h : A.le B) (k : B.le C) : A.le C := fun b i e => k b i (h b i e)
def LOOSE : Nat := 18446744073709551616
def EMPTY : Nat := 18446744073709551617
structure AR (R : Ren) (a a' : Addr) : Prop where
  spot : a.spot = none
  spot' : a'.spot = none
  at_ : ∃ i, R a.block = some i ∧ a'.block = i.blk ∧ a'.off = a.off + i.off
theorem AR.mono {R R' : Ren} (h : R.le R') {a a' : Addr} (k : AR R a a') : AR R' a a' :=
  ⟨k.spot, k.spot', let ⟨i, e, r⟩ := k.at_; ⟨i, h _ _ e, r⟩⟩
def CapR (R : Ren) (a a' : Addr) (len cap cap' : Nat) : Prop :=
  (cap < LOOSE ∧ cap' = cap ∧ len ≤ cap) ∨ (cap = LOOSE ∧ len ≤ cap' ∧ ∃ i, R a.block = some i ∧ (i.own = true → a'.off + cap' * i.sz = i.tot ∧ 0 < i.sz))
theorem CapR.mono {R R' : Ren} (h : R.le R') {a a' : Addr} {len cap cap' : Nat} (k : CapR R a a' len cap cap') : CapR R' a a' len cap cap' := by
  rcases k with k | ⟨k1, k2, i, e, r⟩
  · exact .inl k
  · exact .inr ⟨k1, k2, i, h _ _ e, r⟩
inductive FnR (R : Ren) : Fn → Fn → Prop where
  | func (f : FuncId) : FnR R (.func f) (.func f)
  | method (n : String) : FnR R (.method n) (.method n)
  | methodOf (t : TypeId) (n : String) : FnR R (.methodOf t n) (.methodOf t n)
  | via (t : TypeId) (p : Array FieldStep) (f : FuncId) (q : Bool) : FnR R (.via t p f q) (.via t p f q)
  | yield (l : Nat) (i : RI) (h : R l = some i) (hl : i.own = true) : FnR R (.yield l) (.yield i.blk)
theorem FnR.mono {R R' : Ren} (h : R.le R') {f f' : Fn} (k : FnR R f f') : FnR R' f f' := by
  cases k with
  | yield l i e hl => exact .yield l i (h _ _ e) hl
  | _ => constructor
mutual
inductive VR (R : Ren) : Value → Value → Prop where
  | bool (b : Bool) : VR R (.bool b) (.bool b)
  | int (k : IntKind) (n : Int) : VR R (.int k n) (.int k n)
  | string (s : ByteArray) : VR R (.string s) (.string s)
  | nilPtr : VR R (.pointer none) (.pointer none)
  | ptr {a a' : Addr} (h : AR R a a') : VR R (.pointer (some a)) (.pointer (some a'))
  | nilSlice : VR R (.slice none 0 0) (.slice none 0 0)
  | slice {a a' : Addr} (len cap cap' : Nat) (h : AR R a a') (hc : CapR R a a' len cap cap') : VR R (.slice (some a) len cap) (.slice (some a') len cap')
  | empty (a a' : Addr) (cap' : Nat) : VR R (.slice (some a) 0 EMPTY) (.slice (some a') 0 cap')
  | nilMap : VR R (.map none) (.map none)
  | map (b : Nat) (i : RI) (h : R b = some i) : VR R (.map (some b)) (.map (some i.blk))
  | func {f f' : Fn} {x x' y y' : List Value} (h : FnR R f f') (hx : VRs R x x') (hy : VRs R y y') : VR R (.func f ⟨x⟩ ⟨y⟩) (.func f' ⟨x'⟩ ⟨y'⟩)
  | nilFunc : VR R .nilFunc .nilFunc
  | iface (t : TypeId) {v v' : Value} (h : VR R v v') : VR R (.iface t v) (.iface t v')
  | nilIface : VR R .nilIface .nilIface
  | agg {x x' : List Value} (h : VRs R x x') : VR R (.agg ⟨x⟩) (.agg ⟨x'⟩)
  | tuple {x x' : List Value} (h : VRs R x x') : VR R (.tuple ⟨x⟩) (.tuple ⟨x'⟩)
inductive VRs (R : Ren) : List Value → List Value → Prop where
  | nil : VRs R [] []
  | cons {v v' : Value} {x x' : List Value} (h : VR R v v') (hx : VRs R x x') : VRs R (v :: x) (v' :: x')
end
mutual
theorem VR.mono {R R' : Ren} (h : R.le R') : ∀ {v v' : Value}, VR R v v' → VR R' v v'
  | _, _, .bool b => .bool b
  | _, _, .int k n => .int k n
  | _, _, .string s => .string s
  | _, _, .nilPtr => .nilPtr
  | _, _, .ptr a => .ptr (a.mono h)
  | _, _, .nilSlice => .nilSlice
  | _, _, .slice l c c' a hc => .slice l c c' (a.mono h) (hc.mono h)
  | _, _, .empty a a' c => .empty a a' c
  | _, _, .nilMap => .nilMap
  | _, _, .map b i e => .map b i (h _ _ e)
  | _, _, .func f x y => .func (f.mono h) (VRs.mono h x) (VRs.mono h y)
  | _, _, .nilFunc => .nilFunc
  | _, _, .iface t v => .iface t (VR.mono h v)
  | _, _, .nilIface => .nilIface
  | _, _, .agg x => .agg (VRs.mono h x)
  | _, _, .tuple x => .tuple (VRs.mono h x)
theorem VRs.mono {R R' : Ren} (h : R.le R') : ∀ {x x' : List Value}, VRs R x x' → VRs R' x x'
  | _, _, .nil => .nil
  | _, _, .cons v x => .cons (VR.mono h v) (VRs.mono h x)
end
theorem VRs.length {R : Ren} : ∀ {x x' : List Value}, VRs R x x' → x'.length = x.length
  | _, _, .nil => rfl
  | _, _, .cons _ h => by simp [VRs.length h]
theorem VRs.get {R : Ren} : ∀ {x x' : List Value}, VRs R x x' → ∀ (j : Nat) (v : Value), x[j]? = some v → ∃ v', x'[j]? = some v' ∧ VR R v v'
  | _, _, .nil, j, v, h => by simp at h
  | _, _, .cons (v' := u') hv hx, 0, v, h => by simp at h; subst h; exact ⟨u', by simp, hv⟩
  | _, _, .cons hv hx, j + 1, v, h => by simpa using VRs.get hx j v (by simpa using h)
theorem VRs.of_get {R : Ren} : ∀ {x x' : List Value}, x'.length = x.length → (∀ (j : Nat) (v : Value), x[j]? = some v → ∃ v', x'[j]? = some v' ∧ VR R v v') → VRs R x x'
  | [], [], _, _ => .nil
  | [], _ :: _, h, _ => by simp at h
  | _ :: _, [], h, _ => by simp at h
  | v :: x, v' :: x', h, k => by
    obtain ⟨u, hu, hr⟩ := k 0 v (by simp)
    simp at hu; subst hu
    exact .cons hr (VRs.of_get (by simpa using h) fun j w hw => by simpa using k (j + 1) w (by simpa using hw))
theorem VRs.append {R : Ren} : ∀ {x x' y y' : List Value}, VRs R x x' → VRs R y y' → VRs R (x ++ y) (x' ++ y')
  | _, _, _, _, .nil, k => k
  | _, _, _, _, .cons v h, k => .cons v (VRs.append h k)
theorem VRs.take {R : Ren} : ∀ {x x' : List Value} (n : Nat), VRs R x x' → VRs R (x.take n) (x'.take n)
  | _, _, 0, _ => by simpa using VRs.nil
  | _, _, _ + 1, .nil => by simpa using VRs.nil
  | _, _, n + 1, .cons v h => by simpa using VRs.cons v (VRs.take n h)
theorem VRs.drop {R : Ren} : ∀ {x x' : List Value} (n : Nat), VRs R x x' → VRs R (x.drop n) (x'.drop n)
  | _, _, 0, h => by simpa using h
  | _, _, _ + 1, .nil => by simpa using VRs.nil
  | _, _, n + 1, .cons _ h => by simpa using VRs.drop n h
theorem VRs.set {R : Ren} : ∀ {x x' : List Value} (n : Nat) {v v' : Value}, VRs R x x' → VR R v v' → VRs R (x.set n v) (x'.set n v')
  | _, _, _, _, _, .nil, _ => by simpa using VRs.nil
  | _, _, 0, _, _, .cons _ h, k => by simpa using VRs.cons k h
  | _, _, n + 1, _, _, .cons u h, k => by simpa using VRs.cons u (VRs.set n h k)
theorem VRs.one {R : Ren} {v v' : Value} (h : VR R v v') : VRs R [v] [v'] := .cons h .nil
mutual
def flat : Value → Bool
  | .bool _ | .int _ _ | .string _ | .pointer none | .map none | .nilFunc | .nilIface => true
  | .slice none 0 0 => true
  | .iface _ v => flat v
  | .agg ⟨x⟩ | .tuple ⟨x⟩ => flats x
  | .func (.func _) ⟨[]⟩ ⟨[]⟩ => true
  | _ => false
def flats : List Value → Bool
  | [] => true
  | v :: x => flat v && flats x
end
mutual
theorem flat_refl {R : Ren} : ∀ {v : Value}, flat v = true → VR R v v
  | .bool b, _ => .bool b
  | .int k n, _ => .int k n
  | .string s, _ => .string s
  | .pointer none, _ => .nilPtr
  | .pointer (some _), h => by simp [flat] at h
  | .map none, _ => .nilMap
  | .map (some _), h => by simp [flat] at h
  | .nilFunc, _ => .nilFunc
  | .nilIface, _ => .nilIface
  | .slice none 0 0, _ => .nilSlice
  | .slice none 0 (_ + 1), h => by simp [flat] at h
  | .slice none (_ + 1) _, h => by simp [flat] at h
  | .slice (some _) _ _, h => by simp [flat] at h
  | .iface t v, h => .iface t (flat_refl (by simpa [flat] using h))
  | .agg ⟨x⟩, h => .agg (flats_refl (by simpa [flat] using h))
  | .tuple ⟨x⟩, h => .tuple (flats_refl (by simpa [flat] using h))
  | .func (.func f) ⟨[]⟩ ⟨[]⟩, _ => .func (.func f) .nil .nil
  | .func (.func f) ⟨[]⟩ ⟨_ :: _⟩, h => by simp [flat] at h
  | .func (.func f) ⟨_ :: _⟩ _, h => by simp [flat] at h
  | .func (.method _) _ _, h => by simp [flat] at h
  | .func (.methodOf _ _) _ _, h => by simp [flat] at h
  | .func (.via _ _ _ _) _ _, h => by simp [flat] at h
  | .func (.yield _) _ _, h => by simp [flat] at h
  | .float _ _, h => by simp [flat] at h
  | .complex _ _ _, h => by simp [flat] at h
  | .chan _, h => by simp [flat] at h
theorem flats_refl {R : Ren} : ∀ {x : List Value}, flats x = true → VRs R x x
  | [], _ => .nil
  | v :: x, h => by
    simp only [flats, Bool.and_eq_true] at h
    exact .cons (flat_refl h.1) (flats_refl h.2)
end
mutual
theorem flat_eq {R : Ren} : ∀ {v v' : Value}, VR R v v' → flat v = true → v' = v
  | _, _, .bool b, _ => rfl
  | _, _, .int k n, _ => rfl
  | _, _, .string s, _ => rfl
  | _, _, .nilPtr, _ => rfl
  | _, _, .ptr a, h => by simp [flat] at h
  | _, _, .nilSlice, _ => rfl
  | _, _, .slice l c c' a hc, h => by simp [flat] at h
  | _, _, .empty a a' c, h => by simp [flat] at h
  | _, _, .nilMap, _ => rfl
  | _, _, .map b i e, h => by simp [flat] at h
  | _, _, .func (.func f) .nil .nil, _ => rfl
  | _, _, .func (.func f) .nil (.cons _ _), h => by simp [flat] at h
  | _, _, .func (.func f) (.cons _ _) _, h => by simp [flat] at h
  | _, _, .func (.method _) _ _, h => by simp [flat] at h
  | _, _, .func (.methodOf _ _) _ _, h => by simp [flat] at h
  | _, _, .func (.via _ _ _ _) _ _, h => by simp [flat] at h
  | _, _, .func (.yield _ _ _ _) _ _, h => by simp [flat] at h
  | _, _, .nilFunc, _ => rfl
  | _, _, .iface t v, h => by rw [flat_eq v (by simpa [flat] using h)]
  | _, _, .nilIface, _ => rfl
  | _, _, .agg x, h => by rw [flats_eq x (by simpa [flat] using h)]
  | _, _, .tuple x, h => by rw [flats_eq x (by simpa [flat] using h)]
theorem flats_eq {R : Ren} : ∀ {x x' : List Value}, VRs R x x' → flats x = true → x' = x
  | _, _, .nil, _ => rfl
  | _, _, .cons v x, h => by
    simp only [flats, Bool.and_eq_true] at h
    rw [flat_eq v h.1, flats_eq x h.2]
end
end Go.Det

namespace Go.Det
open Go Go.RowKit
structure EntR (R : Ren) (e e' : MapEntry) : Prop where
  key : VR R e.key e'.key
  val : VR R e.val e'.val
  born : e'.born = e.born
theorem EntR.mono {R R' : Ren} (h : R.le R') {e e' : MapEntry} (k : EntR R e e') : EntR R' e e' := ⟨k.key.mono h, k.val.mono h, k.born⟩
inductive EntsR (R : Ren) : List MapEntry → List MapEntry → Prop where
  | nil : EntsR R [] []
  | cons {e e' : MapEntry} {x x' : List MapEntry} (h : EntR R e e') (hx : EntsR R x x') : EntsR R (e :: x) (e' :: x')
theorem EntsR.mono {R R' : Ren} (h : R.le R') : ∀ {x x' : List MapEntry}, EntsR R x x' → EntsR R' x x'
  | _, _, .nil => .nil
  | _, _, .cons e k => .cons (e.mono h) (EntsR.mono h k)
structure LoopR (R : Ren) (l l' : Loop) : Prop where
  state : l'.state = l.state
  pending : l'.pending = l.pending
  params : l'.params = l.params
  assign : l'.assign = l.assign
  body : l'.body = l.body
  size : l.tmps.size = l'.tmps.size
  tmps : ∀ (t : Nat) (v : Value), l.tmps[t]? = some v → v.cells ≠ #[] → ∃ v', l'.tmps[t]? = some v' ∧ VR R v v'
inductive BR (R : Ren) (B : Nat) (w : World) (i : RI) : Blk → Prop where
  | old (cs : List Value) (ho : i.own = false) (hb : i.blk < B)
      (h : ∀ (j : Nat) (v : Value), cs[j]? = some v → ∃ v', w.cell? ⟨i.blk, i.off + j, none⟩ = some v' ∧ VR R v v') : BR R B w i (.cells .old cs)
  | own (m : Mode) (cs : List Value) (c' : Array Value) (e : TypeId) (fr : Nat × Nat) (hm : m ≠ .old) (ho : i.own = true) (hb : B ≤ i.blk)
      (hw : w.heap[i.blk]? = some (.cells c' e fr)) (ht : c'.size = i.tot) (hle : i.off + cs.length ≤ i.tot) (hfix : m.isFix = true → i.off + cs.length = i.tot) (hsz : m.okE i e)
      (hfr : ∀ o, o < i.tot → ¬ (fr.1 ≤ o ∧ o < fr.2))
      (h : ∀ (j : Nat) (v : Value), cs[j]? = some v → ∃ v', c'[i.off + j]? = some v' ∧ VR R v v') : BR R B w i (.cells m cs)
  | map (es es' : List MapEntry) (clock : Nat) (ho : i.own = true) (hb : B ≤ i.blk) (hw : w.heap[i.blk]? = some (.map ⟨es'⟩ clock)) (h : EntsR R es es') : BR R B w i (.map es clock)
  | iter (s : ByteArray) (pos : Nat) (ho : i.own = true) (hb : B ≤ i.blk) (hoff : i.off = 0) (hw : w.heap[i.blk]? = some (.stringIter s pos)) : BR R B w i (.iter s pos)
  | loop (l l' : Loop) (ho : i.own = true) (hb : B ≤ i.blk) (hw : w.heap[i.blk]? = some (.loop l')) (h : LoopR R l l') : BR R B w i (.loop l)
  | dfr (ho : i.own = true) (hb : B ≤ i.blk) (hw : w.heap[i.blk]? = some (.deferred (some []))) : BR R B w i .dfr
theorem LoopR.mono {R R' : Ren} (h : R.le R') {l l' : Loop} (k : LoopR R l l') : LoopR R' l l' :=
  ⟨k.state, k.pending, k.params, k.assign, k.body, k.size, fun t v e n => let ⟨u, a, b⟩ := k.tmps t v e n; ⟨u, a, b.mono h⟩⟩
theorem BR.keep {R R' : Ren} {B : Nat} {w w' : World} {i : RI} {x : Blk} (hR : R.le R') (h : BR R B w i x) (hw : w'.heap[i.blk]? = w.heap[i.blk]?) : BR R' B w' i x := by
  cases h with
  | old cs ho hb h =>
    refine .old cs ho hb fun j v e => ?_
    obtain ⟨v', a, b⟩ := h j v e
    refine ⟨v', ?_, b.mono hR⟩
    simp only [World.cell?] at a ⊢
    rw [hw]; exact a
  | own m cs c' e fr hm ho hb hw' ht hle hfix hsz hfr h =>
    exact .own m cs c' e fr hm ho hb (hw.trans hw') ht hle hfix hsz hfr fun j v e => let ⟨v', a, b⟩ := h j v e; ⟨v', a, b.mono hR⟩
  | map es es' clock ho hb hw' h => exact .map es es' clock ho hb (hw.trans hw') (h.mono hR)
  | iter s pos ho hb hoff hw' => exact .iter s pos ho hb hoff (hw.trans hw')
  | loop l l' ho hb hw' h => exact .loop l l' ho hb (hw.trans hw') (h.mono hR)
  | dfr ho hb hw' => exact .dfr ho hb (hw.trans hw')
structure Cx where
  B : Nat
  w0 : World
  G : Nat
  kept : Nat → Option Obj
structure Rel (X : Cx) (R : Ren) (H : Hp) (w : World) : Prop where
  blk : ∀ b x, H.get b = some x → ∃ i, R b = some i ∧ BR R X.B w i x
  inj : ∀ b c i j x y, H.get b = some x → H.get c = some y → R b = some i → R c = some j → i.own = true → j.own = true → i.blk = j.blk → b = c
  free : ∀ b, H.next ≤ b → R b = none
  lt : ∀ b i, R b = some i → i.own = true → i.blk < w.heap.size
  below : Below X.B X.w0 w
  size : X.B ≤ w.heap.size
  glob : ∀ g, g < X.G → ∃ i, R g = some i ∧ i.blk = g ∧ i.off = 0
  gle : X.G ≤ H.next
  kept : ∀ k o, X.kept k = some o → X.B ≤ k ∧ w.heap[k]? = some o ∧ ∀ b i, R b = some i → i.own = true → i.blk ≠ k
theorem Rel.live {X : Cx} {w : World} {R : Ren} {H : Hp} (h : Rel X R H w) {b : Nat} {x : Blk} (hb : H.get b = some x) : b < H.next := by
  obtain ⟨i, e, _⟩ := h.blk b x hb
  rcases Nat.lt_or_ge b H.next with k | k
  · exact k
  · rw [h.free b k] at e; cases e
theorem Rel.drew {X : Cx} {w : World} {R : Ren} {H : Hp} (h : Rel X R H w) : Rel X R H w.drew :=
  ⟨fun b x e => let ⟨i, a, k⟩ := h.blk b x e; ⟨i, a, k.keep (Ren.le_refl R) rfl⟩, h.inj, h.free, h.lt, h.below.drew, h.size, h.glob, h.gle, h.kept⟩
theorem RI_own_of_BR {R : Ren} {B : Nat} {w : World} {i : RI} {x : Blk} (h : BR R B w i x) : (i.own = true ∧ B ≤ i.blk) ∨ (i.own = false ∧ i.blk < B ∧ ∃ cs, x = .cells .old cs) := by
  cases h with
  | old cs ho hb h => exact .inr ⟨ho, hb, _, rfl⟩
  | own m cs c' e fr hm ho hb => exact .inl ⟨ho, hb⟩
  | map es es' clock ho hb => exact .inl ⟨ho, hb⟩
  | iter s pos ho hb => exact .inl ⟨ho, hb⟩
  | loop l l' ho hb => exact .inl ⟨ho, hb⟩
  | dfr ho hb => exact .inl ⟨ho, hb⟩
def Ren.add (R : Ren) (b : Nat) (i : RI) : Ren := fun c => if c = b then some i else R c
theorem Ren.le_add {R : Ren} {b : Nat} (i : RI) (h : R b = none) : R.le (R.add b i) := by
  intro c j e
  unfold Ren.add
  by_cases k : c = b
  · subst k; rw [h] at e; cases e
  · rw [if_neg k]; exact e
theorem Ren.add_same (R : Ren) (b : Nat) (i : RI) : (R.add b i) b = some i := by simp [Ren.add]
theorem heap_alloc_lt {w : World} {o : Obj} {k : Nat} (h : k < w.heap.size) : (w.alloc o).heap[k]? = w.heap[k]? := Below.heap_alloc w o k h
theorem heap_alloc_new (w : World) (o : Obj) : (w.alloc o).heap[w.heap.size]? = some o := by
  show (w.heap.push o)[w.heap.size]? = _
  rw [Array.getElem?_push, if_pos rfl]
theorem Rel.alloc {X : Cx} {w : World} {R : Ren} {H : Hp} (h : Rel X R H w) (x : Blk) (o : Obj) (i : RI) (hi : i.blk = w.heap.size) (_hio : i.own = true)
    (hx : BR (R.add H.next i) X.B (w.alloc o) i x) : Rel X (R.add H.next i) (H.alloc x) (w.alloc o) := by
  have hn : R H.next = none := h.free _ (Nat.le_refl _)
  have hle := Ren.le_add i hn
  have hlt : ∀ b j y, H.get b = some y → R b = some j → j.blk < w.heap.size := by
    intro b j y e r
    obtain ⟨j', r', br⟩ := h.blk b y e
    rw [r] at r'; cases r'
    rcases RI_own_of_BR br with ⟨k, _⟩ | ⟨_, k, _⟩
    · exact h.lt b j r k
    · have := h.size; omega
  refine ⟨?_, ?_, ?_, ?_, h.below.alloc h.size o, by simp; have := h.size; omega, ?_, by rw [Hp.next_alloc]; have := h.gle; omega, ?_⟩
  · intro b y e
    rw [Hp.get_alloc] at e
    by_cases k : b = H.next
    · subst k; rw [if_pos rfl] at e; cases e
      exact ⟨i, Ren.add_same _ _ _, hx⟩
    · rw [if_neg k] at e
      obtain ⟨j, r, br⟩ := h.blk b y e
      exact ⟨j, hle _ _ r, br.keep hle (heap_alloc_lt (hlt b j y e r))⟩
  · intro b c j k y z eb ec rb rc ob oc e
    rw [Hp.get_alloc] at eb ec
    by_cases kb : b = H.next
    · by_cases kc : c = H.next
      · omega
      · rw [if_neg kc] at ec
        subst kb
        rw [Ren.add_same] at rb; cases rb
        have rc' : R c = some k := by simpa [Ren.add, kc] using rc
        have := hlt c k z ec rc'
        omega
    · rw [if_neg kb] at eb
      have rb' : R b = some j := by simpa [Ren.add, kb] using rb
      by_cases kc : c = H.next
      · subst kc
        rw [Ren.add_same] at rc; cases rc
        have := hlt b j y eb rb'
        omega
      · rw [if_neg kc] at ec
        have rc' : R c = some k := by simpa [Ren.add, kc] using rc
        exact h.inj b c j k y z eb ec rb' rc' ob oc e
  · intro b hb
    rw [Hp.next_alloc] at hb
    have : b ≠ H.next := by omega
    simp only [Ren.add, if_neg this]
    exact h.free b (by omega)
  · intro b j e o'
    by_cases k : b = H.next
    · subst k; rw [Ren.add_same] at e; cases e; simp [hi]
    · have e' : R b = some j := by simpa [Ren.add, k] using e
      have := h.lt b j e' o'
      simp; omega
  · intro g hg
    obtain ⟨j, e, q⟩ := h.glob g hg
    exact ⟨j, hle _ _ e, q⟩
  · intro k o' hk
    obtain ⟨h1, h2, h3⟩ := h.kept k o' hk
    have hks : k < w.heap.size := by
      rcases Nat.lt_or_ge k w.heap.size with q | q
      · exact q
      · rw [Array.getElem?_eq_none q] at h2; cases h2
    refine ⟨h1, (heap_alloc_lt hks).trans h2, fun b j e ho => ?_⟩
    by_cases kb : b = H.next
    · subst kb; rw [Ren.add_same] at e; cases e; omega
    · exact h3 b j (by simpa [Ren.add, kb] using e) ho
theorem BR_new_cells {R : Ren} {B : Nat} {w : World} {i : RI} {m : Mode} (hm : m ≠ .old) {cs cs' : List Value} (extra : List Value) (e : TypeId) (hB : B ≤ w.heap.size) (hi : i = ⟨w.heap.size, 0, i.sz, cs.length + extra.length, true⟩)
    (hf : m.isFix = true → extra = []) (hs : m.okE i e) (h : VRs R cs cs') : BR R B (w.alloc (.cells ⟨cs' ++ extra⟩ e)) i (.cells m cs) := by
  have hl := h.length
  rw [hi]
  refine .own m cs ⟨cs' ++ extra⟩ e (0, 0) hm rfl hB (heap_alloc_new _ _) (by simp [hl]) (by simp) (fun k => by simp [hf k]) (by rw [hi] at hs; exact hs) (by intro o _ k; simp at k) ?_
  intro j v hj
  obtain ⟨v', a, b⟩ := h.get j v hj
  refine ⟨v', ?_, b⟩
  have hjl : j < cs'.length := by
    rcases Nat.lt_or_ge j cs'.length with k | k
    · exact k
    · simp [List.getElem?_eq_none k] at a
  simp [List.getElem?_append_left hjl, a]
theorem Rel.allocCells {X : Cx} {w : World} {R : Ren} {H : Hp} (h : Rel X R H w) {m : Mode} (hm : m ≠ .old) (sz : Nat) {cs cs' : List Value} (extra : List Value) (e : TypeId) (hf : m.isFix = true → extra = []) (hs : m.okE ⟨w.heap.size, 0, sz, cs.length + extra.length, true⟩ e) (hv : VRs R cs cs') :
    Rel X (R.add H.next ⟨w.heap.size, 0, sz, cs.length + extra.length, true⟩) (H.alloc (.cells m cs)) (w.alloc (.cells ⟨cs' ++ extra⟩ e)) ∧ R.le (R.add H.next ⟨w.heap.size, 0, sz, cs.length + extra.length, true⟩) :=
  have hle := Ren.le_add (R := R) ⟨w.heap.size, 0, sz, cs.length + extra.length, true⟩ (h.free H.next (Nat.le_refl _))
  ⟨h.alloc _ _ _ rfl rfl (BR_new_cells hm extra e h.size rfl hf hs (hv.mono hle)), hle⟩
theorem Rel.cell {X : Cx} {w : World} {R : Ren} {H : Hp} (h : Rel X R H w) {a a' : Addr} (ha : AR R a a') {m : Mode} {cs : List Value} (hb : H.get a.block = some (.cells m cs)) {k : Nat} {v : Value} (hv : cs[a.off + k]? = some v) :
    ∃ v', w.cell? (a'.add k) = some v' ∧ VR R v v' := by
  obtain ⟨i, r, br⟩ := h.blk _ _ hb
  obtain ⟨sp, sp', j, r', e1, e2⟩ := ha
  rw [r] at r'; cases r'
  have hadd : a'.add k = ⟨i.blk, i.off + (a.off + k), none⟩ := by
    cases a' with
    | mk b o s =>
      simp only at sp' e1 e2
      subst sp' e1 e2
      unfold Addr.add
      by_cases hk : k = 0
      · subst hk; simp; omega
      · rw [if_neg hk]; simp; omega
  rw [hadd]
  cases br with
  | old cs ho hb' hh => exact hh _ _ hv
  | own m cs c' e fr hm ho hb' hw ht hle hfix hsz hfr hh =>
    obtain ⟨v', x, y⟩ := hh _ _ hv
    exact ⟨v', by simp [World.cell?, hw, x], y⟩
theorem Rel.store {X : Cx} {w : World} {R : Ren} {H : Hp} (h : Rel X R H w) {a a' : Addr} (ha : AR R a a') {m : Mode} (hm : m ≠ .old) {cs : List Value} (hb : H.get a.block = some (.cells m cs)) {k : Nat} (hk : a.off + k < cs.length) {v v' : Value} (hv : VR R v v') :
    (w.cell? (a'.add k)).isSome = true ∧ w.frozen? (a'.add k) = false ∧ Rel X R (H.put a.block (.cells m (cs.set (a.off + k) v))) (w.setCell (a'.add k) v') := by
  obtain ⟨i, r, br⟩ := h.blk _ _ hb
  obtain ⟨sp, sp', j, r', e1, e2⟩ := ha
  rw [r] at r'; cases r'
  have hadd : a'.add k = ⟨i.blk, i.off + (a.off + k), none⟩ := by
    cases a' with
    | mk b o s =>
      simp only at sp' e1 e2
      subst sp' e1 e2
      unfold Addr.add
      by_cases hk : k = 0
      · subst hk; simp; omega
      · rw [if_neg hk]; simp; omega
  rw [hadd]
  cases br with
  | old cs ho hb' hh => exact absurd rfl hm
  | own m cs c' e fr hm' ho hb' hw ht hle hfix hsz hfr hh =>
    have hin : i.off + (a.off + k) < c'.size := by omega
    refine ⟨by simp [World.cell?, hw, hin], ?_, ?_⟩
    · have := hfr (i.off + (a.off + k)) (by omega)
      cases fr with
      | mk lo hi =>
        simp only [World.frozen?, hw]
        simpa using this
    · have hw' : (w.setCell ⟨i.blk, i.off + (a.off + k), none⟩ v').heap[i.blk]? = some (.cells (c'.setIfInBounds (i.off + (a.off + k)) v') e fr) := by
        simp [World.setCell, Array.getElem?_modify, hw]
      refine ⟨?_, ?_, h.free, ?_, h.below.setCell (p := ⟨i.blk, i.off + (a.off + k), none⟩) hb' v', by simpa using h.size, h.glob, h.gle, fun k o hk => ⟨(h.kept k o hk).1, (Below.heap_setCell _ _ _ _ (fun e => (h.kept k o hk).2.2 _ _ r ho e.symm)).trans (h.kept k o hk).2.1, (h.kept k o hk).2.2⟩⟩
      · intro b x eb
        rw [Hp.get_put] at eb
        by_cases kb : b = a.block
        · subst kb; rw [if_pos rfl] at eb; cases eb
          refine ⟨i, r, .own m _ _ e fr hm ho hb' hw' (by simpa using ht) (by simpa using hle) (fun q => by simpa using hfix q) hsz hfr ?_⟩
          intro j u hu
          by_cases kj : a.off + k = j
          · subst kj
            rw [List.getElem?_set_self hk] at hu; cases hu
            exact ⟨v', by rw [Array.getElem?_setIfInBounds]; simp [hin], hv⟩
          · rw [List.getElem?_set_ne kj] at hu
            obtain ⟨u', x, y⟩ := hh j u hu
            refine ⟨u', ?_, y⟩
            rw [Array.getElem?_setIfInBounds, if_neg (by omega)]
            exact x
        · rw [if_neg kb] at eb
          obtain ⟨j, rj, brj⟩ := h.blk b x eb
          refine ⟨j, rj, brj.keep (Ren.le_refl R) (Below.heap_setCell _ _ _ _ ?_)⟩
          intro e'
          rcases RI_own_of_BR brj with ⟨oj, _⟩ | ⟨_, lj, _⟩
          · exact kb (h.inj b a.block j i x _ eb hb rj r oj ho e')
          · simp only at e'; omega
      · intro b c i' j' x y eb ec rb rc ob oc e'
        have g : ∀ d z, (H.put a.block (.cells m (cs.set (a.off + k) v))).get d = some z → ∃ z', H.get d = some z' := by
          intro d z ed
          rw [Hp.get_put] at ed
          by_cases kd : d = a.block
          · exact ⟨_, kd ▸ hb⟩
          · rw [if_neg kd] at ed; exact ⟨z, ed⟩
        obtain ⟨x', ex⟩ := g b x eb
        obtain ⟨y', ey⟩ := g c y ec
        exact h.inj b c i' j' x' y' ex ey rb rc ob oc e'
      · intro b i' e' o'
        simpa using h.lt b i' e' o'
theorem Rel.kill {X : Cx} {w : World} {R : Ren} {H : Hp} (h : Rel X R H w) (b : Nat) : Rel X R (H.kill b) w := by
  have g : ∀ d z, (H.kill b).get d = some z → H.get d = some z ∧ d ≠ b := by
    intro d z ed
    rw [Hp.get_kill] at ed
    by_cases kd : d = b
    · rw [if_pos kd] at ed; cases ed
    · rw [if_neg kd] at ed; exact ⟨ed, kd⟩
  exact ⟨fun c x e => h.blk c x (g c x e).1, fun c d i j x y ec ed => h.inj c d i j x y (g c x ec).1 (g d y ed).1, h.free, h.lt, h.below, h.size, h.glob, h.gle, h.kept⟩
theorem Rel.putObj {X : Cx} {w : World} {R : Ren} {H : Hp} (h : Rel X R H w) {b : Nat} {i : RI} {x x' : Blk} (hb : H.get b = some x) (r : R b = some i) (ho : i.own = true) (hB : X.B ≤ i.blk) (o : Obj) (hx : BR R X.B ({ w with heap := w.heap.setIfInBounds i.blk o }) i x') :
    Rel X R (H.put b x') { w with heap := w.heap.setIfInBounds i.blk o } := by
  have hne : ∀ k, k ≠ i.blk → (w.heap.setIfInBounds i.blk o)[k]? = w.heap[k]? := by
    intro k hk
    rw [Array.getElem?_setIfInBounds, if_neg (by omega)]
  refine ⟨?_, ?_, h.free, ?_, ?_, by simpa using h.size, h.glob, h.gle, fun k o' hk => ⟨(h.kept k o' hk).1, (hne k fun e => (h.kept k o' hk).2.2 _ _ r ho e.symm).trans (h.kept k o' hk).2.1, (h.kept k o' hk).2.2⟩⟩
  · intro c y e
    rw [Hp.get_put] at e
    by_cases k : c = b
    · subst k; rw [if_pos rfl] at e; cases e; exact ⟨i, r, hx⟩
    · rw [if_neg k] at e
      obtain ⟨j, rj, brj⟩ := h.blk c y e
      refine ⟨j, rj, brj.keep (Ren.le_refl R) (hne _ ?_)⟩
      intro e'
      rcases RI_own_of_BR brj with ⟨oj, _⟩ | ⟨_, lj, _⟩
      · exact k (h.inj c b j i y x e hb rj r oj ho e')
      · omega
  · intro c d i' j' y z ec ed rc rd oc od e'
    have g : ∀ q z, (H.put b x').get q = some z → ∃ z', H.get q = some z' := by
      intro q z eq
      rw [Hp.get_put] at eq
      by_cases kq : q = b
      · exact ⟨_, kq ▸ hb⟩
      · rw [if_neg kq] at eq; exact ⟨z, eq⟩
    obtain ⟨x1, ex⟩ := g c y ec
    obtain ⟨y1, ey⟩ := g d z ed
    exact h.inj c d i' j' x1 y1 ex ey rc rd oc od e'
  · intro c i' e' o'
    simpa using h.lt c i' e' o'
  · refine h.below.trans ⟨rfl, rfl, rfl, by simp, fun k hk => hne k (by omega)⟩
theorem Rel.congr {X : Cx} {w : World} {R : Ren} {H H' : Hp} (h : Rel X R H w) (hg : ∀ b, H'.get b = H.get b) (hn : H'.next = H.next) : Rel X R H' w :=
  ⟨fun b x e => h.blk b x (by rw [← hg]; exact e), fun b c i j x y eb ec => h.inj b c i j x y (by rw [← hg]; exact eb) (by rw [← hg]; exact ec), fun b hb => h.free b (by rw [← hn]; exact hb), h.lt, h.below, h.size, h.glob, by rw [hn]; exact h.gle, h.kept⟩
def wr : List Value → Nat → List Value → List Value
  | cs, _, [] => cs
  | cs, o, v :: vs => wr (cs.set o v) (o + 1) vs
theorem wr_length : ∀ (vs : List Value) (cs : List Value) (o : Nat), (wr cs o vs).length = cs.length
  | [], _, _ => rfl
  | v :: vs, cs, o => by rw [wr, wr_length vs]; simp
theorem Rel.storeCells {X : Cx} {P : Program} {R : Ren} {m : Mode} (hm : m ≠ .old) {a a' : Addr} (ha : AR R a a') : ∀ {vs vs' : List Value} (k : Nat) {w : World} {H : Hp} {cs : List Value}, Rel X R H w → H.get a.block = some (.cells m cs) →
    a.off + k + vs.length ≤ cs.length → (vs.all fun v => v.oneCell') = true → VRs R vs vs' →
    ∃ w', (storeCells a' vs' k).run P w = .ok () w' ∧ Rel X R (H.put a.block (.cells m (wr cs (a.off + k) vs))) w'
  | [], _, k, w, H, cs, h, hb, _, _, .nil => by
    refine ⟨w, rfl, Rel.congr (H' := H.put a.block (.cells m (wr cs (a.off + k) []))) h (fun b => ?_) rfl⟩
    rw [Hp.get_put]
    by_cases e : b = a.block
    · subst e; simp [wr, hb]
    · rw [if_neg e]
  | v :: vs, _, k, w, H, cs, h, hb, hl, h1, .cons (v' := v') (x' := vs') hv hvs => by
    simp only [List.all_cons, Bool.and_eq_true] at h1
    simp only [List.length_cons] at hl
    have hv1 : v'.oneCell' = true := by
      cases hv <;> simp_all [Value.oneCell']
    obtain ⟨hc, hz, hR⟩ := h.store ha hm hb (k := k) (by omega) hv
    obtain ⟨u, hu⟩ := Option.isSome_iff_exists.1 hc
    have hst : (Go.store (a'.add k) v').run P w = .ok () (w.setCell (a'.add k) v') := by
      rw [run_store P w _ v' _ hv1]
      simp [hu, hz]
    have hb2 : (H.put a.block (.cells m (cs.set (a.off + k) v))).get a.block = some (.cells m (cs.set (a.off + k) v)) := by
      rw [Hp.get_put, if_pos rfl]
    obtain ⟨w', hr, hR'⟩ := Rel.storeCells hm ha (k + 1) hR hb2 (by simp; omega) h1.2 hvs
    refine ⟨w', ?_, hR'.congr (fun b => ?_) rfl⟩
    · simp only [Go.storeCells, Sem.run_bind, hst, Result.andThen_ok]
      exact hr
    · simp only [Hp.get_put]
      by_cases e : b = a.block
      · subst e; simp [wr, Nat.add_assoc]
      · simp [e]
theorem Rel.loadCells {X : Cx} {P : Program} {w : World} {R : Ren} {H : Hp} (h : Rel X R H w) {a a' : Addr} (ha : AR R a a') {m : Mode} {cs : List Value} (hb : H.get a.block = some (.cells m cs)) {n : Nat} (hn : a.off + n ≤ cs.length) :
    ∃ vs', (loadCells a' n).run P w = .ok ⟨vs'⟩ w ∧ VRs R ((cs.drop a.off).take n) vs' := by
  have key : ∀ j, ∃ v', j < n → w.cell? (a'.add j) = some v' ∧ ∃ v, cs[a.off + j]? = some v ∧ VR R v v' := by
    intro j
    by_cases hj : j < n
    · have hlt : a.off + j < cs.length := by omega
      obtain ⟨v', x, y⟩ := h.cell ha hb (k := j) (List.getElem?_eq_getElem hlt)
      exact ⟨v', fun _ => ⟨x, _, List.getElem?_eq_getElem hlt, y⟩⟩
    · exact ⟨.nilFunc, fun k => absurd k hj⟩
  obtain ⟨f, hf⟩ : ∃ f : Nat → Value, ∀ j, j < n → w.cell? (a'.add j) = some (f j) ∧ ∃ v, cs[a.off + j]? = some v ∧ VR R v (f j) := ⟨fun j => Classical.choose (key j), fun j => Classical.choose_spec (key j)⟩
  refine ⟨(List.range n).map f, ?_, ?_⟩
  · have := run_loadCells (P := P) w a' n f (fun j hj => (hf j hj).1)
    simpa using this
  · refine VRs.of_get (by simp; omega) fun j v hj => ?_
    have hjn : j < n := by
      rcases Nat.lt_or_ge j n with k | k
      · exact k
      · rw [List.getElem?_take, if_neg (by omega)] at hj; cases hj
    obtain ⟨_, u, hu, hr⟩ := hf j hjn
    rw [List.getElem?_take, if_pos hjn, List.getElem?_drop, hu] at hj
    cases hj
    exact ⟨f j, by simp [hjn], hr⟩
end Go.Det

namespace Go.Det
open Go Go.RowKit
abbrev Ev := Operand → Option Value
def isAggD (P : Program) (t : TypeId) : Option Bool :=
  match P.underlying t with
  | some (.struct _) | some (.array _ _) => some true
  | some _ => some false
  | none => none
def sizeD (P : Program) (t : TypeId) : Option Nat := (P.info? t).map (·.size)
def bytesD (P : Program) (t : TypeId) : Option Nat := (P.info? t).map (·.bytes)
def zeroD (P : Program) (t : TypeId) : Option Value := (P.info? t).bind (·.zero)
def loadD (P : Program) (H : Hp) (t : TypeId) : Value → Option Value
  | .pointer (some ⟨b, o, none⟩) =>
    match H.get b with
    | some (.cells _ cs) =>
      match isAggD P t with
      | some true =>
        match sizeD P t with
        | some n => if o + n ≤ cs.length then some (.agg ⟨(cs.drop o).take n⟩) else none
        | none => none
      | some false => cs[o]?
      | none => none
    | _ => none
  | _ => none
def storeD (P : Program) (H : Hp) (t : TypeId) (a v : Value) : Option Hp :=
  match a with
  | .pointer (some ⟨b, o, none⟩) =>
    match H.get b with
    | some (.cells m cs) =>
      if m ≠ .old ∧ sizeD P t = some v.cells.size ∧ o + v.cells.size ≤ cs.length ∧ (v.cells.toList.all fun x => x.oneCell') = true then
        some (H.put b (.cells m (wr cs o v.cells.toList)))
      else none
    | _ => none
  | _ => none
def isB (P : Program) (t : TypeId) : Bool := match P.underlying t with
  | some (.struct fs) => match fs.toList with
    | [a, b] => a.name == "addr" && b.name == "buf"
    | _ => false
  | _ => false
def bM (P : Program) (t : TypeId) : Mode := match isB P t with
  | true => .var t
  | false => .fix
def newM (m : Mode) (H : Hp) (cs : List Value) : Value × Hp := (.pointer (some ⟨H.next, 0, none⟩), H.alloc (.cells m cs))
def newD (H : Hp) (cs : List Value) : Value × Hp := (.pointer (some ⟨H.next, 0, none⟩), H.alloc (.cells .fix cs))
def pureRun {α : Type} (P : Program) : Sem α → Option α
  | .pure a => some a
  | .program k => pureRun P (k P)
  | _ => none
theorem pureRun_run {α : Type} (P : Program) : ∀ (s : Sem α) {a : α}, pureRun P s = some a → ∀ w, s.run P w = .ok a w
  | .pure _, _, h, w => by simp only [pureRun, Option.some.injEq] at h; subst h; rfl
  | .program k, a, h, w => by simp only [pureRun] at h; exact pureRun_run P (k P) h w
  | .load _ _ _, _, h, _ | .store _ _ _ _, _, h, _ | .new _ _, _, h, _ | .shape _ _, _, h, _ | .freeze _ _ _, _, h, _ | .frozen _ _, _, h, _
  | .getObj _ _, _, h, _ | .setObj _ _ _, _, h, _ | .choose _ _, _, h, _ | .sys _ _, _, h, _ | .mark _ _, _, h, _ | .halt _, _, h, _ => by simp [pureRun] at h
def genD (P : Program) (ev : Ev) (o : Oper) : Option Value :=
  if (o.op.operands.toList.all fun x => (ev x).any flat) = true then
    match pureRun P (execOp (fun x => (ev x).getD undef) o) with
    | some (.value v) => if flat v then some v else none
    | _ => none
  else none
def intD (op : BinOp) (k : IntKind) (a b : Int) : Option Value :=
  match op with
  | .add => some (.int k (k.wrap (a + b)))
  | .sub => some (.int k (k.wrap (a - b)))
  | .mul => some (.int k (k.wrap (a * b)))
  | .quo => if b = 0 then none else some (.int k (k.wrap (a.tdiv b)))
  | .rem => if b = 0 then none else some (.int k (a.tmod b))
  | .and => some (.int k (bits .and k a b))
  | .or => some (.int k (bits .or k a b))
  | .xor => some (.int k (bits .xor k a b))
  | .andNot => some (.int k (bits .andNot k a b))
  | .eql => some (.bool (a == b))
  | .neq => some (.bool (a != b))
  | .lss => some (.bool (a < b))
  | .leq => some (.bool (a ≤ b))
  | .gtr => some (.bool (a > b))
  | .geq => some (.bool (a ≥ b))
  | _ => none
def shiftD (op : BinOp) (k : IntKind) (a b : Int) : Option Value :=
  match op with
  | .shl => if b < 0 then none else some (.int k (k.wrap (a * 2 ^ (min b.toNat k.bits))))
  | .shr => if b < 0 then none else some (.int k (a.fdiv (2 ^ (min b.toNat k.bits))))
  | _ => none
def strD (op : BinOp) (a b : ByteArray) : Option Value :=
  match op with
  | .add => if ((a.size + b.size : Nat) : Int) > IntKind.i64.max then none else some (.string (a ++ b))
  | .eql => some (.bool (a.toList == b.toList))
  | .neq => some (.bool !(a.toList == b.toList))
  | .lss => some (.bool (Op.bytesLess a.toList b.toList))
  | .leq => some (.bool (Op.bytesLess a.toList b.toList || a.toList == b.toList))
  | .gtr => some (.bool !(Op.bytesLess a.toList b.toList || a.toList == b.toList))
  | .geq => some (.bool !(Op.bytesLess a.toList b.toList))
  | _ => none
def nilEq (d : TypeDesc) : Value → Value → Option Bool
  | .pointer none, .pointer b => match d with | .pointer _ => some b.isNone | _ => none
  | .pointer (some _), .pointer none => match d with | .pointer _ => some false | _ => none
  | .slice none 0 0, .slice b _ _ => match d with | .slice _ => some b.isNone | _ => none
  | .slice (some _) _ _, .slice none 0 0 => match d with | .slice _ => some false | _ => none
  | .map none, .map b => match d with | .map _ _ => some b.isNone | _ => none
  | .map (some _), .map none => match d with | .map _ _ => some false | _ => none
  | .nilFunc, .func _ _ _ => match d with | .func _ _ _ => some false | _ => none
  | .func _ _ _, .nilFunc => match d with | .func _ _ _ => some false | _ => none
  | .nilIface, .iface _ _ => match d with | .interface _ => some false | _ => none
  | .iface _ _, .nilIface => match d with | .interface _ => some false | _ => none
  | _, _ => none
def nilD (P : Program) (op : BinOp) (t : TypeId) (x y : Value) : Option Value :=
  match P.underlying t with
  | some d =>
    match nilEq d x y, op with
    | some b, .eql => some (.bool b)
    | some b, .neq => some (.bool !b)
    | _, _ => none
  | none => none
def binD (P : Program) (ev : Ev) (o : Oper) (op : BinOp) (t : TypeId) (x y : Value) : Option Value :=
  match x, y with
  | .int k a, .int k' b =>
    match op with
    | .shl | .shr => shiftD op k a b
    | _ => if k = k' then intD op k a b else none
  | .string a, .string b => strD op a b
  | .pointer (some a), .pointer (some b) => match op, P.underlying t with
    | .neq, some (.pointer te) => match P.info? te with
      | some _ => if a = b then some (.bool false) else none
      | none => none
    | _, _ => none
  | x, y =>
    match nilD P op t x y with
    | some v => some v
    | none => genD P ev o
def placeD (P : Program) (t : TypeId) (i : Nat) : Option (Nat × Nat) :=
  match P.underlying t with
  | some (.struct fields) => match fields[i]? with
    | some f => (sizeD P f.type).map fun n => (f.offset, n)
    | none => none
  | _ => none
def fillD (place : Nat → Option (Nat × Nat)) (cells : List Value) : List (Nat × Value) → Option (List Value)
  | [] => some cells
  | (i, v) :: rest =>
    match place i with
    | none => none
    | some (off, size) => if v.cells.size = size ∧ off + v.cells.size ≤ cells.length then fillD place (wr cells off v.cells.toList) rest else none
def partsD (ev : Ev) : List (Nat × Operand) → Option (List (Nat × Value))
  | [] => some []
  | (i, x) :: r =>
    match ev x, partsD ev r with
    | some v, some l => some ((i, v) :: l)
    | _, _ => none
def argsD (ev : Ev) : List Operand → Option (List Value)
  | [] => some []
  | x :: r =>
    match ev x, argsD ev r with
    | some v, some l => some (v :: l)
    | _, _ => none
def buildD (P : Program) (t : TypeId) (parts : List (Nat × Value)) : Option Value :=
  match zeroD P t with
  | some z =>
    if flat z then
      match P.underlying t with
      | some (.struct fields) =>
        if (fields.toList.all fun f => (sizeD P f.type).isSome) = true then
          match fillD (placeD P t) z.cells.toList parts with
          | some cs => some (.agg ⟨cs⟩)
          | none => none
        else none
      | some (.array _ elem) =>
        match sizeD P elem with
        | some n =>
          match fillD (fun i => some (i * n, n)) z.cells.toList parts with
          | some cs => some (.agg ⟨cs⟩)
          | none => none
        | none => none
      | _ => none
    else none
  | none => none
def repsD (z : List Value) : Nat → List Value
  | 0 => []
  | n + 1 => z ++ repsD z n
def buildSliceD (P : Program) (H : Hp) (t : TypeId) (len : Nat) (parts : List (Nat × Value)) : Option (Value × Hp) :=
  match P.underlying t with
  | some (.slice elem) =>
    match sizeD P elem, zeroD P elem with
    | some n, some z =>
      if flat z ∧ z.cells.size = n ∧ 0 < n ∧ len * n ≤ 16777216 then
        match fillD (fun i => some (i * n, n)) (repsD z.cells.toList len) parts with
        | some cs => some (.slice (some ⟨H.next, 0, none⟩) len len, H.alloc (.cells .fix cs))
        | none => none
      else none
    | _, _ => none
  | _ => none
def makeSliceD (P : Program) (H : Hp) (t : TypeId) : Value → Value → Option (Value × Hp)
  | .int _ l, .int _ c =>
    match P.underlying t with
    | some (.slice elem) =>
      match sizeD P elem, bytesD P elem, zeroD P elem with
      | some n, some by_, some z =>
        if flat z ∧ z.cells.size = n ∧ 0 < n ∧ 0 ≤ l ∧ l ≤ c ∧ c ≤ 281474976710656 ∧ by_ * c ≤ 281474976710656 then
          some (.slice (some ⟨H.next, 0, none⟩) l.toNat c.toNat, H.alloc (.cells .fix (repsD z.cells.toList c.toNat)))
        else none
      | _, _, _ => none
    | _ => none
  | _, _ => none
def boundD (v : Value) (y : Nat) : Option Nat :=
  match v with
  | .int _ i => if 0 ≤ i ∧ i ≤ y then some i.toNat else none
  | _ => none
def optB (o : Option Value) (y d : Nat) : Option Nat :=
  match o with
  | some v => boundD v y
  | none => some d
def szOk (H : Hp) (b n : Nat) : Bool :=
  match H.get b with
  | some (.cells (.more s _) _) => s == n
  | some (.cells .old _) => true
  | _ => false
def sliceD (P : Program) (H : Hp) (t : TypeId) (x : Value) (lo hi mx : Option Value) : Option Value :=
  match P.underlying t, x with
  | some .string, .string s =>
    match mx with
    | some _ => none
    | none =>
      match optB hi s.size s.size with
      | some h =>
        match optB lo h 0 with
        | some l => some (.string (s.extract l h))
        | none => none
      | none => none
  | some (.slice elem), .slice (some ⟨b, o, none⟩) len cap =>
    match sizeD P elem with
    | some n =>
      let known := if LOOSE ≤ cap then len else cap
      match mx with
      | some mv =>
        match hi, boundD mv known with
        | some hv, some m =>
          match boundD hv m with
          | some h =>
            match optB lo h 0 with
            | some l => if m < LOOSE ∧ ¬ (len = 0 ∧ LOOSE ≤ cap) then some (.slice (some (if m = l then ⟨b, o, none⟩ else ⟨b, o + l * n, none⟩)) (h - l) (m - l)) else none
            | none => none
          | none => none
        | _, _ => none
      | none =>
        match optB hi known len with
        | some h =>
          match optB lo h 0 with
          | some l =>
            if cap = LOOSE then
              if l = 0 then some (.slice (some ⟨b, o, none⟩) h LOOSE)
              else if szOk H b n = true ∧ l < len then some (.slice (some ⟨b, o + l * n, none⟩) (h - l) LOOSE)
              else if l = len then some (.slice (some ⟨b, o + l * n, none⟩) 0 EMPTY) else none
            else if LOOSE < cap then (if l = 0 ∧ h = 0 then some (.slice (some ⟨b, o, none⟩) 0 EMPTY) else none)
            else if len ≤ cap then some (.slice (some (if cap = l then ⟨b, o, none⟩ else ⟨b, o + l * n, none⟩)) (h - l) (cap - l)) else none
          | none => none
        | none => none
    | none => none
  | some (.slice elem), .slice none 0 0 =>
    match mx, optB hi 0 0, optB lo 0 0, sizeD P elem with
    | none, some _, some _, some _ => some (.slice none 0 0)
    | some mv, some _, some _, some _ => match hi, boundD mv 0 with
      | some _, some _ => some (.slice none 0 0)
      | _, _ => none
    | _, _, _, _ => none
  | some (.array n elem), .pointer (some ⟨b, o, none⟩) =>
    match sizeD P elem with
    | some sz =>
      match mx, hi with
      | none, hi =>
        match optB hi n n with
        | some h =>
          match optB lo h 0 with
          | some l => if n < LOOSE then some (.slice (some (if n = l then ⟨b, o, none⟩ else ⟨b, o + l * sz, none⟩)) (h - l) (n - l)) else none
          | none => none
        | none => none
      | some mv, some hv =>
        match boundD mv n with
        | some m =>
          match boundD hv m with
          | some h =>
            match optB lo h 0 with
            | some l => if m < LOOSE then some (.slice (some (if m = l then ⟨b, o, none⟩ else ⟨b, o + l * sz, none⟩)) (h - l) (m - l)) else none
            | none => none
          | none => none
        | none => none
      | _, _ => none
    | none => none
  | _, _ => none
def fieldAddrD (P : Program) (t : TypeId) (x : Value) (f : Nat) : Option Value :=
  match P.underlying t, x with
  | some (.struct fields), .pointer (some ⟨b, o, none⟩) =>
    match fields[f]? with
    | some fd => match sizeD P fd.type with
      | some n => if n = 0 then none else some (.pointer (some ⟨b, o + fd.offset, none⟩))
      | none => none
    | none => none
  | _, _ => none
def partD (P : Program) (t : TypeId) (cs : List Value) (off : Nat) : Option Value :=
  match isAggD P t with
  | some true => match sizeD P t with
    | some n => some (.agg ⟨(cs.drop off).take n⟩)
    | none => none
  | some false => cs[off]?
  | none => none
def fieldD (P : Program) (t : TypeId) (x : Value) (f : Nat) : Option Value :=
  match P.underlying t, x with
  | some (.struct fields), .agg ⟨cs⟩ =>
    match fields[f]? with
    | some fd => partD P fd.type cs fd.offset
    | none => none
  | _, _ => none
def indexAddrD (P : Program) (t : TypeId) (x i : Value) : Option Value :=
  match P.underlying t, x, i with
  | some (.slice elem), .slice (some ⟨b, o, none⟩) len _, .int _ i =>
    match sizeD P elem with
    | some n => if 0 ≤ i ∧ i < len then some (.pointer (some ⟨b, o + i.toNat * n, none⟩)) else none
    | none => none
  | some (.array len elem), .pointer (some ⟨b, o, none⟩), .int _ i =>
    match sizeD P elem with
    | some n => if 0 ≤ i ∧ i < len then some (.pointer (some ⟨b, o + i.toNat * n, none⟩)) else none
    | none => none
  | _, _, _ => none
def indexD (P : Program) (t : TypeId) (x i : Value) : Option Value :=
  match P.underlying t, x, i with
  | some (.array len elem), .agg ⟨cs⟩, .int _ i =>
    match sizeD P elem with
    | some n => if 0 ≤ i ∧ i < len then partD P elem cs (i.toNat * n) else none
    | none => none
  | some .string, .string s, .int _ i =>
    if 0 ≤ i then match s[i.toNat]? with
      | some b => some (.int .u8 b.toNat)
      | none => none
    else none
  | _, _, _ => none
def srcD (H : Hp) (n : Nat) : Value → Nat → Option (List Value)
  | .slice none 0 0, _ => some []
  | .slice (some ⟨b, o, none⟩) len _, m =>
    if m = 0 then some [] else
    match H.get b with
    | some (.cells _ cs) => if o + m * n ≤ cs.length ∧ m ≤ len then some ((cs.drop o).take (m * n)) else none
    | _ => none
  | .string s, m => if n = 1 then some ((s.data.toList.take m).map fun b => .int .u8 b.toNat) else none
  | _, _ => none
def lenD : Value → Option Nat
  | .slice _ n _ => some n
  | .string s => some s.size
  | _ => none
def appendZD (P : Program) (H : Hp) (elem : TypeId) (s x : Value) : Option (Value × Hp) :=
  match s, x with
  | .slice none 0 0, .int _ m =>
    match sizeD P elem, bytesD P elem, zeroD P elem with
    | some n, some by_, some z =>
      if flat z = true ∧ 0 < n ∧ z.cells.size = n ∧ 0 < m ∧ m ≤ 140737488355328 ∧ m.toNat * by_ ≤ 140737488355328 then
        some (.slice (some ⟨H.next, 0, none⟩) m.toNat LOOSE, H.alloc (.cells (.more n) (repsD z.cells.toList m.toNat)))
      else none
    | _, _, _ => none
  | _, _ => none
def tyU (P : Program) (e : TypeId) : Option TypeId := match P.underlying e with
  | some (.int .u8) => some e
  | _ => none
theorem tyU_or (P : Program) (e : TypeId) : tyU P e = none ∨ tyU P e = some e := by
  unfold tyU
  split
  · exact .inr rfl
  · exact .inl rfl
def appendD (P : Program) (H : Hp) (argTypes : Array TypeId) (s x : Value) : Option (Value × Hp) :=
  match argTypes[0]?, argTypes[1]? with
  | some sType, some xType =>
    match P.underlying sType, P.underlying xType with
    | some (.slice elem), some (.int _) => appendZD P H elem s x
    | some (.slice elem), some _ =>
      match sizeD P elem, bytesD P elem, zeroD P elem, lenD x with
      | some n, some by_, some z, some m =>
        if 0 < n ∧ z.cells.size = n then
          match srcD H n x m with
          | some new =>
            match s with
            | .slice none 0 0 =>
              if m = 0 then some (s, H)
              else if m * by_ ≤ 140737488355328 ∧ m ≤ 140737488355328 then some (.slice (some ⟨H.next, 0, none⟩) m LOOSE, H.alloc (.cells (.more n (tyU P elem)) new)) else none
            | .slice (some ⟨b, o, none⟩) len cap =>
              if m = 0 then (if len ≤ cap then some (s, H) else none)
              else
                match H.get b with
                | some (.cells mode cs) =>
                  if cap < LOOSE ∧ len + m ≤ cap then
                    if mode ≠ .old ∧ o + (len + m) * n ≤ cs.length ∧ (new.all fun v => v.oneCell') = true then
                      some (.slice (some ⟨b, o, none⟩) (len + m) cap, H.put b (.cells mode (wr cs (o + len * n) new)))
                    else none
                  else if (len + m) * by_ ≤ 140737488355328 ∧ len + m ≤ 140737488355328 then
                    if cap < LOOSE then
                      if o + len * n ≤ cs.length then some (.slice (some ⟨H.next, 0, none⟩) (len + m) LOOSE, H.alloc (.cells (.more n (tyU P elem)) ((cs.drop o).take (len * n) ++ new)))
                      else none
                    else if cap = LOOSE ∧ mode.isMore n = true ∧ o + len * n ≤ cs.length ∧ (new.all fun v => v.oneCell') = true then
                      some (.slice (some ⟨H.next, 0, none⟩) (len + m) LOOSE, (H.kill b).alloc (.cells (.more n (tyJ o mode.ty (tyU P elem))) ((cs.drop o).take (len * n) ++ new)))
                    else none
                  else none
                | _ => none
            | _ => none
          | none => none
        else none
      | _, _, _, _ => none
    | _, _ => none
  | _, _ => none
def copyD (P : Program) (H : Hp) (argTypes : Array TypeId) (d x : Value) : Option (Value × Hp) :=
  match argTypes[0]? with
  | some dType =>
    match P.underlying dType, d, lenD x with
    | some (.slice elem), .slice (some ⟨b, o, none⟩) dLen _, some xl =>
      match sizeD P elem, H.get b with
      | some n, some (.cells mode cs) =>
        match srcD H n x (min xl dLen) with
        | some new => if mode ≠ .old ∧ o + new.length ≤ cs.length ∧ (new.all fun v => v.oneCell') = true then
            some (.int .i64 (min xl dLen : Nat), H.put b (.cells mode (wr cs o new))) else none
        | none => none
      | _, _ => none
    | _, _, _ => none
  | none => none
def lenOfD (P : Program) (H : Hp) (argTypes : Array TypeId) (x : Value) : Option Value :=
  match argTypes[0]? with
  | some t =>
    match P.underlying t, x with
    | some .string, .string s => some (.int .i64 s.size)
    | some (.array n _), _ => some (.int .i64 n)
    | some (.slice _), .slice _ n _ => some (.int .i64 n)
    | some (.map _ _), .map none => some (.int .i64 0)
    | some (.map _ _), .map (some r) => match H.get r with
      | some (.map es _) => some (.int .i64 es.length)
      | _ => none
    | _, _ => none
  | none => none
def capOfD (P : Program) (argTypes : Array TypeId) (x : Value) : Option Value :=
  match argTypes[0]? with
  | some t =>
    match P.underlying t, x with
    | some (.slice _), .slice _ _ c => if LOOSE ≤ c then none else some (.int .i64 c)
    | _, _ => none
  | none => none
def byteV : Value → Bool
  | .int .u8 n => match n with
    | .ofNat m => Nat.blt m 256
    | _ => false
  | _ => false
def byteOf : Value → UInt8
  | .int .u8 n => n.toNat.toUInt8
  | _ => 0
def isByte : Value → Bool
  | .int .u8 _ => true
  | _ => false
def convD (P : Program) (H : Hp) (src dst : TypeId) (x : Value) : Option (Value × Hp) :=
  match P.underlying src, P.underlying dst, x with
  | some .string, some (.slice e), .string s =>
    match P.underlying e with
    | some (.int .u8) => some (.slice (some ⟨H.next, 0, none⟩) s.size LOOSE, H.alloc (.cells (.more 1) (s.data.toList.map fun b => .int .u8 b.toNat)))
    | _ => none
  | some (.slice e), some .string, .slice none 0 0 =>
    match P.underlying e with
    | some (.int .u8) => some (.string ByteArray.empty, H)
    | _ => none
  | some (.slice e), some .string, .slice (some ⟨b, o, none⟩) len cap =>
    match P.underlying e, H.get b with
    | some (.int .u8), some (.cells _ cs) =>
      if o + len ≤ cs.length ∧ ¬ (len = 0 ∧ LOOSE ≤ cap) ∧ (((cs.drop o).take len).all isByte) = true then
        some (.string (strOfNums (((cs.drop o).take len).map intOf)), H)
      else none
    | _, _ => none
  | some (.pointer t), some .unsafePointer, .pointer none => some (.pointer none, H)
  | some (.pointer t), some .unsafePointer, .pointer (some ⟨b, o, none⟩) =>
    match H.get b, P.info? t with
    | some (.cells _ cs), some i => if 0 < i.size ∧ o < cs.length then some (.pointer (some ⟨b, o, none⟩), H) else none
    | _, _ => none
  | some .unsafePointer, some (.pointer u), .pointer none => some (.pointer none, H)
  | some .unsafePointer, some (.pointer u), .pointer (some ⟨b, 0, none⟩) =>
    match H.get b, P.info? u with
    | some (.cells (.var T) cs), some _ => if T = u ∧ 0 < cs.length ∧ liesAt P P.depth T (cs.length / P.cellsOf T) 0 u 1 = true then some (.pointer (some ⟨b, 0, none⟩), H) else none
    | _, _ => none
  | _, _, _ => none
def nextD (H : Hp) (it : Value) : Option (Value × Hp) :=
  match it with
  | .pointer (some ⟨b, 0, none⟩) =>
    match H.get b with
    | some (.iter s pos) =>
      if pos < s.size then
        some (.tuple #[.bool true, .int .i64 pos, .int .i32 (Utf8.decode s pos).1], H.put b (.iter s (pos + (Utf8.decode s pos).2)))
      else some (.tuple #[.bool false], H)
    | _ => none
  | _ => none
def typeAssertD (P : Program) (x : Value) (asserted : TypeId) (ok : Bool) : Option Value :=
  match P.underlying asserted, x with
  | some (.interface want), .iface t v =>
    match P.info? t with
    | some i => match Instr.missingMethod want i.methods with
      | none => some (if ok then .tuple #[.iface t v, .bool true] else .iface t v)
      | some _ => if ok then match zeroD P asserted with | some z => if flat z then some (.tuple #[z, .bool false]) else none | none => none else none
    | none => none
  | some _, .nilIface => if ok then match zeroD P asserted with | some z => if flat z then some (.tuple #[z, .bool false]) else none | none => none else none
  | some _, .iface t v => if t = asserted then some (if ok then .tuple #[v, .bool true] else v)
      else if ok then match zeroD P asserted with | some z => if flat z then some (.tuple #[z, .bool false]) else none | none => none else none
  | _, _ => none
def keysFlat (es : List MapEntry) : Bool := es.all fun e => flat e.key
def entriesD (H : Hp) : Value → Option (List MapEntry)
  | .map none => some []
  | .map (some r) => match H.get r with
    | some (.map es _) => some es
    | _ => none
  | _ => none
def findD (P : Program) (kt : TypeId) (k : Value) (empty : Bool) (es : List MapEntry) : Option (Option Nat) :=
  match flat k with
  | false => none
  | true => match keysFlat es with
    | false => none
    | true => match pureRun P (Instr.checkKey empty 10000 kt k) with
      | none => none
      | some _ => match pureRun P (Instr.findKey kt k es) with
        | some r => some (r.map (·.1))
        | none => none
def lookupD (P : Program) (H : Hp) (t : TypeId) (x i : Value) (ok : Bool) : Option Value :=
  match P.underlying t with
  | some (.map kt elem) =>
    match entriesD H x with
    | some es =>
      match findD P kt i es.isEmpty es with
      | some (some j) => match es[j]? with
        | some e => some (if ok then .tuple ⟨[e.val, .bool true]⟩ else e.val)
        | none => none
      | some none => match zeroD P elem with
        | some z => if flat z = true then some (if ok then .tuple ⟨[z, .bool false]⟩ else z) else none
        | none => none
      | none => none
    | none => none
  | _ => none
def mapUpdateD (P : Program) (H : Hp) (t : TypeId) (m k v : Value) : Option Hp :=
  match P.underlying t, m with
  | some (.map kt _), .map (some r) =>
    match H.get r with
    | some (.map es clock) =>
      match findD P kt k false es with
      | some (some j) => match es[j]? with
        | some e => if Instr.sameBits 10000 e.key k = true then some (H.put r (.map (es.set j { e with key := k, val := v }) clock)) else none
        | none => none
      | some none => some (H.put r (.map (es ++ [{ key := k, val := v, born := clock }]) (clock + 1)))
      | none => none
    | _ => none
  | _, _ => none
def clearD (P : Program) (H : Hp) (argTypes : Array TypeId) (x : Value) : Option Hp :=
  match argTypes[0]? with
  | some t =>
    match P.underlying t, x with
    | some (.slice _), .slice none 0 0 => some H
    | some (.slice elem), .slice (some ⟨b, o, none⟩) n _ =>
      if n = 0 then some H else
      match zeroD P elem, H.get b with
      | some z, some (.cells mode cs) =>
        if flat z = true ∧ mode ≠ .old ∧ 0 < z.cells.size ∧ o + n * z.cells.size ≤ cs.length ∧ ((repsD z.cells.toList n).all fun v => v.oneCell') = true then
          some (H.put b (.cells mode (wr cs o (repsD z.cells.toList n)))) else none
      | _, _ => none
    | _, _ => none
  | none => none
inductive Res where
  | val (v : Value) (H : Hp)
  | enter (f : FuncId) (args : List Value)
  | panic (v : Value)
  | yield (l : Nat) (args : List Value)
  | defer (f : Value) (args : List Value)
  | recover
def enterD (P : Program) (f : FuncId) (args : List Value) : Option Res :=
  match P.funcs[f]? with
  | some fn => if fn.name == "runtime.NumGoroutine" || fn.body.isNone then none else some (.enter f args)
  | none => none
def xtD (name : String) (args : List Value) : Option Value :=
  match args with
  | [.string s, .int .u8 c] =>
    match name == "internal/bytealg.IndexByteString" with
    | true => some (.int .i64 (Lib.indexByte s.data.toList c.toNat.toUInt8))
    | false => match name == "internal/bytealg.CountString" with
      | true => some (.int .i64 (Lib.countByte s.data.toList c.toNat.toUInt8))
      | false => none
  | [x] => match name == "internal/abi.NoEscape" with
    | true => some x
    | false => none
  | _ => none
def xtN (P : Program) (H : Hp) (fn : Func) (args : List Value) : Option (Value × Hp) :=
  match args, fn.resultTypes.toList with
  | [.int .i64 n], [t] => match fn.name == "internal/bytealg.MakeNoZero" with
    | true => match P.underlying t with
      | some (.slice e) => if 0 ≤ n ∧ n ≤ 281474976710656 then some (.slice (some ⟨H.next, 0, none⟩) n.toNat LOOSE, H.alloc (.cells (.more 1 (tyU P e)) [])) else none
      | _ => none
    | false => none
  | _, _ => none
def externD (P : Program) (H : Hp) (f : FuncId) (args : List Value) : Option Res :=
  match P.funcs[f]? with
  | some fn => match fn.body, fn.origin == "" with
    | none, true => match xtN P H fn args with
      | some (v, H') => some (.val v H')
      | none => (xtD fn.name args).map fun v => .val v H
    | _, _ => none
  | none => none
def goD (P : Program) (H : Hp) (f : FuncId) (args : List Value) : Option Res :=
  match enterD P f args with
  | some r => some r
  | none => externD P H f args
def unsafeStrD (P : Program) (H : Hp) (argTypes : Array TypeId) (p n : Value) : Option (Value × Hp) :=
  match p, n with
  | .pointer none, .int .i64 0 => if argTypes.size = 2 then some (.string .empty, H) else none
  | .pointer (some ⟨b, 0, none⟩), .int .i64 n =>
    match argTypes.toList with
    | [pt, _] =>
      match P.underlying pt, H.get b with
      | some (.pointer e), some (.cells (.more _ (some T)) cs) =>
        if e = T ∧ P.cellsOf e = 1 ∧ 0 < n ∧ n.toNat ≤ cs.length ∧ n ≤ 9223372036854775807 ∧ ((cs.take n.toNat).all byteV) = true then
          some (.string ⟨⟨(cs.take n.toNat).map byteOf⟩⟩, H.kill b)
        else none
      | _, _ => none
    | _ => none
  | _, _ => none
def callD (P : Program) (H : Hp) (ev : Ev) (o : Oper) (c : Call) : Option Res :=
  match argsD ev c.args.toList with
  | none => none
  | some args =>
    match c.callee with
    | .value f =>
      match ev f with
      | some (.func (.func f) ⟨first⟩ ⟨captured⟩) => goD P H f (first ++ args ++ captured)
      | some (.func (.yield l) ⟨[]⟩ ⟨[]⟩) => some (.yield l args)
      | _ => none
    | .invoke recv name =>
      match ev recv with
      | some (.iface t v) =>
        match P.info? t, P.underlying t with
        | some i, some d =>
          match i.methods.find? (·.name == name) with
          | some m =>
            if m.path.isEmpty then
              match m.func, d with
              | some (f, true), .pointer _ => enterD P f (v :: args)
              | some (_, false), .pointer _ => none
              | some (f, false), _ => enterD P f (v :: args)
              | _, _ => none
            else none
          | none => none
        | _, _ => none
      | _ => none
    | .builtin .append => match args with
      | [s, x] => (appendD P H c.argTypes s x).map fun (v, H') => .val v H'
      | _ => none
    | .builtin .copy => match args with
      | [d, x] => (copyD P H c.argTypes d x).map fun (v, H') => .val v H'
      | _ => none
    | .builtin .len => match args with
      | [x] => (lenOfD P H c.argTypes x).map fun v => .val v H
      | _ => none
    | .builtin .cap => match args with
      | [x] => (capOfD P c.argTypes x).map fun v => .val v H
      | _ => none
    | .builtin .recover => if args = [] then some .recover else none
    | .builtin .min | .builtin .max => (genD P ev o).map fun v => .val v H
    | .builtin .clear => match args with
      | [x] => (clearD P H c.argTypes x).map fun H' => .val undef H'
      | _ => none
    | .builtin .unsafeSliceData => match args with
      | [.slice none 0 0] => some (.val (.pointer none) H)
      | [.slice (some a) (n + 1) _] => some (.val (.pointer (some a)) H)
      | _ => none
    | .builtin .unsafeString => match args with
      | [p, n] => (unsafeStrD P H c.argTypes p n).map fun (v, H') => .val v H'
      | _ => none
    | .builtin _ => none
def OptEv (ev : Ev) (x : Option Operand) : Option (Option Value) :=
  match x with
  | none => some none
  | some y => (ev y).map some
def opD (P : Program) (H : Hp) (ev : Ev) (o : Oper) : Option Res :=
  let pv (v : Option Value) : Option Res := match v with | some v => some (.val v H) | none => none
  let mv (v : Option (Value × Hp)) : Option Res := match v with | some (v, H') => some (.val v H') | none => none
  let hv (v : Option Hp) : Option Res := match v with | some H' => some (.val undef H') | none => none
  match o.op with
  | .move x | .assign x => pv (ev x)
  | .pick c a b => match ev c with
    | some (.bool true) => pv (ev a)
    | some (.bool false) => pv (ev b)
    | _ => none
  | .alloc t => match zeroD P t with
    | some z => if flat z then mv (some (newM (bM P t) H z.cells.toList)) else none
    | none => none
  | .box _ x => match ev x with
    | some v => mv (some (newD H v.cells.toList))
    | none => none
  | .build t parts => match partsD ev parts.toList with
    | some l => pv (buildD P t l)
    | none => none
  | .buildSlice t len parts => match partsD ev parts.toList with
    | some l => mv (buildSliceD P H t len l)
    | none => none
  | .load t a => match ev a with
    | some v => pv (loadD P H t v)
    | none => none
  | .store t a x => match ev a, ev x with
    | some a, some v => hv (storeD P H t a v)
    | _, _ => none
  | .nilCheck x => match ev x with
    | some (.pointer (some a)) => some (.val (.pointer (some a)) H)
    | some (.func (.func f) x y) => some (.val (.func (.func f) x y) H)
    | _ => none
  | .binOp op t x y _ => match ev x, ev y with
    | some a, some b => pv (binD P ev o op t a b)
    | _, _ => none
  | .unOp .. => pv (genD P ev o)
  | .convert src dst x => match ev x with
    | some v => match convD P H src dst v with
      | some r => mv (some r)
      | none => pv (genD P ev o)
    | none => none
  | .makeInterface t x => match ev x, P.underlying t with
    | some _, some (.interface _) => none
    | some v, some _ => some (.val (.iface t v) H)
    | _, _ => none
  | .makeFunc fn first captured => match fn, argsD ev first.toList, argsD ev captured.toList with
    | .func f, some x, some y => some (.val (.func (.func f) ⟨x⟩ ⟨y⟩) H)
    | .method n, some x, some y => some (.val (.func (.method n) ⟨x⟩ ⟨y⟩) H)
    | .methodOf t n, some x, some y => some (.val (.func (.methodOf t n) ⟨x⟩ ⟨y⟩) H)
    | .via t p f q, some x, some y => some (.val (.func (.via t p f q) ⟨x⟩ ⟨y⟩) H)
    | _, _, _ => none
  | .makeSlice t l c => match ev l, ev c with
    | some l, some c => mv (makeSliceD P H t l c)
    | _, _ => none
  | .slice t x lo hi mx =>
    match ev x, OptEv ev lo, OptEv ev hi, OptEv ev mx with
    | some x, some lo, some hi, some mx => pv (sliceD P H t x lo hi mx)
    | _, _, _, _ => none
  | .fieldAddr t x f => match ev x with
    | some v => pv (fieldAddrD P t v f)
    | none => none
  | .field t x f => match ev x with
    | some v => pv (fieldD P t v f)
    | none => none
  | .indexAddr t x i => match ev x, ev i with
    | some v, some i => pv (indexAddrD P t v i)
    | _, _ => none
  | .index t x i => match ev x, ev i with
    | some v, some i => pv (indexD P t v i)
    | _, _ => none
  | .range t x => match P.underlying t, ev x with
    | some .string, some (.string s) => some (.val (.pointer (some ⟨H.next, 0, none⟩)) (H.alloc (.iter s 0)))
    | _, _ => none
  | .next it true => match ev it with
    | some v => mv (nextD H v)
    | none => none
  | .typeAssert x _ t ok => match ev x with
    | some v => pv (typeAssertD P v t ok)
    | none => none
  | .extract x i => match ev x with
    | some (.tuple ⟨vs⟩) => pv vs[i]?
    | _ => none
  | .call c => callD P H ev o c
  | .defer c => match c.callee, argsD ev c.args.toList with
    | .value f, some args => match ev f with
      | some (.func (.func f) x y) => some (.defer (.func (.func f) x y) args)
      | _ => none
    | _, _ => none
  | .panic x => match ev x with
    | some (.iface t v) => some (.panic (.iface t v))
    | _ => none
  | .makeMap _ none => mv (some (.map (some H.next), H.alloc (.map [] 0)))
  | .lookup t x i ok => match ev x, ev i with
    | some x, some i => pv (lookupD P H t x i ok)
    | _, _ => none
  | .mapUpdate t m k v => match ev m, ev k, ev v with
    | some m, some k, some v => hv (mapUpdateD P H t m k v)
    | _, _, _ => none
  | _ => none
end Go.Det

set_option linter.unusedSimpArgs false
set_option linter.unusedVariables false
namespace Go.Det
open Go Go.RowKit
theorem isAggD_run {P : Program} {t : TypeId} {b : Bool} (h : isAggD P t = some b) (w : World) : (isAgg t).run P w = .ok b w := by
  unfold isAggD at h
  cases hu : P.underlying t with
  | none => rw [hu] at h; cases h
  | some d =>
    rw [hu] at h
    simp only [isAgg, Sem.run_bind, run_underlying hu, Result.andThen_ok]
    cases d <;> first | (cases h; rfl) | (simp at h; subst h; rfl)
theorem sizeD_run {P : Program} {t : TypeId} {n : Nat} (h : sizeD P t = some n) (w : World) : (sizeOf t).run P w = .ok n w := by
  unfold sizeD at h
  cases hi : P.info? t with
  | none => rw [hi] at h; cases h
  | some i => rw [hi] at h; simp at h; subst h; simp [sizeOf, typeInfo, hi]
theorem typeInfo_run {P : Program} {t : TypeId} {i : TypeInfo} (h : P.info? t = some i) (w : World) : (typeInfo t).run P w = .ok i w := by
  simp [typeInfo, h]
theorem bytesD_run {P : Program} {t : TypeId} {n : Nat} (h : bytesD P t = some n) (w : World) : ∃ i, (typeInfo t).run P w = .ok i w ∧ i.bytes = n := by
  unfold bytesD at h
  cases hi : P.info? t with
  | none => rw [hi] at h; cases h
  | some i => rw [hi] at h; simp at h; exact ⟨i, typeInfo_run hi w, h⟩
theorem zeroD_run {P : Program} {t : TypeId} {z : Value} (h : zeroD P t = some z) (w : World) : (zeroValue t).run P w = .ok z w := by
  unfold zeroD at h
  cases hi : P.info? t with
  | none => rw [hi] at h; cases h
  | some i => rw [hi] at h; simp at h; simp [zeroValue, typeInfo, hi, h]
theorem VR.cells {R : Ren} {v v' : Value} (h : VR R v v') : VRs R v.cells.toList v'.cells.toList := by
  cases h with
  | agg hx => exact hx
  | empty a a' c => exact .one (.empty a a' c)
  | _ => exact .one (by constructor <;> assumption)
theorem VR.cells_size {R : Ren} {v v' : Value} (h : VR R v v') : v'.cells.size = v.cells.size := by
  have := h.cells.length
  simpa using this
variable {X : Cx} {P : Program} {R : Ren} {H : Hp} {w : World}
theorem AR_of {R : Ren} {b o : Nat} {a' : Addr} (h : AR R ⟨b, o, none⟩ a') (n : Nat) : AR R ⟨b, o + n, none⟩ (a'.add n) := by
  obtain ⟨_, s2, i, e, e1, e2⟩ := h
  refine ⟨rfl, ?_, i, e, ?_, ?_⟩
  · unfold Addr.add; split <;> simp_all
  · unfold Addr.add; split <;> simp_all
  · unfold Addr.add; split <;> simp_all; omega
theorem loadD_ok (h : Rel X R H w) {t : TypeId} {a a' v : Value} (ha : VR R a a') (e : loadD P H t a = some v) : ∃ v', (Instr.loadAt t a').run P w = .ok v' w ∧ VR R v v' := by
  unfold loadD at e
  split at e
  case h_2 => cases e
  case h_1 b o =>
    cases ha with
    | ptr har =>
      rename_i a'
      split at e
      case h_2 => cases e
      case h_1 m cs hb =>
        split at e
        case h_3 => cases e
        case h_1 hag =>
          split at e
          case h_2 => cases e
          case h_1 n hn =>
            split at e
            case isFalse => cases e
            case isTrue hle =>
              cases e
              obtain ⟨vs', hr, hv⟩ := h.loadCells (P := P) har (m := m) (cs := cs) hb hle
              refine ⟨.agg ⟨vs'⟩, ?_, .agg hv⟩
              simp [Instr.loadAt, Instr.sureAddr, loadVar, isAggD_run hag, sizeD_run hn, hr]
        case h_2 hag =>
          obtain ⟨v', hc, hv⟩ := h.cell har hb (k := 0) (v := v) (by simpa using e)
          refine ⟨v', ?_, hv⟩
          rw [Addr.add_zero'] at hc
          simp [Instr.loadAt, Instr.sureAddr, loadVar, isAggD_run hag, hc]
theorem storeD_ok (h : Rel X R H w) {t : TypeId} {a a' v v' : Value} {H' : Hp} (ha : VR R a a') (hv : VR R v v') (e : storeD P H t a v = some H') :
    ∃ w', (Instr.storeAt t a' v').run P w = .ok () w' ∧ Rel X R H' w' := by
  unfold storeD at e
  split at e
  case h_2 => cases e
  case h_1 b o =>
    cases ha with
    | ptr har =>
      rename_i a'
      split at e
      case h_2 => cases e
      case h_1 m cs hb =>
        split at e
        case isFalse => cases e
        case isTrue hc =>
          cases e
          obtain ⟨hm, hs, hle, h1⟩ := hc
          obtain ⟨w', hr, hR⟩ := Rel.storeCells (P := P) hm har 0 h hb (by simpa using hle) (by simpa using h1) hv.cells
          refine ⟨w', ?_, by simpa using hR⟩
          have hsz := hv.cells_size
          simp only [Instr.storeAt, Instr.sureAddr, storeVar, Sem.run_bind, Sem.run_pure, Result.andThen_ok, sizeD_run hs, hsz]
          simpa using hr
theorem fold_set_wr : ∀ (vs : List Value) (cs : Array Value) (o k : Nat),
    (vs.zipIdx k).foldl (fun cs x => cs.setIfInBounds (o + x.2) x.1) cs = ⟨wr cs.toList (o + k) vs⟩
  | [], cs, o, k => by simp [wr]
  | v :: vs, cs, o, k => by
    simp only [List.zipIdx_cons, List.foldl_cons, wr]
    rw [fold_set_wr vs _ o (k + 1)]
    simp [Nat.add_assoc]
theorem VRs.wr {R : Ren} : ∀ {vs vs' : List Value} {cs cs' : List Value} (o : Nat), VRs R cs cs' → VRs R vs vs' → VRs R (wr cs o vs) (Det.wr cs' o vs')
  | _, _, _, _, _, h, .nil => by simpa [Det.wr] using h
  | _, _, _, _, o, h, .cons v k => by
    simp only [Det.wr]
    exact VRs.wr (o + 1) (h.set o v) k
inductive PartsR (R : Ren) : List (Nat × Value) → List (Nat × Value) → Prop where
  | nil : PartsR R [] []
  | cons (i : Nat) {v v' : Value} {l l' : List (Nat × Value)} (h : VR R v v') (k : PartsR R l l') : PartsR R ((i, v) :: l) ((i, v') :: l')
theorem fillD_ok {R : Ren} {place place' : Nat → Option (Nat × Nat)} (hp : ∀ i q, place i = some q → place' i = some q) : ∀ {l l' : List (Nat × Value)} {cs cs' out : List Value}, PartsR R l l' → VRs R cs cs' →
    fillD place cs l = some out → ∃ out', Instr.fill place' ⟨cs'⟩ l' = some ⟨out'⟩ ∧ VRs R out out' ∧ out.length = cs.length
  | _, _, cs, cs', out, .nil, hc, e => by simp only [fillD, Option.some.injEq] at e; subst e; exact ⟨cs', rfl, hc, rfl⟩
  | _, _, cs, cs', out, .cons (v := v) (v' := v') (l := l) (l' := l') i hv hl, hc, e => by
    simp only [fillD] at e
    split at e
    case h_1 => cases e
    case h_2 off size hpl =>
      split at e
      case isFalse => cases e
      case isTrue hc' =>
        obtain ⟨out', h1, h2, h3⟩ := fillD_ok hp hl (VRs.wr off hc hv.cells) e
        refine ⟨out', ?_, h2, by rw [h3, wr_length]⟩
        have hs := hv.cells_size
        have hcl := hc.length
        simp only [Instr.fill, hp _ _ hpl]
        have hsz : (⟨cs'⟩ : Array Value).size = cs'.length := rfl
        rw [if_neg (by simp only [Bool.or_eq_true, decide_eq_true_eq, hsz, hs, hcl]; omega)]
        rw [← h1]
        congr 1
        have := fold_set_wr v'.cells.toList ⟨cs'⟩ off 0
        simp only [Nat.add_zero] at this
        rw [← this, ← Array.foldl_toList]
        simp only [Array.toList_zipIdx]
theorem run_listMapM {α β : Type} (f : α → Sem β) (g : α → β) (w : World) : ∀ (l : List α), (∀ x ∈ l, (f x).run P w = .ok (g x) w) → (l.mapM f).run P w = .ok (l.map g) w
  | [], _ => by simp
  | x :: l, h => by
    rw [List.mapM_cons]
    simp only [Sem.run_bind, h x (by simp), Result.andThen_ok, run_listMapM f g w l (fun y hy => h y (by simp [hy])), Sem.run_pure, List.map_cons]
theorem run_mapM {α β : Type} (f : α → Sem β) (g : α → β) (w : World) (l : Array α) (h : ∀ x ∈ l.toList, (f x).run P w = .ok (g x) w) : (l.mapM f).run P w = .ok (l.map g) w := by
  rw [Array.mapM_eq_mapM_toList]
  simp only [Sem.run_map, run_listMapM f g w l.toList h, Result.andThen_ok]
  congr 1
  simp [← Array.toList_map]
theorem placeD_fields {t : TypeId} {fields : Array Field} (hu : P.underlying t = some (.struct fields)) (g : Field → Nat) (hg : ∀ f ∈ fields.toList, sizeD P f.type = some (g f)) (i : Nat) (q : Nat × Nat)
    (h : placeD P t i = some q) : (fields.map fun f => (f.offset, g f))[i]? = some q := by
  unfold placeD at h
  rw [hu] at h
  simp only at h
  split at h
  case h_2 => cases h
  case h_1 f hf =>
    have hm : f ∈ fields.toList := by
      rw [← Array.getElem?_toList] at hf
      exact List.mem_of_getElem? hf
    rw [hg f hm] at h
    simp only [Option.map_some, Option.some.injEq] at h
    subst h
    simp [hf]
theorem buildD_ok {parts parts' : List (Nat × Value)} {t : TypeId} {v : Value} (w : World) (hp : PartsR R parts parts') (e : buildD P t parts = some v) :
    ∃ v', (Instr.build t parts'.toArray).run P w = .ok v' w ∧ VR R v v' := by
  unfold buildD at e
  split at e
  case h_2 => cases e
  case h_1 z hz =>
    split at e
    case isFalse => cases e
    case isTrue hfl =>
      have hzr : VRs R z.cells.toList z.cells.toList := (flat_refl hfl).cells
      split at e
      case h_3 => cases e
      case h_1 fields hu =>
        split at e
        case isFalse => cases e
        case isTrue hall =>
          split at e
          case h_2 => cases e
          case h_1 cs hf =>
            cases e
            have hg : ∀ f ∈ fields.toList, sizeD P f.type = some ((sizeD P f.type).getD 0) := by
              intro f hm
              have := List.all_eq_true.1 hall f hm
              obtain ⟨n, hn⟩ := Option.isSome_iff_exists.1 this
              rw [hn]; rfl
            obtain ⟨out', h1, h2, _⟩ := fillD_ok (place' := ((fields.map fun f => (f.offset, (sizeD P f.type).getD 0))[·]?)) (placeD_fields hu _ hg) hp hzr hf
            refine ⟨.agg ⟨out'⟩, ?_, .agg h2⟩
            have hm := run_mapM (P := P) (fun f : Field => do pure (f.offset, ← sizeOf f.type)) (fun f => (f.offset, (sizeD P f.type).getD 0)) w fields (fun f hf => by
              simp only [Sem.run_bind, sizeD_run (hg f hf), Result.andThen_ok, Sem.run_pure])
            simp only [Instr.build, Sem.run_bind, zeroD_run hz, Result.andThen_ok, run_underlying hu, hm, h1, Sem.run_pure]
      case h_2 n elem hu =>
        split at e
        case h_2 => cases e
        case h_1 sz hs =>
          split at e
          case h_2 => cases e
          case h_1 cs hf =>
            cases e
            obtain ⟨out', h1, h2, _⟩ := fillD_ok (place' := fun i => some (i * sz, sz)) (fun _ _ k => k) hp hzr hf
            refine ⟨.agg ⟨out'⟩, ?_, .agg h2⟩
            simp only [Instr.build, Sem.run_bind, zeroD_run hz, Result.andThen_ok, run_underlying hu, sizeD_run hs, h1, Sem.run_pure]
end Go.Det

set_option linter.unusedSimpArgs false
set_option linter.unusedVariables false
namespace Go.Det
open Go Go.RowKit
variable {X : Cx} {P : Program} {R : Ren} {H : Hp} {w : World}
theorem repsD_length (z : List Value) : ∀ n, (repsD z n).length = n * z.length
  | 0 => by simp [repsD]
  | n + 1 => by simp [repsD, repsD_length z n, Nat.succ_mul]; omega
theorem repsD_get (z : List Value) : ∀ (n i : Nat), i < n * z.length → (repsD z n)[i]? = z[i % z.length]?
  | 0, i, h => by simp at h
  | n + 1, i, h => by
    rw [repsD]
    by_cases k : i < z.length
    · rw [List.getElem?_append_left k, Nat.mod_eq_of_lt k]
    · have k' : z.length ≤ i := by omega
      rw [List.getElem?_append_right k', repsD_get z n (i - z.length) (by rw [Nat.succ_mul] at h; omega)]
      rw [Nat.mod_eq_sub_mod k']
theorem reps_eq (z : Array Value) (hz : 0 < z.size) (n : Nat) : ((Array.range (n * z.size)).map fun i => z[i % z.size]!) = ⟨repsD z.toList n⟩ := by
  apply Array.ext'
  apply List.ext_getElem?
  intro i
  simp only [Array.toList_map, Array.toList_range, List.getElem?_map]
  by_cases h : i < n * z.size
  · rw [repsD_get z.toList n i (by simpa using h)]
    rw [List.getElem?_range h]
    have hlt : i % z.size < z.size := Nat.mod_lt _ hz
    simp only [Option.map_some, Array.length_toList]
    rw [List.getElem?_eq_getElem (by simpa using hlt)]
    simp [hlt]
  · rw [List.getElem?_eq_none (by simp; omega), List.getElem?_eq_none (by rw [repsD_length]; simp; omega)]
    rfl
theorem reps_flat {R : Ren} {z : List Value} (h : flats z = true) : ∀ n, VRs R (repsD z n) (repsD z n)
  | 0 => .nil
  | n + 1 => (flats_refl h).append (reps_flat h n)
theorem flat_cells {z : Value} (h : flat z = true) : flats z.cells.toList = true := by
  cases z with
  | agg x => cases x; simpa [flat, Value.cells] using h
  | _ => simp [Value.cells, flats, h]
theorem newRow_ok (h : Rel X R H w) {m : Mode} (hm : m ≠ .old) (sz : Nat) {cs cs' : List Value} (extra : List Value) (e : TypeId) (hf : m.isFix = true → extra = []) (hs : m.okE ⟨w.heap.size, 0, sz, cs.length + extra.length, true⟩ e) (hv : VRs R cs cs') :
    ∃ R' w', R.le R' ∧ Rel X R' (H.alloc (.cells m cs)) w' ∧ (newRow e ⟨cs' ++ extra⟩).run P w = .ok ⟨w.heap.size, 0, none⟩ w' ∧ AR R' ⟨H.next, 0, none⟩ ⟨w.heap.size, 0, none⟩
      ∧ R' H.next = some ⟨w.heap.size, 0, sz, cs.length + extra.length, true⟩ := by
  obtain ⟨hR, hle⟩ := h.allocCells hm sz extra e hf hs hv
  exact ⟨_, _, hle, hR, by simp [newRow], ⟨rfl, rfl, _, Ren.add_same _ _ _, rfl, rfl⟩, Ren.add_same _ _ _⟩
theorem newD_ok (h : Rel X R H w) {cs cs' : List Value} (e : TypeId) (hv : VRs R cs cs') :
    ∃ R' w', R.le R' ∧ Rel X R' (newD H cs).2 w' ∧ (newRow e ⟨cs'⟩).run P w = .ok ⟨w.heap.size, 0, none⟩ w' ∧ VR R' (newD H cs).1 (.pointer (some ⟨w.heap.size, 0, none⟩)) := by
  obtain ⟨R', w', h1, h2, h3, h4, _⟩ := newRow_ok (P := P) h (m := .fix) (by decide) 1 [] e (fun _ => rfl) .fix hv
  exact ⟨R', w', h1, h2, by simpa using h3, .ptr h4⟩
theorem newM_ok (h : Rel X R H w) {cs cs' : List Value} (e : TypeId) (hv : VRs R cs cs') :
    ∃ R' w', R.le R' ∧ Rel X R' (newM (bM P e) H cs).2 w' ∧ (newRow e ⟨cs'⟩).run P w = .ok ⟨w.heap.size, 0, none⟩ w' ∧ VR R' (newM (bM P e) H cs).1 (.pointer (some ⟨w.heap.size, 0, none⟩)) := by
  have hm : bM P e ≠ .old := by unfold bM; split <;> simp
  have ho : (bM P e).okE ⟨w.heap.size, 0, 1, cs.length + ([] : List Value).length, true⟩ e := by
    unfold bM
    split
    · exact .var rfl
    · exact .fix
  obtain ⟨R', w', h1, h2, h3, h4, _⟩ := newRow_ok (P := P) h hm 1 [] e (fun _ => rfl) ho hv
  exact ⟨R', w', h1, h2, by simpa using h3, .ptr h4⟩
theorem buildSliceD_ok (h : Rel X R H w) {parts parts' : List (Nat × Value)} {t : TypeId} {len : Nat} {v : Value} {H' : Hp} (hp : PartsR R parts parts') (e : buildSliceD P H t len parts = some (v, H')) :
    ∃ R' v' w', (Instr.buildSlice t len parts'.toArray).run P w = .ok v' w' ∧ R.le R' ∧ Rel X R' H' w' ∧ VR R' v v' := by
  unfold buildSliceD at e
  split at e
  case h_2 => cases e
  case h_1 elem hu =>
    split at e
    case h_2 => cases e
    case h_1 n z hs hz =>
      split at e
      case isFalse => cases e
      case isTrue hc =>
        obtain ⟨hfl, hzs, hn, hbig⟩ := hc
        split at e
        case h_2 => cases e
        case h_1 cs hf =>
          cases e
          obtain ⟨out', h1, h2, h3⟩ := fillD_ok (R := R) (place' := fun i => some (i * n, n)) (fun _ _ k => k) hp (reps_flat (flat_cells hfl) len) hf
          obtain ⟨R', w', hle, hR, hr, ha, hri⟩ := newRow_ok (P := P) h (m := .fix) (by decide) n [] elem (fun _ => rfl) .fix h2
          refine ⟨R', .slice (some ⟨w.heap.size, 0, none⟩) len len, w', ?_, hle, hR, .slice len len len ha (.inl ⟨by have : len ≤ len * n := Nat.le_mul_of_pos_right _ hn; unfold LOOSE; omega, rfl, Nat.le_refl _⟩)⟩
          have hcells : ((Array.range (len * n)).map fun i => (if len * n = 0 then #[] else z.cells)[i % (if len * n = 0 then #[] else z.cells).size]!) = ⟨repsD z.cells.toList len⟩ := by
            by_cases hl : len * n = 0
            · have : len = 0 := by rcases Nat.mul_eq_zero.1 hl with k | k <;> omega
              subst this
              simp [repsD]
            · simp only [hl, if_false]
              rw [← reps_eq z.cells (by omega) len, hzs]
          simp only [Instr.buildSlice, Sem.run_bind, run_underlying hu, Result.andThen_ok, sizeD_run hs]
          rw [if_neg (by omega)]
          by_cases hl : len * n = 0
          · simp only [hl, if_true, Sem.run_bind, Sem.run_pure, Result.andThen_ok] at hcells ⊢
            rw [hcells]
            simp only [h1, Sem.run_bind, Sem.run_pure, Result.andThen_ok]
            simp only [List.append_nil] at hr
            simp [hr]
          · simp only [hl, if_false, Sem.run_bind, Sem.run_pure, Result.andThen_ok, zeroD_run hz] at hcells ⊢
            rw [hcells]
            simp only [h1, Sem.run_bind, Sem.run_pure, Result.andThen_ok]
            simp only [List.append_nil] at hr
            simp [hr]
theorem i64_wrap_id {n : Int} (h0 : 0 ≤ n) (h1 : n ≤ 281474976710656) : IntKind.i64.wrap n = n := IntWalk.i64_in n ⟨by omega, by omega⟩
theorem makeSliceD_ok (h : Rel X R H w) {t : TypeId} {l c v : Value} {H' : Hp} (e : makeSliceD P H t l c = some (v, H')) :
    ∃ R' v' w', (Instr.makeSlice t l c).run P w = .ok v' w' ∧ R.le R' ∧ Rel X R' H' w' ∧ VR R' v v' := by
  unfold makeSliceD at e
  split at e
  case h_2 => cases e
  case h_1 kl l kc c =>
    split at e
    case h_2 => cases e
    case h_1 elem hu =>
      split at e
      case h_2 => cases e
      case h_1 n by_ z hs hby hz =>
        split at e
        case isFalse => cases e
        case isTrue hc =>
          obtain ⟨hfl, hzs, hn, hl0, hlc, hcm, hbig⟩ := hc
          cases e
          obtain ⟨R', w', hle, hR, hr, ha, hri⟩ := newRow_ok (P := P) h (m := .fix) (by decide) n [] elem (fun _ => rfl) .fix (reps_flat (R := R) (flat_cells hfl) c.toNat)
          refine ⟨R', .slice (some ⟨w.heap.size, 0, none⟩) l.toNat c.toNat, w', ?_, hle, hR, .slice _ _ _ ha (.inl ⟨by unfold LOOSE; omega, rfl, by omega⟩)⟩
          obtain ⟨i, hi, hib⟩ := bytesD_run hby w
          have wl : IntKind.i64.wrap l = l := i64_wrap_id hl0 (by omega)
          have wc : IntKind.i64.wrap c = c := i64_wrap_id (by omega) hcm
          simp only [List.append_nil] at hr
          simp only [Instr.makeSlice, Sem.run_bind, run_underlying hu, Result.andThen_ok, asInt, asIntOf, Sem.run_pure, hi, wl, wc, hib, sizeD_run hs]
          rw [if_neg (by simp; omega)]
          simp only [Sem.run_bind, run_askRoom, Result.andThen_ok, Sem.run_pure, sizeD_run hs]
          by_cases hl : c.toNat * n = 0
          · have hc0 : c.toNat = 0 := by rcases Nat.mul_eq_zero.1 hl with k | k <;> omega
            simp only [hl, if_true, Sem.run_bind, Sem.run_pure, Result.andThen_ok]
            simp only [hc0, repsD] at hr ⊢
            simp only [Nat.zero_mul, List.size_toArray, List.length_nil, Nat.mod_zero]
            have e0 : ∀ g : Nat → Value, Array.map g (Array.range 0) = ⟨[]⟩ := fun g => by simp
            rw [e0, hr]
            rfl
          · simp only [hl, if_false, Sem.run_bind, Sem.run_pure, Result.andThen_ok, zeroD_run hz]
            have := reps_eq z.cells (by omega) c.toNat
            rw [hzs] at this ⊢
            rw [this]
            simp [hr]
theorem boundD_ok {v v' : Value} {y n : Nat} (hv : VR R v v') (h : boundD v y = some n) (w : World) (c : BoundsCode) : ∀ z, y ≤ z → (Instr.sliceBound v' z c).run P w = .ok n w ∧ n ≤ y := by
  intro z hz
  unfold boundD at h
  split at h
  case h_2 => cases h
  case h_1 k i =>
    split at h
    case isFalse => cases h
    case isTrue hc =>
      cases h; cases hv
      refine ⟨?_, by omega⟩
      simp only [Instr.sliceBound, asIntOf, Sem.run_bind, Sem.run_pure, Result.andThen_ok]
      rw [if_pos (by omega)]
      rfl
inductive OptR (R : Ren) : Option Value → Option Value → Prop where
  | none : OptR R none none
  | some {v v' : Value} (h : VR R v v') : OptR R (some v) (some v')
theorem bounds2 {lo hi lo' hi' : Option Value} (hlo : OptR R lo lo') (hhi : OptR R hi hi') {len known cap l h : Nat} (isS : Bool) (hk : known ≤ cap) (hlk : len ≤ cap)
    (eh : optB hi known len = some h) (el : optB lo h 0 = some l) (w : World) :
    (Instr.sliceBounds isS len cap lo' hi' none).run P w = .ok (l, h, cap) w ∧ l ≤ h ∧ h ≤ max known len := by
  have h1 : (∀ code, ((match hi' with | some v => Instr.sliceBound v cap code | none => (pure len : Sem Nat))).run P w = .ok h w) ∧ h ≤ max known len := by
    cases hhi with
    | none => simp only [optB] at eh; cases eh; exact ⟨fun _ => rfl, by omega⟩
    | some hv =>
      simp only [optB] at eh ⊢
      exact ⟨fun code => (boundD_ok (P := P) hv eh w code cap hk).1, by have := (boundD_ok (P := P) hv eh w .index known (Nat.le_refl _)).2; omega⟩
  have h2 : (∀ code, ((match lo' with | some v => Instr.sliceBound v h code | none => (pure 0 : Sem Nat))).run P w = .ok l w) ∧ l ≤ h := by
    cases hlo with
    | none => simp only [optB] at el; cases el; exact ⟨fun _ => rfl, by omega⟩
    | some hv =>
      simp only [optB] at el ⊢
      exact ⟨fun code => (boundD_ok (P := P) hv el w code h (Nat.le_refl _)).1, (boundD_ok (P := P) hv el w .index h (Nat.le_refl _)).2⟩
  refine ⟨?_, h2.2, h1.2⟩
  cases hhi with
  | none =>
    have a := h1.1 .index
    simp only at a
    simp only [Sem.run_pure, Result.ok.injEq, and_true] at a
    subst a
    cases hlo with
    | none =>
      have b := h2.1 .index
      simp only [Sem.run_pure, Result.ok.injEq, and_true] at b
      subst b
      simp [Instr.sliceBounds]
    | some hv =>
      have b := h2.1 .sliceB
      simp only at b
      simp [Instr.sliceBounds, b]
  | some hv' =>
    cases hlo with
    | none =>
      have b := h2.1 .index
      simp only [Sem.run_pure, Result.ok.injEq, and_true] at b
      subst b
      cases isS
      · have a := h1.1 .sliceAlen
        simp only at a
        simp [Instr.sliceBounds, a]
      · have a := h1.1 .sliceAcap
        simp only at a
        simp [Instr.sliceBounds, a]
    | some hv =>
      have b := h2.1 .sliceB
      simp only at b
      cases isS
      · have a := h1.1 .sliceAlen
        simp only at a
        simp [Instr.sliceBounds, a, b]
      · have a := h1.1 .sliceAcap
        simp only at a
        simp [Instr.sliceBounds, a, b]
theorem bounds3 {lo lo' : Option Value} {hv hv' mv mv' : Value} (hlo : OptR R lo lo') (hhi : VR R hv hv') (hmx : VR R mv mv') {len known cap l h m : Nat} (isS : Bool) (hk : known ≤ cap)
    (em : boundD mv known = some m) (eh : boundD hv m = some h) (el : optB lo h 0 = some l) (w : World) :
    (Instr.sliceBounds isS len cap lo' (some hv') (some mv')).run P w = .ok (l, h, m) w ∧ l ≤ h ∧ h ≤ m ∧ m ≤ known := by
  have a := fun code => boundD_ok (P := P) hmx em w code cap hk
  have b := fun code => boundD_ok (P := P) hhi eh w code m (Nat.le_refl _)
  cases hlo with
  | none =>
    simp only [optB] at el; cases el
    refine ⟨?_, by omega, (b .index).2, (a .index).2⟩
    cases isS
    · simp [Instr.sliceBounds, (a .slice3Alen).1, (b .slice3B).1]
    · simp [Instr.sliceBounds, (a .slice3Acap).1, (b .slice3B).1]
  | some hl =>
    simp only [optB] at el
    have c := fun code => boundD_ok (P := P) hl el w code h (Nat.le_refl _)
    refine ⟨?_, (c .index).2, (b .index).2, (a .index).2⟩
    cases isS
    · simp [Instr.sliceBounds, (a .slice3Alen).1, (b .slice3B).1, (c .slice3C).1]
    · simp [Instr.sliceBounds, (a .slice3Acap).1, (b .slice3B).1, (c .slice3C).1]
end Go.Det

set_option linter.unusedSimpArgs false
set_option linter.unusedVariables false
namespace Go.Det
open Go Go.RowKit
variable {X : Cx} {P : Program} {R : Ren} {H : Hp} {w : World}
theorem AR_add {R : Ren} {b o : Nat} {a' : Addr} (h : AR R ⟨b, o, none⟩ a') (n : Nat) : AR R ⟨b, o + n, none⟩ (a'.add n) := AR_of h n
theorem add_off {a : Addr} (n : Nat) : (a.add n).off = a.off + n := by unfold Addr.add; split <;> simp_all
theorem CapR_tail {R : Ren} {b o : Nat} {a' : Addr} {len cap' l h n : Nat} (ha : AR R ⟨b, o, none⟩ a') (hc : CapR R ⟨b, o, none⟩ a' len LOOSE cap') (hl : l ≤ h) (hh : h ≤ len)
    (hn : ∀ i, R b = some i → i.own = true → i.sz = n) : CapR R ⟨b, o + l * n, none⟩ (a'.add (l * n)) (h - l) LOOSE (cap' - l) := by
  rcases hc with ⟨hc, _⟩ | ⟨_, h2, i, e, h3⟩
  · omega
  · refine .inr ⟨rfl, by omega, i, e, fun ho => ?_⟩
    obtain ⟨h4, h5⟩ := h3 ho
    refine ⟨?_, h5⟩
    have := hn i e ho
    subst this
    rw [add_off]
    have : (cap' - l) * i.sz = cap' * i.sz - l * i.sz := Nat.sub_mul _ _ _
    rw [this]
    have : l * i.sz ≤ cap' * i.sz := Nat.mul_le_mul_right _ (by omega)
    omega
theorem optB_le {o : Option Value} {y d n : Nat} (h : optB o y d = some n) : n ≤ max y d := by
  unfold optB at h
  split at h
  · unfold boundD at h
    split at h
    · split at h
      · cases h; omega
      · cases h
    · cases h
  · cases h; omega
theorem szOk_ok (h : Rel X R H w) {b n : Nat} (e : szOk H b n = true) : ∀ i, R b = some i → i.own = true → i.sz = n := by
  intro i hi ho
  unfold szOk at e
  split at e
  · rename_i s cs hb
    obtain ⟨j, hj, br⟩ := h.blk _ _ hb
    rw [hi] at hj; cases hj
    cases br with
    | own m cs c' el fr hm ho' hb' hw ht hle hfix hsz hfr hh =>
      rw [hsz.1 _ _ rfl]; simpa using e
  · rename_i cs hb
    obtain ⟨j, hj, br⟩ := h.blk _ _ hb
    rw [hi] at hj; cases hj
    cases br with
    | old cs ho' => rw [ho] at ho'; cases ho'
    | own m cs c' el fr hm => exact absurd rfl hm
  · cases e
theorem sliceD_ok (h : Rel X R H w) {t : TypeId} {x x' v : Value} {lo hi mx lo' hi' mx' : Option Value} (hx : VR R x x') (hlo : OptR R lo lo') (hhi : OptR R hi hi') (hmx : OptR R mx mx') (e : sliceD P H t x lo hi mx = some v) :
    ∃ v', (Instr.sliceAt t x' lo' hi' mx').run P w = .ok v' w ∧ VR R v v' := by
  unfold sliceD at e
  split at e
  -- a string
  case h_1 s hu =>
    cases hx
    split at e
    case h_1 => cases e
    case h_2 =>
      cases hmx
      split at e
      case h_2 => cases e
      case h_1 hh eh =>
        split at e
        case h_2 => cases e
        case h_1 l el =>
          cases e
          obtain ⟨hr, _, _⟩ := bounds2 (P := P) hlo hhi false (Nat.le_refl _) (Nat.le_refl _) eh el w
          refine ⟨.string (s.extract l hh), ?_, .string _⟩
          simp [Instr.sliceAt, Instr.slice, run_underlying hu, hr]
  -- a slice
  case h_2 elem b o len cap hu =>
    have hat : ∀ z, (Instr.sliceAt t z lo' hi' mx').run P w = (Instr.slice t z lo' hi' mx').run P w := fun z => by simp [Instr.sliceAt, run_underlying hu]
    rw [hat]
    split at e
    case h_2 => cases e
    case h_1 n hs =>
      simp only at e
      split at e
      -- three bounds
      case h_1 mv =>
        cases hmx with
        | some hmv =>
          rename_i mv'
          split at e
          case h_2 => cases e
          case h_1 hv m em =>
            cases hhi with
            | some hhv =>
              rename_i hv'
              split at e
              case h_2 => cases e
              case h_1 hh eh =>
                split at e
                case h_2 => cases e
                case h_1 l el =>
                  split at e
                  case isFalse => cases e
                  case isTrue hcond =>
                    cases e
                    cases hx with
                    | empty a a' cap' => exact absurd ⟨rfl, by decide⟩ hcond.2
                    | slice len cap cap' ha hc =>
                      rename_i a'
                      obtain ⟨hr, h1, h2, h3⟩ := bounds3 (P := P) (len := len) (cap := cap') hlo hhv hmv true (by rcases hc with ⟨c1, c2⟩ | ⟨c1, c2, _⟩ <;> split <;> omega) em eh el w
                      refine ⟨.slice (if m = l then some a' else some (a'.add (l * n))) (hh - l) (m - l), ?_, ?_⟩
                      · simp [Instr.slice, run_underlying hu, hr, sizeD_run hs]
                      · have hml : m - l < LOOSE := by have := hcond.1; omega
                        by_cases hm : m = l
                        · simp only [hm, if_true]; exact .slice _ _ _ ha (.inl ⟨by omega, rfl, by omega⟩)
                        · simp only [hm, if_false]; exact .slice _ _ _ (AR_add ha _) (.inl ⟨hml, rfl, by omega⟩)
      -- two
      case h_2 =>
        cases hmx
        split at e
        case h_2 => cases e
        case h_1 hh eh =>
          split at e
          case h_2 => cases e
          case h_1 l el =>
            cases hx with
            | empty a a' cap' =>
              simp only [show LOOSE ≤ EMPTY by decide, show ¬ EMPTY = LOOSE by decide, show LOOSE < EMPTY by decide, if_true, if_false] at eh e
              obtain ⟨hr, h1, h2⟩ := bounds2 (P := P) (cap := cap') hlo hhi true (Nat.zero_le _) (Nat.zero_le _) eh el w
              have hh0 : hh = 0 := by omega
              subst hh0
              have hl0 : l = 0 := by omega
              subst hl0
              simp only [and_self, if_true] at e
              cases e
              refine ⟨.slice (if cap' = 0 then some a' else some (a'.add (0 * n))) 0 cap', ?_, ?_⟩
              · simp [Instr.slice, run_underlying hu, hr, sizeD_run hs]
              · split <;> exact .empty _ _ _
            | slice len cap cap' ha hc =>
              rename_i a'
              have hlc : len ≤ cap' ∨ cap < LOOSE ∧ cap' = cap := by
                rcases hc with hc | ⟨_, c2, _⟩
                · exact .inr ⟨hc.1, hc.2.1⟩
                · exact .inl c2
              by_cases hL : cap = LOOSE
              · subst hL
                have hlc' : len ≤ cap' := by rcases hlc with k | ⟨k, _⟩; exact k; omega
                simp only [Nat.le_refl, if_true] at eh e
                obtain ⟨hr, h1, h2⟩ := bounds2 (P := P) (cap := cap') hlo hhi true hlc' hlc' eh el w
                have hrun : (Instr.slice t (.slice (some a') len cap') lo' hi' none).run P w = .ok (.slice (if cap' = l then some a' else some (a'.add (l * n))) (hh - l) (cap' - l)) w := by
                  simp [Instr.slice, run_underlying hu, hr, sizeD_run hs]
                refine ⟨_, hrun, ?_⟩
                split at e
                case isTrue hl0 =>
                  cases e; subst hl0
                  have hc' : CapR R ⟨b, o, none⟩ a' hh LOOSE cap' := by
                    rcases hc with ⟨k, _⟩ | ⟨_, c2, i, c3, c4⟩
                    · omega
                    · exact .inr ⟨rfl, by omega, i, c3, c4⟩
                  by_cases hz : cap' = 0
                  · simp only [hz, if_true, Nat.sub_zero]; rw [hz] at hc'; exact .slice _ _ _ ha hc'
                  · simp only [hz, if_false, Nat.sub_zero, Nat.zero_mul, Addr.add_zero']; exact .slice _ _ _ ha hc'
                case isFalse hl0 =>
                  split at e
                  case isTrue hq =>
                    cases e
                    rw [if_neg (by omega)]
                    exact .slice _ _ _ (AR_add ha _) (CapR_tail ha hc h1 (by omega) (szOk_ok h hq.1))
                  case isFalse hq =>
                    split at e
                    case isFalse => cases e
                    case isTrue hq2 =>
                      cases e
                      have : hh - l = 0 := by omega
                      rw [this]
                      split <;> exact .empty _ _ _
              · have hcc : cap < LOOSE ∧ cap' = cap := by rcases hc with k | ⟨k, _⟩; exact ⟨k.1, k.2.1⟩; exact absurd k hL
                obtain ⟨hc1, rfl⟩ := hcc
                simp only [hL, show ¬ LOOSE ≤ cap' by omega, show ¬ LOOSE < cap' by omega, if_false] at eh e
                obtain ⟨hr, h1, h2, h5⟩ : (Instr.sliceBounds true len cap' lo' hi' none).run P w = .ok (l, hh, cap') w ∧ l ≤ hh ∧ len ≤ cap' ∧ hh ≤ cap' := by
                  split at e
                  case isFalse => cases e
                  case isTrue hlen =>
                    obtain ⟨hr, h1, h2⟩ := bounds2 (P := P) (cap := cap') hlo hhi true (Nat.le_refl _) hlen eh el w
                    exact ⟨hr, h1, hlen, by omega⟩
                rw [if_pos h2] at e
                cases e
                refine ⟨.slice (if cap' = l then some a' else some (a'.add (l * n))) (hh - l) (cap' - l), ?_, ?_⟩
                · simp [Instr.slice, run_underlying hu, hr, sizeD_run hs]
                · by_cases hm : cap' = l
                  · simp only [hm, if_true]; exact .slice _ _ _ ha (.inl ⟨by omega, rfl, by omega⟩)
                  · simp only [hm, if_false]; exact .slice _ _ _ (AR_add ha _) (.inl ⟨by omega, rfl, by omega⟩)
  -- nil
  case h_3 elem hu =>
    cases hx
    split at e
    case h_3 => cases e
    case h_2 mv hh l n eh el hs =>
      cases hmx with
      | some hmv =>
        split at e
        case h_2 => cases e
        case h_1 hv m em =>
          cases e
          cases hhi with
          | some hhv =>
            have z0 : m = 0 := by
              unfold boundD at em
              split at em
              · split at em
                · cases em; omega
                · cases em
              · cases em
            subst z0
            have eh' : boundD hv 0 = some hh := eh
            have z1 : hh = 0 := by have := optB_le eh; omega
            subst z1
            have z2 : l = 0 := by have := optB_le el; omega
            subst z2
            obtain ⟨hr, h1, h2, h3⟩ := bounds3 (P := P) (len := 0) (cap := 0) hlo hhv hmv true (Nat.le_refl _) em eh' el w
            refine ⟨.slice none 0 0, ?_, .nilSlice⟩
            simp [Instr.sliceAt, Instr.slice, run_underlying hu, hr, sizeD_run hs]
    case h_1 hh l n eh el hs =>
      cases e
      cases hmx
      have z1 : hh = 0 := by have := optB_le eh; omega
      have z2 : l = 0 := by have := optB_le el; omega
      subst z1 z2
      obtain ⟨hr, h1, h2⟩ := bounds2 (P := P) (cap := 0) hlo hhi true (Nat.le_refl _) (Nat.le_refl _) eh el w
      refine ⟨.slice none 0 0, ?_, .nilSlice⟩
      simp [Instr.sliceAt, Instr.slice, run_underlying hu, hr, sizeD_run hs]
  -- an array
  case h_4 n elem b o hu =>
    cases hx with
    | ptr ha =>
      rename_i a'
      split at e
      case h_2 => cases e
      case h_1 sz hs =>
        split at e
        case h_3 => cases e
        case h_1 =>
          cases hmx
          split at e
          case h_2 => cases e
          case h_1 hh eh =>
            split at e
            case h_2 => cases e
            case h_1 l el =>
              split at e
              case isFalse => cases e
              case isTrue hcond =>
                cases e
                obtain ⟨hr, h1, h2⟩ := bounds2 (P := P) hlo hhi false (Nat.le_refl _) (Nat.le_refl _) eh el w
                refine ⟨.slice (some (if n = l then a' else a'.add (l * sz))) (hh - l) (n - l), ?_, ?_⟩
                · simp [Instr.sliceAt, Instr.sureAddr, run_underlying hu, hr, sizeD_run hs]
                · by_cases hm : n = l
                  · simp only [hm, if_true]; exact .slice _ _ _ ha (.inl ⟨by omega, rfl, by omega⟩)
                  · simp only [hm, if_false]; exact .slice _ _ _ (AR_add ha _) (.inl ⟨by omega, rfl, by omega⟩)
        case h_2 mv hv =>
          cases hmx with
          | some hmv =>
            cases hhi with
            | some hhv =>
              split at e
              case h_2 => cases e
              case h_1 m em =>
                split at e
                case h_2 => cases e
                case h_1 hh eh =>
                  split at e
                  case h_2 => cases e
                  case h_1 l el =>
                    split at e
                    case isFalse => cases e
                    case isTrue hcond =>
                      cases e
                      obtain ⟨hr, h1, h2, h3⟩ := bounds3 (P := P) (len := n) (cap := n) hlo hhv hmv false (Nat.le_refl _) em eh el w
                      refine ⟨.slice (some (if m = l then a' else a'.add (l * sz))) (hh - l) (m - l), ?_, ?_⟩
                      · simp [Instr.sliceAt, Instr.sureAddr, run_underlying hu, hr, sizeD_run hs]
                      · by_cases hm : m = l
                        · simp only [hm, if_true]; exact .slice _ _ _ ha (.inl ⟨by omega, rfl, by omega⟩)
                        · simp only [hm, if_false]; exact .slice _ _ _ (AR_add ha _) (.inl ⟨by omega, rfl, by omega⟩)
  case h_5 => cases e
theorem fieldAddrD_ok {t : TypeId} {x x' v : Value} {f : Nat} (w : World) (hx : VR R x x') (e : fieldAddrD P t x f = some v) :
    ∃ v', (Instr.fieldAt t x' f).run P w = .ok v' w ∧ VR R v v' := by
  unfold fieldAddrD at e
  split at e
  case h_2 => cases e
  case h_1 fields b o hu =>
    cases hx with
    | ptr ha =>
      rename_i a'
      split at e
      case h_2 => cases e
      case h_1 fd hf =>
        split at e
        case h_2 => cases e
        case h_1 n hs =>
          split at e
          case isTrue => cases e
          case isFalse hn =>
            cases e
            refine ⟨.pointer (some (a'.add fd.offset)), ?_, .ptr (AR_add ha _)⟩
            simp [Instr.fieldAt, run_underlying hu, hf, Instr.sureAddr, fieldPlace, sizeD_run hs, hn]
theorem partD_ok {t : TypeId} {cs cs' : List Value} {off : Nat} {v : Value} (w : World) (hc : VRs R cs cs') (e : partD P t cs off = some v) :
    ∃ v', (part t ⟨cs'⟩ off).run P w = .ok v' w ∧ VR R v v' := by
  unfold partD at e
  split at e
  case h_3 => cases e
  case h_1 hag =>
    split at e
    case h_2 => cases e
    case h_1 n hs =>
      cases e
      refine ⟨.agg ⟨(cs'.drop off).take n⟩, ?_, .agg ((hc.drop off).take n)⟩
      simp only [part, Sem.run_bind, isAggD_run hag, Result.andThen_ok, if_true, sizeD_run hs, Sem.run_pure]
      congr 2
      apply Array.ext'
      simp [List.extract_eq_take_drop, List.take_drop, Nat.add_comm]
  case h_2 hag =>
    obtain ⟨v', hv, hr⟩ := hc.get _ _ e
    refine ⟨v', ?_, hr⟩
    simp [part, isAggD_run hag, hv]
theorem fieldD_ok {t : TypeId} {x x' v : Value} {f : Nat} (w : World) (hx : VR R x x') (e : fieldD P t x f = some v) :
    ∃ v', (Instr.field t x' f).run P w = .ok v' w ∧ VR R v v' := by
  unfold fieldD at e
  split at e
  case h_2 => cases e
  case h_1 fields cs hu =>
    cases hx with
    | agg hc =>
      split at e
      case h_2 => cases e
      case h_1 fd hf =>
        obtain ⟨v', hr, hv⟩ := partD_ok w hc e
        refine ⟨v', ?_, hv⟩
        simp [Instr.field, run_underlying hu, hf, asAgg, hr]
theorem indexAddrD_ok {t : TypeId} {x x' i i' v : Value} (w : World) (hx : VR R x x') (hi : VR R i i') (e : indexAddrD P t x i = some v) :
    ∃ v', (Instr.indexAt t x' i').run P w = .ok v' w ∧ VR R v v' := by
  unfold indexAddrD at e
  split at e
  case h_3 => cases e
  case h_1 elem b o len cap k i hu =>
    cases hi
    split at e
    case h_2 => cases e
    case h_1 n hs =>
      split at e
      case isFalse => cases e
      case isTrue hlt =>
        cases e
        cases hx with
        | empty => omega
        | slice len cap cap' ha hc =>
          rename_i a'
          refine ⟨.pointer (some (a'.add (i.toNat * n))), ?_, .ptr (AR_add ha _)⟩
          simp [Instr.indexAt, run_underlying hu, asIntOf, hlt, sizeD_run hs]
  case h_2 len elem b o k i hu =>
    cases hi
    split at e
    case h_2 => cases e
    case h_1 n hs =>
      split at e
      case isFalse => cases e
      case isTrue hlt =>
        cases e
        cases hx with
        | ptr ha =>
          rename_i a'
          refine ⟨.pointer (some (a'.add (i.toNat * n))), ?_, .ptr (AR_add ha _)⟩
          simp [Instr.indexAt, run_underlying hu, asIntOf, hlt, sizeD_run hs, Instr.sureAddr]
theorem indexD_ok {t : TypeId} {x x' i i' v : Value} (w : World) (hx : VR R x x') (hi : VR R i i') (e : indexD P t x i = some v) :
    ∃ v', (Instr.index t x' i').run P w = .ok v' w ∧ VR R v v' := by
  unfold indexD at e
  split at e
  case h_3 => cases e
  case h_1 len elem cs k i hu =>
    cases hi
    cases hx with
    | agg hc =>
      split at e
      case h_2 => cases e
      case h_1 n hs =>
        split at e
        case isFalse => cases e
        case isTrue hlt =>
          obtain ⟨v', hr, hv⟩ := partD_ok w hc e
          refine ⟨v', ?_, hv⟩
          simp [Instr.index, run_underlying hu, asIntOf, hlt, sizeD_run hs, hr]
  case h_2 s k i hu =>
    cases hi
    cases hx
    split at e
    case isFalse => cases e
    case isTrue h0 =>
      split at e
      case h_2 => cases e
      case h_1 b hb =>
        cases e
        refine ⟨.int .u8 b.toNat, ?_, .int _ _⟩
        simp [Instr.index, run_underlying hu, asIntOf, h0, hb]
end Go.Det

set_option linter.unusedSimpArgs false
set_option linter.unusedVariables false
namespace Go.Det
open Go Go.RowKit
variable {X : Cx} {P : Program} {R : Ren} {H : Hp} {w : World}
def EvR (R : Ren) (ev : Ev) (ρ : Operand → Value) : Prop := ∀ x v, ev x = some v → VR R v (ρ x)
theorem genD_ok {ev : Ev} {ρ : Operand → Value} (hev : EvR R ev ρ) {o : Oper} (ho : ∀ cs b, o.op ≠ .select cs b) {v : Value} (e : genD P ev o = some v) (w : World) :
    (execOp ρ o).run P w = .ok (.value v) w ∧ VR R v v := by
  unfold genD at e
  split at e
  case isFalse => cases e
  case isTrue hall =>
    split at e
    case h_2 => cases e
    case h_1 v' hp =>
      split at e
      case isFalse => cases e
      case isTrue hf =>
        cases e
        refine ⟨?_, flat_refl hf⟩
        have : execOp ρ o = execOp (fun x => (ev x).getD undef) o := by
          refine execOp_congr o ho fun x hx => ?_
          have := List.all_eq_true.1 hall x (by simpa using hx)
          cases hx' : ev x with
          | none => rw [hx'] at this; cases this
          | some u =>
            rw [hx'] at this
            exact flat_eq (hev x u hx') (by simpa using this)
        rw [this]
        exact pureRun_run P _ hp w
theorem nilEq_ok {d : TypeDesc} {t : TypeId} {x y x' y' : Value} {b : Bool} (hu : P.underlying t = some d) (hx : VR R x x') (hy : VR R y y') (e : nilEq d x y = some b) (w : World) :
    (Op.equal t x' y').run P w = .ok b w := by
  have h1 : Op.equal t x' y' = Op.equalIn (9999 + 1) t x' y' := rfl
  rw [h1]
  generalize (9999 : Nat) = q
  unfold nilEq at e
  split at e
  all_goals first | (cases e; done) | skip
  all_goals
    cases d <;> first | (simp at e; done) | skip
    all_goals (cases hx <;> cases hy <;> simp at e <;> try subst e) 
    all_goals simp [Op.equalIn, run_underlying hu]
theorem eqGuard_nilEq {d : TypeDesc} {op : BinOp} {t : TypeId} {x y : Operand} {a b a' b' : Value} {c : Bool} (ha : VR R a a') (hb : VR R b b') (e : nilEq d a b = some c) : eqGuard op t x y a' b' = pure () := by
  unfold nilEq at e
  split at e
  all_goals first | (cases e; done) | skip
  all_goals (cases ha <;> cases hb <;> cases op <;> rfl)
theorem nilD_ok {op : BinOp} {t : TypeId} {xo yo : Operand} {x y x' y' v : Value} (hx : VR R x x') (hy : VR R y y') (e : nilD P op t x y = some v) (w : World) :
    (do eqGuard op t xo yo x' y'; binOp op t x' y' : Sem Value).run P w = .ok v w ∧ VR R v v := by
  unfold nilD at e
  split at e
  case h_2 => cases e
  case h_1 d hu =>
    split at e
    case h_1 b hn =>
      cases e
      refine ⟨?_, .bool _⟩
      rw [eqGuard_nilEq hx hy hn]
      have hq := nilEq_ok hu hx hy hn w
      have : binOp .eql t x' y' = (do pure (.bool (← Op.equal t x' y')) : Sem Value) := by
        unfold nilEq at hn
        split at hn
        all_goals first | (cases hn; done) | skip
        all_goals (cases hx <;> cases hy <;> rfl)
      rw [this]
      simp [hq]
    case h_2 b hn =>
      cases e
      refine ⟨?_, .bool _⟩
      rw [eqGuard_nilEq hx hy hn]
      have hq := nilEq_ok hu hx hy hn w
      have : binOp .neq t x' y' = (do pure (.bool (!(← Op.equal t x' y'))) : Sem Value) := by
        unfold nilEq at hn
        split at hn
        all_goals first | (cases hn; done) | skip
        all_goals (cases hx <;> cases hy <;> rfl)
      rw [this]
      simp [hq]
    case h_3 => cases e
theorem intD_ok {op : BinOp} {k : IntKind} {a b : Int} {v : Value} {t : TypeId} (e : intD op k a b = some v) (w : World) :
    (binOp op t (.int k a) (.int k b)).run P w = .ok v w ∧ VR R v v := by
  unfold intD at e
  split at e
  all_goals first | (cases e; done) | skip
  all_goals first
    | (cases e; refine ⟨?_, by constructor⟩; simp [binOp, Op.intArith, Op.intCmp, bits, Op.intBits]; done)
    | (split at e; cases e; cases e; refine ⟨?_, by constructor⟩; rename_i hb; simp [binOp, Op.intDiv, hb]; done)
    | skip
theorem shiftD_ok {op : BinOp} {k k' : IntKind} {a b : Int} {v : Value} {t : TypeId} (e : shiftD op k a b = some v) (w : World) :
    (binOp op t (.int k a) (.int k' b)).run P w = .ok v w ∧ VR R v v := by
  unfold shiftD at e
  split at e
  all_goals first | (cases e; done) | skip
  all_goals
    split at e
    · cases e
    · cases e
      rename_i hb
      refine ⟨?_, .int _ _⟩
      simp [binOp, Op.shift, hb]
theorem strD_ok {op : BinOp} {a b : ByteArray} {v : Value} {t : TypeId} (e : strD op a b = some v) (w : World) :
    (binOp op t (.string a) (.string b)).run P w = .ok v w ∧ VR R v v := by
  unfold strD at e
  split at e
  all_goals first | (cases e; done) | skip
  case h_1 =>
    split at e
    · cases e
    · cases e
      rename_i hb
      refine ⟨?_, .string _⟩
      simp only [binOp, Op.stringOp, if_neg hb]
      rfl
  all_goals
    cases e
    refine ⟨?_, by constructor⟩
    simp [binOp, Op.stringOp]
theorem eqGuard_int {op : BinOp} {t : TypeId} {x y : Operand} {k : IntKind} {n : Int} {b : Value} : eqGuard op t x y (.int k n) b = pure () := by cases op <;> rfl
theorem eqGuard_str {op : BinOp} {t : TypeId} {x y : Operand} {s : ByteArray} {b : Value} : eqGuard op t x y (.string s) b = pure () := by cases op <;> rfl
theorem binD_ok {ev : Ev} {ρ : Operand → Value} (hev : EvR R ev ρ) {o : Oper} {op : BinOp} {t t' : TypeId} {xo yo : Operand} (ho : o.op = .binOp op t xo yo t') {x y v : Value} (hx : ev xo = some x) (hy : ev yo = some y)
    (e : binD P ev o op t x y = some v) (w : World) : (execOp ρ o).run P w = .ok (.value v) w ∧ VR R v v := by
  have hx' := hev _ _ hx
  have hy' := hev _ _ hy
  have hex : ∀ {z : Value}, (do eqGuard op t xo yo (ρ xo) (ρ yo); binOp op t (ρ xo) (ρ yo) : Sem Value).run P w = .ok z w → (execOp ρ o).run P w = .ok (.value z) w := by
    intro z hz
    unfold execOp
    simp only [ho]
    simp only [Sem.run_bind] at hz ⊢
    rw [hz]
    rfl
  have hns : ∀ cs b, o.op ≠ .select cs b := by rw [ho]; intro _ _ h; cases h
  unfold binD at e
  split at e
  case h_1 k a k' b =>
    generalize hX : ρ xo = x0 at *
    generalize hY : ρ yo = y0 at *
    cases hx'; cases hy'
    have hint : ∀ {z : Value}, (binOp op t (.int k a) (.int k' b)).run P w = .ok z w → (execOp ρ o).run P w = .ok (.value z) w := by
      intro z hz
      refine hex ?_
      rw [eqGuard_int]
      simpa using hz
    split at e
    · obtain ⟨h1, h2⟩ := shiftD_ok (R := R) (k' := k') (t := t) e w
      exact ⟨hint h1, h2⟩
    · obtain ⟨h1, h2⟩ := shiftD_ok (R := R) (k' := k') (t := t) e w
      exact ⟨hint h1, h2⟩
    · split at e
      · rename_i hk
        subst hk
        obtain ⟨h1, h2⟩ := intD_ok (R := R) (t := t) e w
        exact ⟨hint h1, h2⟩
      · cases e
  case h_2 a b =>
    generalize hX : ρ xo = x0 at *
    generalize hY : ρ yo = y0 at *
    cases hx'; cases hy'
    obtain ⟨h1, h2⟩ := strD_ok (R := R) (t := t) e w
    refine ⟨hex ?_, h2⟩
    rw [eqGuard_str]
    simpa using h1
  case h_3 a b =>
    generalize hX : ρ xo = x0 at *
    generalize hY : ρ yo = y0 at *
    split at e
    case h_1 te hu =>
      split at e
      case h_1 ti hti =>
        split at e
        case isTrue hab =>
          cases e
          subst hab
          cases hx' with
          | ptr ha =>
            cases hy' with
            | ptr hb =>
              rename_i c1 c2
              have hcc : c1 = c2 := by
                obtain ⟨_, s1, i, e1, e2, e3⟩ := ha
                obtain ⟨_, s2, j, f1, f2, f3⟩ := hb
                rw [e1] at f1; cases f1
                cases c1; cases c2
                simp only at *
                subst e2 e3 s1 f2 f3 s2
                rfl
              subst hcc
              refine ⟨hex ?_, .bool _⟩
              have hr := Lib.run_neq_ptr_same (P := P) w c1 hu hti
              have hg : (eqGuard .neq t xo yo (.pointer (some c1)) (.pointer (some c1))).run P w = .ok () w := by unfold eqGuard; cases xo <;> cases yo <;> rfl
              simp only [Sem.run_bind, hg, Result.andThen_ok]
              exact hr
        case isFalse => cases e
      case h_2 => cases e
    case h_2 => cases e
  case h_4 =>
    split at e
    case h_1 v' hn =>
      cases e
      obtain ⟨h1, h2⟩ := nilD_ok (xo := xo) (yo := yo) hx' hy' hn w
      exact ⟨hex h1, h2⟩
    case h_2 => exact genD_ok hev hns e w
end Go.Det

set_option linter.unusedSimpArgs false
set_option linter.unusedVariables false
namespace Go.Det
open Go Go.RowKit
variable {X : Cx} {P : Program} {R : Ren} {H : Hp} {w : World}
theorem ints_VRs {R : Ren} {α : Type} (f : α → Value) (hf : ∀ x, flat (f x) = true) : ∀ l : List α, VRs R (l.map f) (l.map f)
  | [] => .nil
  | x :: l => .cons (flat_refl (hf x)) (ints_VRs f hf l)
theorem lenD_ok {x x' : Value} {m : Nat} (hx : VR R x x') (e : lenD x = some m) (w : World) : (Builtin.lenOf x').run P w = .ok m w := by
  unfold lenD at e
  split at e
  · cases e; cases hx <;> rfl
  · cases e; cases hx; rfl
  · cases e
theorem srcD_ok (h : Rel X R H w) {x x' : Value} {n m : Nat} {new : List Value} (hx : VR R x x') (e : srcD H n x m = some new) :
    ∃ new', (Builtin.firstCells n m x').run P w = .ok ⟨new'⟩ w ∧ VRs R new new' := by
  unfold srcD at e
  split at e
  · cases e; cases hx; exact ⟨[], rfl, .nil⟩
  · rename_i b o len cap m
    split at e
    case isTrue hm =>
      cases e
      subst hm
      cases hx <;> exact ⟨[], by simp [Builtin.firstCells, loadCells, loadCellsFrom], .nil⟩
    case isFalse hm =>
      split at e
      case h_2 => cases e
      case h_1 md cs hb =>
        split at e
        case isFalse => cases e
        case isTrue hle =>
          cases e
          cases hx with
          | empty a a' cap' => omega
          | slice len cap cap' ha hc =>
            obtain ⟨vs', hr, hv⟩ := h.loadCells (P := P) ha hb hle.1
            exact ⟨vs', by simpa [Builtin.firstCells] using hr, hv⟩
  · split at e
    case isFalse => cases e
    case isTrue hn =>
      cases e; cases hx
      rename_i s _
      refine ⟨_, ?_, ints_VRs _ (fun _ => rfl) _⟩
      simp only [Builtin.firstCells, Sem.run_pure]
      congr 1
      apply Array.ext'
      simp only [Array.toList_map]
      congr 1
      rw [ByteArray.data_extract]
      simp
  · cases e
theorem notInt {d : TypeDesc} : (∀ k, d ≠ .int k) → (match d with | .int _ => true | _ => false) = false := by
  intro h
  cases d <;> first | rfl | exact absurd rfl (h _)
theorem append_run {argTypes : Array TypeId} {sT xT ty elem : TypeId} (h0 : argTypes[0]? = some sT) (h1 : argTypes[1]? = some xT) (hu : P.underlying sT = some (.slice elem)) {dx : TypeDesc} (hux : P.underlying xT = some dx)
    (hni : ∀ k, dx ≠ .int k) {n by_ : Nat} {z : Value} (hs : sizeD P elem = some n) (hby : bytesD P elem = some by_) (hz : zeroD P elem = some z)
    {base : Option Addr} {len cap m : Nat} {x' : Value} (hl : (Builtin.lenOf x').run P w = .ok m w) :
    (len + m ≤ cap → ∀ {new' : List Value}, (Builtin.firstCells n m x').run P w = .ok ⟨new'⟩ w → ∀ {w'}, ((match base with | some a => storeCells (a.add (len * n)) new' | none => pure ()).run P w = .ok () w') →
      (Builtin.append_ argTypes ty #[.slice base len cap, x']).run P w = .ok (.slice base (len + m) cap) w') ∧
    (cap < len + m → len + m ≤ 140737488355328 → (len + m) * by_ ≤ 140737488355328 → ∀ {old' new' : List Value}, (Builtin.firstCells n len (.slice base len cap)).run P w.drew = .ok ⟨old'⟩ w.drew → (Builtin.firstCells n m x').run P w.drew = .ok ⟨new'⟩ w.drew →
      (Builtin.append_ argTypes ty #[.slice base len cap, x']).run P w =
        .ok (.slice (some ⟨w.heap.size, 0, none⟩) (len + m) (grownCap w (len + m) cap elem)) (w.drew.alloc (.cells ⟨old' ++ new' ++ (Builtin.zeroCells z.cells (grownCap w (len + m) cap elem - (len + m))).toList⟩ elem))) := by
  have hzb := notInt hni
  obtain ⟨i, hi, hib⟩ := bytesD_run hby w
  obtain ⟨i', hi', hib'⟩ := bytesD_run hby w.drew
  refine ⟨fun hc new' hnew w' hst => ?_, fun hc hsm hb old' new' ho hn => ?_⟩
  · simp only [Builtin.append_, h0, h1]
    simp only [Array.getElem?_eq_getElem, List.size_toArray, List.length_cons, List.length_nil, Nat.zero_lt_succ, Nat.one_lt_succ_succ, List.getElem_toArray, List.getElem_cons_zero, List.getElem_cons_succ]
    simp only [Sem.run_bind, run_underlying hu, Result.andThen_ok, sizeD_run hs, run_underlying hux, Sem.run_pure, hzb, hl, Bool.false_eq_true, if_false, hc, if_true, Bool.not_false, hnew]
    cases base with
    | none => simp only [Sem.run_pure, Result.ok.injEq, true_and] at hst; subst hst; rfl
    | some a => simp only at hst; simp only [Sem.run_bind, hst, Result.andThen_ok, Sem.run_pure]
  · simp only [Builtin.append_, h0, h1]
    simp only [Array.getElem?_eq_getElem, List.size_toArray, List.length_cons, List.length_nil, Nat.zero_lt_succ, Nat.one_lt_succ_succ, List.getElem_toArray, List.getElem_cons_zero, List.getElem_cons_succ]
    simp only [Sem.run_bind, run_underlying hu, Result.andThen_ok, sizeD_run hs, run_underlying hux, Sem.run_pure, hzb, hl, Bool.false_eq_true, if_false, Nat.not_le.2 hc, Bool.not_false, if_true]
    have h63 : ¬ (((len + m : Nat) : Int) > IntKind.i64.max) := by
      have : IntKind.i64.max = 9223372036854775807 := rfl
      omega
    have hnext : ¬ (Builtin.nextslicecap (len + m) cap * i.bytes > 2 ^ 48) := by
      rw [hib]
      have := growslice_fits hc hb
      omega
    simp only [h63, if_false, hnext, Sem.run_bind, hi, Result.andThen_ok, run_choose_drew, hi', run_askRoom, ho, hn, zeroD_run hz, Bool.not_false, if_true, false_and]
    have hf : Question.forced (.appendCap (len + m) cap elem) = false := rfl
    simp only [hf, Bool.false_eq_true, if_false, Sem.run_bind, Result.andThen_ok, hi', run_askRoom, ho, hn, zeroD_run hz, Bool.not_false, if_true, newRow, run_newObj_alloc, Sem.run_pure]
    simp only [grownCap]
    congr 2
    congr 1
    apply Array.ext'
    simp
theorem grow_rel {H0 : Hp} (h : Rel X R H0 w) {cs cs' : List Value} (hv : VRs R cs cs') {L n old : Nat} {elem : TypeId} {mt : Option TypeId} (hmt : mt = none ∨ mt = some elem) {z : Value} (hn : 0 < n) (hzs : z.cells.size = n) (hlen : cs.length = L * n) :
    ∃ R', R.le R' ∧ Rel X R' (H0.alloc (.cells (.more n mt) cs)) (w.drew.alloc (.cells ⟨cs' ++ (Builtin.zeroCells z.cells (grownCap w L old elem - L)).toList⟩ elem)) ∧
      VR R' (.slice (some ⟨H0.next, 0, none⟩) L LOOSE) (.slice (some ⟨w.heap.size, 0, none⟩) L (grownCap w L old elem)) := by
  have hge := grownCap_ge w L old elem
  obtain ⟨hR, hle⟩ := h.drew.allocCells (m := .more n mt) (by intro k; cases k) n (Builtin.zeroCells z.cells (grownCap w L old elem - L)).toList elem (fun k => by cases k) (.moreO (i := ⟨_, 0, n, _, true⟩) rfl hmt) hv
  refine ⟨_, hle, hR, .slice _ _ _ ⟨rfl, rfl, _, Ren.add_same _ _ _, rfl, rfl⟩ (.inr ⟨rfl, hge, _, Ren.add_same _ _ _, fun _ => ⟨?_, hn⟩⟩)⟩
  simp only [hlen, Array.length_toList, size_zeroCells, hzs]
  rw [Nat.zero_add, ← Nat.add_mul]
  congr 1
  omega
theorem Rel.push {mt : Option TypeId} (h : Rel X R H w) {b s : Nat} {i : RI} {cs : List Value} (hb : H.get b = some (.cells (.more s mt) cs)) (r : R b = some i) (hk : i.off + cs.length < i.tot) {v v' : Value} (hv : VR R v v') :
    (w.cell? ⟨i.blk, i.off + cs.length, none⟩).isSome = true ∧ w.frozen? ⟨i.blk, i.off + cs.length, none⟩ = false ∧ Rel X R (H.put b (.cells (.more s mt) (cs ++ [v]))) (w.setCell ⟨i.blk, i.off + cs.length, none⟩ v') := by
  obtain ⟨i', r', br⟩ := h.blk _ _ hb
  rw [r] at r'; cases r'
  cases br with
  | own m cs c' e fr hm' ho hb' hw ht hle hfix hsz hfr hh =>
    have hin : i.off + cs.length < c'.size := by omega
    refine ⟨by simp [World.cell?, hw, hin], ?_, ?_⟩
    · have := hfr (i.off + cs.length) (by omega)
      cases fr with
      | mk lo hi =>
        simp only [World.frozen?, hw]
        simpa using this
    · have hw' : (w.setCell ⟨i.blk, i.off + cs.length, none⟩ v').heap[i.blk]? = some (.cells (c'.setIfInBounds (i.off + cs.length) v') e fr) := by
        simp [World.setCell, Array.getElem?_modify, hw]
      refine ⟨?_, ?_, h.free, ?_, h.below.setCell (p := ⟨i.blk, i.off + cs.length, none⟩) hb' v', by simpa using h.size, h.glob, h.gle, fun k o hk => ⟨(h.kept k o hk).1, (Below.heap_setCell _ _ _ _ (fun e => (h.kept k o hk).2.2 _ _ r ho e.symm)).trans (h.kept k o hk).2.1, (h.kept k o hk).2.2⟩⟩
      · intro c x eb
        rw [Hp.get_put] at eb
        by_cases kb : c = b
        · subst kb; rw [if_pos rfl] at eb; cases eb
          refine ⟨i, r, .own _ _ _ e fr (by intro k; cases k) ho hb' hw' (by simpa using ht) (by simp; omega) (fun q => by cases q) hsz hfr ?_⟩
          intro j u hu
          by_cases kj : j < cs.length
          · rw [List.getElem?_append_left kj] at hu
            obtain ⟨u', x, y⟩ := hh j u hu
            refine ⟨u', ?_, y⟩
            rw [Array.getElem?_setIfInBounds, if_neg (by omega)]
            exact x
          · rw [List.getElem?_append_right (by omega)] at hu
            have : j = cs.length := by
              rcases Nat.lt_or_ge (j - cs.length) 1 with q | q
              · omega
              · rw [List.getElem?_eq_none (by simpa using q)] at hu; cases hu
            subst this
            simp at hu
            subst hu
            exact ⟨v', by rw [Array.getElem?_setIfInBounds]; simp [hin], hv⟩
        · rw [if_neg kb] at eb
          obtain ⟨j, rj, brj⟩ := h.blk c x eb
          refine ⟨j, rj, brj.keep (Ren.le_refl R) (Below.heap_setCell _ _ _ _ ?_)⟩
          intro e'
          rcases RI_own_of_BR brj with ⟨oj, _⟩ | ⟨_, lj, _⟩
          · exact kb (h.inj c b j i x _ eb hb rj r oj ho e')
          · simp only at e'; omega
      · intro c d i' j' x y eb ec rb rc ob oc e'
        have g : ∀ d z, (H.put b (.cells (.more s mt) (cs ++ [v]))).get d = some z → ∃ z', H.get d = some z' := by
          intro d z ed
          rw [Hp.get_put] at ed
          by_cases kd : d = b
          · exact ⟨_, kd ▸ hb⟩
          · rw [if_neg kd] at ed; exact ⟨z, ed⟩
        obtain ⟨x', ex⟩ := g c x eb
        obtain ⟨y', ey⟩ := g d y ec
        exact h.inj c d i' j' x' y' ex ey rb rc ob oc e'
      · intro c i' e' o'
        simpa using h.lt c i' e' o'
theorem Rel.pushes {mt : Option TypeId} {b s : Nat} {i : RI} : ∀ {vs vs' : List Value} {w : World} {H : Hp} {cs : List Value}, Rel X R H w → H.get b = some (.cells (.more s mt) cs) → R b = some i → i.off + cs.length + vs.length ≤ i.tot →
    (vs.all fun v => v.oneCell') = true → VRs R vs vs' →
    ∃ w', (Go.storeCells ⟨i.blk, i.off + cs.length, none⟩ vs').run P w = .ok () w' ∧ Rel X R (H.put b (.cells (.more s mt) (cs ++ vs))) w' := by
  have key : ∀ {vs vs' : List Value} (k : Nat) {w : World} {H : Hp} {cs : List Value} (cs0 : List Value), cs.length = cs0.length + k → Rel X R H w → H.get b = some (.cells (.more s mt) cs) → R b = some i → i.off + cs.length + vs.length ≤ i.tot →
      (vs.all fun v => v.oneCell') = true → VRs R vs vs' →
      ∃ w', (Go.storeCells ⟨i.blk, i.off + cs0.length, none⟩ vs' k).run P w = .ok () w' ∧ Rel X R (H.put b (.cells (.more s mt) (cs ++ vs))) w' := by
    intro vs
    induction vs with
    | nil =>
      intro vs' k w H cs cs0 hk h hb r hl h1 hv
      cases hv
      refine ⟨w, rfl, Rel.congr (H' := H.put b (.cells (.more s mt) (cs ++ []))) h (fun c => ?_) rfl⟩
      rw [Hp.get_put]
      by_cases e : c = b
      · subst e; simp [hb]
      · rw [if_neg e]
    | cons v vs ih =>
      intro vs0 k w H cs cs0 hk h hb r hl h1 hv0
      cases hv0 with
      | cons hv hvs =>
        rename_i v' vs'
        simp only [List.all_cons, Bool.and_eq_true] at h1
        simp only [List.length_cons] at hl
        have hv1 : v'.oneCell' = true := by cases hv <;> simp_all [Value.oneCell']
        obtain ⟨hc, hz, hR⟩ := h.push hb r (by omega) hv
        obtain ⟨u, hu⟩ := Option.isSome_iff_exists.1 hc
        have hadr : (⟨i.blk, i.off + cs0.length, none⟩ : Addr).add k = ⟨i.blk, i.off + cs.length, none⟩ := by
          unfold Addr.add
          split
          · congr 1; omega
          · congr 1; simp only; omega
        have hst : (Go.store ((⟨i.blk, i.off + cs0.length, none⟩ : Addr).add k) v').run P w = .ok () (w.setCell ⟨i.blk, i.off + cs.length, none⟩ v') := by
          rw [hadr, run_store P w _ v' _ hv1]
          simp [hu, hz]
        obtain ⟨w', hr, hR'⟩ := ih (vs' := vs') (cs := cs ++ [v]) (k + 1) cs0 (by simp; omega) hR (by rw [Hp.get_put, if_pos rfl]) r (by simp; omega) h1.2 hvs
        refine ⟨w', ?_, hR'.congr (fun c => ?_) rfl⟩
        · simp only [Go.storeCells, Sem.run_bind, hst, Result.andThen_ok]
          exact hr
        · simp only [Hp.get_put]
          by_cases e : c = b
          · subst e; simp
          · simp [e]
  intro vs vs' w H cs h hb r hl h1 hv
  exact key 0 cs rfl h hb r hl h1 hv
theorem Rel.trunc {mt mt' : Option TypeId} (hmt : mt' = mt ∨ mt' = none) (h : Rel X R H w) {b s : Nat} {cs : List Value} (hb : H.get b = some (.cells (.more s mt) cs)) (k : Nat) : Rel X R (H.put b (.cells (.more s mt') (cs.take k))) w := by
  have g : ∀ d z, (H.put b (.cells (.more s mt') (cs.take k))).get d = some z → ∃ z', H.get d = some z' := by
    intro d z ed
    rw [Hp.get_put] at ed
    by_cases kd : d = b
    · exact ⟨_, kd ▸ hb⟩
    · rw [if_neg kd] at ed; exact ⟨z, ed⟩
  refine ⟨fun d x ed => ?_, fun c d i j x y ec ed => ?_, h.free, h.lt, h.below, h.size, h.glob, h.gle, h.kept⟩
  · rw [Hp.get_put] at ed
    by_cases kd : d = b
    · subst kd; rw [if_pos rfl] at ed; cases ed
      obtain ⟨i, r, br⟩ := h.blk d _ hb
      refine ⟨i, r, ?_⟩
      cases br with
      | own m cs c' e fr hm' ho' hb' hw ht hle' hfix hsz hfr hh =>
        refine .own _ _ c' e fr (by intro k; cases k) ho' hb' hw ht (by rw [List.length_take]; omega) (fun q => by cases q) ⟨fun s' t' q => by cases q; exact hsz.1 _ _ rfl, fun T q => by rcases hmt with rfl | rfl; exact hsz.2 T q; cases q⟩ hfr fun j v hj => hh j v ?_
        rw [List.getElem?_take] at hj
        split at hj
        · exact hj
        · cases hj
    · rw [if_neg kd] at ed; exact h.blk d x ed
  · obtain ⟨x', ex⟩ := g c x ec
    obtain ⟨y', ey⟩ := g d y ed
    exact h.inj c d i j x' y' ex ey
theorem Rel.regrow {mt : Option TypeId} (h : Rel X R H w) {b o s : Nat} (hm4 : o = 0 ∨ mt = none) {i : RI} {cs : List Value} (hb : H.get b = some (.cells (.more s mt) cs)) (r : R b = some i) (ho : o ≤ cs.length) :
    Rel X (R.add H.next ⟨i.blk, i.off + o, i.sz, i.tot, true⟩) ((H.kill b).alloc (.cells (.more s mt) (cs.drop o))) w ∧ R.le (R.add H.next ⟨i.blk, i.off + o, i.sz, i.tot, true⟩) := by
  have hn : R H.next = none := h.free _ (Nat.le_refl _)
  have hle := Ren.le_add (R := R) ⟨i.blk, i.off + o, i.sz, i.tot, true⟩ hn
  refine ⟨?_, hle⟩
  obtain ⟨i', r', br⟩ := h.blk _ _ hb
  rw [r] at r'; cases r'
  have hblt := h.live hb
  cases br with
  | own m cs c' e fr hm' ho' hb' hw ht hle' hfix hsz hfr hh =>
    have g : ∀ d z, d ≠ H.next → ((H.kill b).alloc (.cells (.more s mt) (cs.drop o))).get d = some z → d ≠ b ∧ H.get d = some z := by
      intro d z hd ed
      rw [Hp.get_alloc, Hp.next_kill, if_neg hd, Hp.get_kill] at ed
      by_cases k : d = b
      · rw [if_pos k] at ed; cases ed
      · rw [if_neg k] at ed; exact ⟨k, ed⟩
    refine ⟨?_, ?_, ?_, ?_, h.below, h.size, ?_, by rw [Hp.next_alloc, Hp.next_kill]; have := h.gle; omega, ?_⟩
    · intro d x ed
      by_cases kd : d = H.next
      · subst kd
        rw [Hp.get_alloc, Hp.next_kill, if_pos rfl] at ed
        cases ed
        refine ⟨_, Ren.add_same _ _ _, .own _ _ c' e fr (by intro k; cases k) rfl hb' hw ht (by simp only [List.length_drop]; omega) (fun q => by cases q) ⟨fun s' t' q => by cases q; exact hsz.1 _ _ rfl, fun T q => by rcases hm4 with rfl | rfl; exact hsz.2 T q; cases q⟩ hfr ?_⟩
        intro j u hu
        rw [List.getElem?_drop] at hu
        obtain ⟨u', x, y⟩ := hh _ u hu
        exact ⟨u', by rw [← x]; congr 1; simp only; omega, y.mono hle⟩
      · obtain ⟨_, ed'⟩ := g d x kd ed
        obtain ⟨j, rj, brj⟩ := h.blk d x ed'
        exact ⟨j, hle _ _ rj, brj.keep hle rfl⟩
    · intro c d ic id x y ec ed rc rd oc od e'
      by_cases kc : c = H.next
      · by_cases kd : d = H.next
        · omega
        · subst kc
          rw [Ren.add_same] at rc; cases rc
          have rd' : R d = some id := by simpa [Ren.add, kd] using rd
          obtain ⟨hdb, ed'⟩ := g d y kd ed
          exact absurd (h.inj b d i id _ y hb ed' r rd' ho' od e') (fun q => hdb q.symm)
      · obtain ⟨hcb, ec'⟩ := g c x kc ec
        have rc' : R c = some ic := by simpa [Ren.add, kc] using rc
        by_cases kd : d = H.next
        · subst kd
          rw [Ren.add_same] at rd; cases rd
          exact absurd (h.inj c b ic i x _ ec' hb rc' r oc ho' e') hcb
        · obtain ⟨hdb, ed'⟩ := g d y kd ed
          have rd' : R d = some id := by simpa [Ren.add, kd] using rd
          exact h.inj c d ic id x y ec' ed' rc' rd' oc od e'
    · intro d hd
      rw [Hp.next_alloc, Hp.next_kill] at hd
      have : d ≠ H.next := by omega
      simp only [Ren.add, if_neg this]
      exact h.free d (by omega)
    · intro d j ed od
      by_cases kd : d = H.next
      · subst kd; rw [Ren.add_same] at ed; cases ed
        exact h.lt b i r ho'
      · exact h.lt d j (by simpa [Ren.add, kd] using ed) od
    · intro q hq
      obtain ⟨j, eq, z⟩ := h.glob q hq
      exact ⟨j, hle _ _ eq, z⟩
    · intro k o hk
      obtain ⟨h1, h2, h3⟩ := h.kept k o hk
      refine ⟨h1, h2, fun d j ed od => ?_⟩
      by_cases kd : d = H.next
      · subst kd; rw [Ren.add_same] at ed; cases ed
        exact h3 b i r ho'
      · exact h3 d j (by simpa [Ren.add, kd] using ed) od
theorem srcD_length {n m : Nat} {x : Value} {new : List Value} (hm : lenD x = some m) (e : srcD H n x m = some new) : new.length = m * n := by
  unfold srcD at e
  split at e
  · cases e; unfold lenD at hm; simp at hm; subst hm; simp
  · split at e
    · rename_i hm0; cases e; subst hm0; simp
    · split at e
      case h_2 => cases e
      case h_1 =>
        split at e
        case isFalse => cases e
        case isTrue hle => cases e; simp; omega
  · split at e
    case isFalse => cases e
    case isTrue hn => cases e; simp [lenD] at hm; subst hm; subst hn; simp
  · cases e
theorem appendZD_ok (h : Rel X R H w) {argTypes : Array TypeId} {sT xT ty elem : TypeId} {kd : IntKind} (h0 : argTypes[0]? = some sT) (h1 : argTypes[1]? = some xT) (hu : P.underlying sT = some (.slice elem)) (hux : P.underlying xT = some (.int kd)) {s s' x x' v : Value} {H' : Hp} (hs' : VR R s s') (hx : VR R x x') (e : appendZD P H elem s x = some (v, H')) :
    ∃ R' v' w', (Builtin.append_ argTypes ty #[s', x']).run P w = .ok v' w' ∧ R.le R' ∧ Rel X R' H' w' ∧ VR R' v v' := by
  unfold appendZD at e
  split at e
  case h_2 => cases e
  case h_1 k m =>
    split at e
    case h_2 => cases e
    case h_1 n by_ z hs hby hz =>
      split at e
      case isFalse => cases e
      case isTrue hc =>
        obtain ⟨hzf, hn, hzs, hm0, hm1, hmb⟩ := hc
        cases e
        cases hs'
        cases hx
        obtain ⟨i, hi, hib⟩ := bytesD_run hby w
        obtain ⟨i', hi', hib'⟩ := bytesD_run hby w.drew
        have hwrap : IntKind.i64.wrap m = m := i64_wrap_id (by omega) (by omega)
        obtain ⟨q, rfl⟩ : ∃ q : Nat, m = (q : Int) := ⟨m.toNat, by omega⟩
        simp only [Int.toNat_natCast] at hmb ⊢
        have hq : 0 < q := by omega
        have hlen : (repsD z.cells.toList q).length = q * n := by rw [repsD_length]; simp [hzs]
        have hfl : flats (repsD z.cells.toList q) = true := by
          have := flat_cells hzf
          have key : ∀ n, flats (repsD z.cells.toList n) = true := by
            intro n
            induction n with
            | zero => rfl
            | succ n ih =>
              simp only [repsD]
              have app : ∀ (a b : List Value), flats a = true → flats b = true → flats (a ++ b) = true := by
                intro a
                induction a with
                | nil => intro b _ h; exact h
                | cons x a iha => intro b h1 h2; simp only [flats, Bool.and_eq_true] at h1; simp only [List.cons_append, flats, h1.1, iha b h1.2 h2, Bool.and_self]
              exact app _ _ this ih
          exact key q
        obtain ⟨R', hle, hR, hV⟩ := grow_rel (L := q) (old := 0) (elem := elem) h (flats_refl hfl) (.inl rfl) hn hzs hlen
        refine ⟨R', _, _, ?_, hle, hR, hV⟩
        have hz2 : Builtin.zeroCells z.cells q = ⟨repsD z.cells.toList q⟩ := by
          have := reps_eq z.cells (by omega) q
          simp only [Builtin.zeroCells]
          exact this
        have h63 : ¬ (((0 + q : Nat) : Int) > IntKind.i64.max) := by
          have : IntKind.i64.max = 9223372036854775807 := rfl
          omega
        have hnext : ¬ (Builtin.nextslicecap (0 + q) 0 * i.bytes > 2 ^ 48) := by
          rw [hib]
          have := growslice_fits (show 0 < 0 + q by omega) (by rw [Nat.zero_add]; exact hmb)
          omega
        have hbytes : ¬ ((q : Int) * (i.bytes : Int) > 2 ^ 48) := by
          rw [hib]
          have := Int.ofNat_le.2 hmb
          rw [Int.natCast_mul] at this
          omega
        have hqn : ¬ (q * n = 0) := by
          have := Nat.mul_pos hq hn
          omega
        have has : (asInt (.int k (q : Int))).run P w = .ok (q : Int) w := rfl
        simp only [Builtin.append_, h0, h1]
        simp only [Array.getElem?_eq_getElem, List.size_toArray, List.length_cons, List.length_nil, Nat.zero_lt_succ, Nat.one_lt_succ_succ, List.getElem_toArray, List.getElem_cons_zero, List.getElem_cons_succ]
        simp only [Sem.run_bind, run_underlying hu, Result.andThen_ok, sizeD_run hs, run_underlying hux, Sem.run_pure, if_true, has, hwrap]
        have hneg : ¬ ((q : Int) < 0) := by omega
        simp only [hneg, if_false, Sem.run_bind, hi, Result.andThen_ok, hbytes, Sem.run_pure, Int.toNat_natCast, Bool.not_true, Bool.false_eq_true, hqn]
        have hcap : ¬ (0 + q ≤ 0) := by omega
        simp only [hcap, if_false, h63, false_and, hnext, Sem.run_bind, hi, Result.andThen_ok, run_choose_drew, hi', run_askRoom, zeroD_run hz, Bool.not_true, if_true]
        have hf : Question.forced (.appendCap (0 + q) 0 elem) = false := rfl
        simp only [hf, Bool.false_eq_true, if_false, Sem.run_bind, Result.andThen_ok, hi', run_askRoom, Builtin.firstCells, zeroD_run hz, newRow, run_newObj_alloc, Sem.run_pure, hz2]
        simp only [grownCap, Nat.zero_add]
        congr 2
        congr 1
        apply Array.ext'
        simp
theorem appendD_ok (h : Rel X R H w) {argTypes : Array TypeId} {ty : TypeId} {s s' x x' v : Value} {H' : Hp} (hs' : VR R s s') (hx : VR R x x') (e : appendD P H argTypes s x = some (v, H')) :
    ∃ R' v' w', (Builtin.append_ argTypes ty #[s', x']).run P w = .ok v' w' ∧ R.le R' ∧ Rel X R' H' w' ∧ VR R' v v' := by
  unfold appendD at e
  split at e
  case h_2 => cases e
  case h_1 sT xT h0 h1 =>
    split at e
    case h_1 elem kd hu hux => exact appendZD_ok h h0 h1 hu hux hs' hx e
    case h_3 => cases e
    case h_2 elem dx hni0 hu hux =>
      have hni : ∀ k, dx ≠ .int k := fun k hk => hni0 k (by rw [hk])
      split at e
      case h_2 => cases e
      case h_1 n by_ z m hs hby hz hm =>
        split at e
        case isFalse => cases e
        case isTrue hn =>
          obtain ⟨hn, hzs⟩ := hn
          split at e
          case h_2 => cases e
          case h_1 new hnew =>
            have hl := lenD_ok (P := P) (w := w) hx hm
            have hnl := srcD_length hm hnew
            obtain ⟨new1, hr1, hv1⟩ := srcD_ok (P := P) h hx hnew
            obtain ⟨new2, hr2, hv2⟩ := srcD_ok (P := P) h.drew hx hnew
            have run := fun base len cap => append_run (P := P) (w := w) (ty := ty) h0 h1 hu hux hni hs hby hz (base := base) (len := len) (cap := cap) hl
            split at e
            -- nil
            case h_1 =>
              cases hs'
              split at e
              case isTrue hm0 =>
                cases e; subst hm0
                have := (run none 0 0).1 (Nat.le_refl _) hr1 (w' := w) rfl
                exact ⟨R, _, w, this, Ren.le_refl R, h, .nilSlice⟩
              case isFalse hm0 =>
                split at e
                case isFalse => cases e
                case isTrue hb =>
                  cases e
                  have := (run none 0 0).2 (by omega) (by omega) (by have := hb.1; simpa using this) (old' := []) rfl hr2
                  obtain ⟨R', hle, hR, hV⟩ := grow_rel (old := 0) (elem := elem) (mt := tyU P elem) h hv2 (tyU_or P elem) hn hzs hnl
                  refine ⟨R', _, _, this, hle, ?_, ?_⟩
                  · simpa using hR
                  · simpa using hV
            -- a row
            case h_2 b o len cap =>
              split at e
              case isTrue hm0 =>
                split at e
                case isFalse => cases e
                case isTrue hlc =>
                  cases e; subst hm0
                  have hgo : ∀ a' cap', len ≤ cap' → VR R (.slice (some ⟨b, o, none⟩) len cap) (.slice (some a') len cap') → ∃ R' v' w', (Builtin.append_ argTypes ty #[.slice (some a') len cap', x']).run P w = .ok v' w' ∧ R.le R' ∧ Rel X R' H w' ∧ VR R' (.slice (some ⟨b, o, none⟩) len cap) v' := by
                    intro a' cap' hlc' hv
                    have hn0 : new1 = [] := by
                      have := hv1.length
                      rw [hnl] at this
                      exact List.eq_nil_of_length_eq_zero (by simpa using this)
                    subst hn0
                    have := (run (some a') len cap').1 (by omega) hr1 (w' := w) rfl
                    exact ⟨R, _, w, this, Ren.le_refl R, h, hv⟩
                  cases hs' with
                  | empty a a' cap' => exact hgo a' cap' (Nat.zero_le _) (.empty _ _ _)
                  | slice len cap cap' ha hc =>
                    refine hgo _ _ ?_ (.slice _ _ _ ha hc)
                    rcases hc with ⟨_, c⟩ | ⟨_, c, _⟩ <;> omega
              case isFalse hm0 =>
                split at e
                case h_2 => cases e
                case h_1 mode cs hb =>
                  split at e
                  -- within the capacity
                  case isTrue hroom =>
                    split at e
                    case isFalse => cases e
                    case isTrue hc2 =>
                      obtain ⟨hmode, hfit, h1c⟩ := hc2
                      cases e
                      cases hs' with
                      | empty a a' cap' => exact absurd hroom.1 (by decide)
                      | slice len cap cap' ha hc =>
                        rename_i a'
                        have hcc : cap' = cap := by
                          rcases hc with ⟨_, c⟩ | ⟨c, _⟩
                          · exact c.1
                          · have := hroom.1; omega
                        subst hcc
                        have ha2 := AR_add ha (len * n)
                        obtain ⟨w', hst, hR⟩ := Rel.storeCells (P := P) hmode ha2 0 h hb (by simp only [Nat.add_zero]; rw [hnl, Nat.add_assoc, ← Nat.add_mul]; exact hfit) h1c hv1
                        have := (run (some a') len cap').1 hroom.2 hr1 (w' := w') hst
                        exact ⟨R, _, w', this, Ren.le_refl R, by simpa using hR, .slice _ _ _ ha (.inl ⟨hroom.1, rfl, hroom.2⟩)⟩
                  case isFalse hroom =>
                    split at e
                    case isFalse => cases e
                    case isTrue hbig =>
                      split at e
                      -- of a known capacity: it grows
                      case isTrue hcap =>
                        split at e
                        case isFalse => cases e
                        case isTrue hfit =>
                          cases e
                          cases hs' with
                          | empty a a' cap' => exact absurd hcap (by decide)
                          | slice len cap cap' ha hc =>
                            rename_i a'
                            have hcc : cap' = cap := by
                              rcases hc with ⟨_, c⟩ | ⟨c, _⟩
                              · exact c.1
                              · omega
                            subst hcc
                            obtain ⟨old', hro, hvo⟩ := h.drew.loadCells (P := P) ha hb (n := len * n) hfit
                            have := (run (some a') len cap').2 (by have := hroom; simp only [not_and] at this; have := this hcap; omega) hbig.2 hbig.1 (old' := old') (by simpa [Builtin.firstCells] using hro) hr2
                            obtain ⟨R', hle, hR, hV⟩ := grow_rel (L := len + m) (old := cap') (elem := elem) (mt := tyU P elem) h (hvo.append hv2) (tyU_or P elem) hn hzs (by simp only [List.length_append, List.length_take, List.length_drop, hnl]; rw [Nat.add_mul]; omega)
                            exact ⟨R', _, _, this, hle, hR, hV⟩
                      -- of an unknown one
                      case isFalse hcap =>
                        split at e
                        case isFalse => cases e
                        case isTrue hc2 =>
                          obtain ⟨hcapL, hmode, hfr0, h1c⟩ := hc2
                          cases e
                          obtain ⟨mt0, rfl⟩ := Mode.isMore_eq hmode
                          subst hcapL
                          simp only [Mode.ty]
                          obtain ⟨hm1, hm2⟩ := tyJ_or (o := o) (a := mt0) (tyU_or P elem)
                          generalize tyJ o mt0 (tyU P elem) = mt at hm1 hm2 ⊢
                          have hm3 : mt = mt0 ∨ mt = none := hm1.imp (fun q => q.2) id
                          have hm4 : o = 0 ∨ mt = none := hm1.imp (fun q => q.1) id
                          obtain ⟨cs2, hcs2⟩ : ∃ cs2, cs2 = cs.take (o + len * n) := ⟨_, rfl⟩
                          have h00 := h
                          have hb00 := hb
                          replace h := h.trunc hm3 hb (o + len * n)
                          rw [← hcs2] at h
                          obtain ⟨H2, hH2⟩ : ∃ H2, H2 = H.put b (.cells (.more n mt) cs2) := ⟨_, rfl⟩
                          rw [← hH2] at h
                          replace hb : H2.get b = some (.cells (.more n mt) cs2) := by rw [hH2, Hp.get_put, if_pos rfl]
                          have hfr : o + len * n = cs2.length := by rw [hcs2, List.length_take]; omega
                          have hdrop : (cs.drop o).take (len * n) = cs2.drop o := by rw [hcs2, List.drop_take]; congr 1; omega
                          rw [hdrop]
                          have hgoal : ∀ {R' : Ren} {w' : World}, Rel X R' ((H2.kill b).alloc (.cells (.more n mt) (cs2.drop o ++ new))) w' → Rel X R' ((H.kill b).alloc (.cells (.more n mt) (cs2.drop o ++ new))) w' := by
                            intro R' w' hr
                            refine hr.congr (fun c => ?_) (by rw [hH2]; rfl)
                            rw [hH2]
                            simp only [Hp.get_alloc, Hp.get_kill, Hp.get_put, Hp.next_kill, Hp.next_put]
                            by_cases k1 : c = H.next
                            · rw [if_pos k1, if_pos k1]
                            · rw [if_neg k1, if_neg k1]
                              by_cases k2 : c = b
                              · rw [if_pos k2, if_pos k2]
                              · rw [if_neg k2, if_neg k2, if_neg k2]
                          have hnx : H.next = H2.next := by rw [hH2]; rfl
                          rw [hnx]
                          suffices hh : ∃ R' v' w', (Builtin.append_ argTypes ty #[s', x']).run P w = .ok v' w' ∧ R.le R' ∧ Rel X R' ((H2.kill b).alloc (.cells (.more n mt) (cs2.drop o ++ new))) w' ∧ VR R' (.slice (some ⟨H2.next, 0, none⟩) (len + m) LOOSE) v' by
                            obtain ⟨R', v', w', a1, a2, a3, a4⟩ := hh
                            exact ⟨R', v', w', a1, a2, hgoal a3, a4⟩
                          clear hgoal hdrop
                          generalize hH : H2 = H at *
                          generalize hcs : cs2 = cs at *
                          cases hs' with
                          | slice len cap cap' ha hc =>
                            rename_i a'
                            rcases hc with ⟨c, _⟩ | ⟨_, c2, i, c3, c4⟩
                            · omega
                            · simp only at c3
                              obtain ⟨j, hj, br⟩ := h.blk _ _ hb
                              rw [c3] at hj; cases hj
                              cases br with
                              | own m' cs' c' el fr hm' ho hbB hw ht hle hfix hsz hfr' hh =>
                                have hsz' := hsz.1 n _ rfl
                                obtain ⟨c5, c6⟩ := c4 ho
                                rw [hsz'] at c5
                                by_cases hroom' : len + m ≤ cap'
                                · -- in place
                                  have hoff : a'.off = o + i.off ∧ a'.block = i.blk ∧ a'.spot = none := by
                                    obtain ⟨_, s2, i2, e2, e3, e4⟩ := ha
                                    simp only at e2 e4
                                    rw [c3] at e2; cases e2
                                    exact ⟨e4, e3, s2⟩
                                  have hmn : (len + m) * n ≤ cap' * n := Nat.mul_le_mul_right _ hroom'
                                  rw [Nat.add_mul] at hmn
                                  obtain ⟨w', hst, hR⟩ := Rel.pushes (P := P) (b := b) (i := i) h hb c3 (by rw [hnl]; omega) h1c hv1
                                  have hadr : a'.add (len * n) = ⟨i.blk, i.off + cs.length, none⟩ := by
                                    cases a' with
                                    | mk bb oo ss =>
                                      obtain ⟨q1, q2, q3⟩ := hoff
                                      simp only at q1 q2 q3
                                      subst q1 q2 q3
                                      unfold Addr.add
                                      split
                                      · congr 1; omega
                                      · congr 1; simp only; omega
                                  have := (run (some a') len cap').1 hroom' hr1 (w' := w') (by rw [← hadr] at hst; exact hst)
                                  have hR2 := Rel.regrow hR (b := b) (o := o) hm4 (by rw [Hp.get_put, if_pos rfl]) c3 (by simp; omega)
                                  refine ⟨_, _, _, this, hR2.2, hR2.1.congr (fun c => ?_) rfl, .slice _ _ _ ⟨rfl, hoff.2.2, _, Ren.add_same _ _ _, hoff.2.1, by simp only; omega⟩ (.inr ⟨rfl, by omega, _, Ren.add_same _ _ _, fun _ => ⟨by simp only; rw [hsz']; exact c5, c6⟩⟩)⟩
                                  simp only [Hp.get_alloc, Hp.get_kill, Hp.get_put, Hp.next_kill, Hp.next_put]
                                  by_cases k1 : c = H.next
                                  · rw [if_pos k1, if_pos k1, List.drop_append_of_le_length (by omega)]
                                  · rw [if_neg k1, if_neg k1]
                                    by_cases k2 : c = b
                                    · rw [if_pos k2, if_pos k2]
                                    · rw [if_neg k2, if_neg k2, if_neg k2]
                                · obtain ⟨old', hro, hvo⟩ := h.drew.loadCells (P := P) ha hb (n := len * n) (by show o + len * n ≤ cs.length; omega)
                                  have := (run (some a') len cap').2 (by omega) hbig.2 hbig.1 (old' := old') (by simpa [Builtin.firstCells] using hro) hr2
                                  have htk : (cs.drop o).take (len * n) = cs.drop o := List.take_of_length_le (by simp; omega)
                                  simp only [htk] at hvo
                                  obtain ⟨R', hle', hR, hV⟩ := grow_rel (L := len + m) (old := cap') (elem := elem) (mt := mt) (h.kill b) (hvo.append hv2) hm2 hn hzs (by simp only [List.length_append, List.length_drop, hnl]; rw [Nat.add_mul]; omega)
                                  exact ⟨R', _, _, this, hle', hR, hV⟩
            case h_3 => cases e
end Go.Det

set_option linter.unusedSimpArgs false
set_option linter.unusedVariables false
namespace Go.Det
open Go Go.RowKit
variable {X : Cx} {P : Program} {R : Ren} {H : Hp} {w : World}
theorem copyD_ok (h : Rel X R H w) {argTypes : Array TypeId} {ty : TypeId} {d d' x x' v : Value} {H' : Hp} (hd : VR R d d') (hx : VR R x x') (e : copyD P H argTypes d x = some (v, H')) :
    ∃ w', (Builtin.copy_ argTypes ty #[d', x']).run P w = .ok v w' ∧ Rel X R H' w' ∧ VR R v v := by
  unfold copyD at e
  split at e
  case h_2 => cases e
  case h_1 dT h0 =>
    split at e
    case h_2 => cases e
    case h_1 elem b o dLen dCap xl hu hxl =>
      split at e
      case h_2 => cases e
      case h_1 n mode cs hs hb =>
        split at e
        case h_2 => cases e
        case h_1 new hnew =>
          split at e
          case isFalse => cases e
          case isTrue hc =>
            obtain ⟨hm, hfit, h1⟩ := hc
            cases e
            obtain ⟨new', hr, hv⟩ := srcD_ok (P := P) h hx hnew
            have hl := lenD_ok (P := P) (w := w) hx hxl
            have fin : ∀ {a' : Addr} {cap' : Nat} {w' : World}, (storeCells a' new').run P w = .ok () w' → (Builtin.copy_ argTypes ty #[.slice (some a') dLen cap', x']).run P w = .ok (.int .i64 (min xl dLen : Nat)) w' := by
              intro a' cap' w' hst
              simp only [Builtin.copy_, h0]
              simp only [Array.getElem?_eq_getElem, List.size_toArray, List.length_cons, List.length_nil, Nat.zero_lt_succ, Nat.one_lt_succ_succ, List.getElem_toArray, List.getElem_cons_zero, List.getElem_cons_succ]
              simp only [Sem.run_bind, run_underlying hu, Result.andThen_ok, hl, sizeD_run hs]
              have : Nat.min xl dLen = min xl dLen := rfl
              rw [this, hr]
              simp only [Result.andThen_ok, Sem.run_bind, hst, Sem.run_pure, goInt]
            cases hd with
            | empty a a' cap' =>
              have : new' = [] := by
                have h2 := hv.length
                have h3 : new = [] := by
                  simp only [Nat.min_zero] at hnew
                  unfold srcD at hnew
                  split at hnew
                  · cases hnew; rfl
                  · simp at hnew; exact hnew
                  · split at hnew
                    · simp at hnew; exact hnew
                    · cases hnew
                  · cases hnew
                rw [h3] at h2
                exact List.eq_nil_of_length_eq_zero (by simpa using h2)
              subst this
              have hn0 : new = [] := by cases hv; rfl
              subst hn0
              refine ⟨w, fin rfl, Rel.congr (H' := H.put b (.cells mode (wr cs o []))) h (fun c => ?_) rfl, .int _ _⟩
              rw [Hp.get_put]
              by_cases k : c = b
              · subst k; simp [wr, hb]
              · rw [if_neg k]
            | slice len cap cap' ha hcap =>
              obtain ⟨w', hst, hR⟩ := Rel.storeCells (P := P) hm ha 0 h hb (by simpa using hfit) h1 hv
              exact ⟨w', fin hst, by simpa using hR, .int _ _⟩
theorem EntsR.length {R : Ren} : ∀ {x x' : List MapEntry}, EntsR R x x' → x'.length = x.length
  | _, _, .nil => rfl
  | _, _, .cons _ h => by simp [EntsR.length h]
theorem lenOfD_ok (h : Rel X R H w) {argTypes : Array TypeId} {ty : TypeId} {x x' v : Value} (hx : VR R x x') (e : lenOfD P H argTypes x = some v) :
    (Builtin.len_ argTypes ty #[x']).run P w = .ok v w ∧ VR R v v := by
  unfold lenOfD at e
  split at e
  case h_2 => cases e
  case h_1 t h0 =>
    have pre : ∀ {z : Value}, ((Builtin.len_ #[t] ty #[x']).run P w = .ok z w) → (Builtin.len_ argTypes ty #[x']).run P w = .ok z w := by
      intro z hz
      have : Builtin.len_ argTypes ty #[x'] = Builtin.len_ #[t] ty #[x'] := by simp only [Builtin.len_, h0]; rfl
      rw [this]; exact hz
    split at e
    case h_1 s hu => cases e; cases hx; exact ⟨pre (by simp [Builtin.len_, run_underlying hu, goInt]), .int _ _⟩
    case h_2 n el hu => cases e; exact ⟨pre (by simp [Builtin.len_, run_underlying hu, goInt]), .int _ _⟩
    case h_3 el a n c hu =>
      cases e
      refine ⟨pre ?_, .int _ _⟩
      cases hx <;> simp [Builtin.len_, run_underlying hu, goInt]
    case h_4 k el hu => cases e; cases hx; exact ⟨pre (by simp [Builtin.len_, run_underlying hu, goInt]), .int _ _⟩
    case h_5 k el r hu =>
      split at e
      case h_2 => cases e
      case h_1 es clock hb =>
        cases e
        cases hx with
        | map b i hi =>
          obtain ⟨j, hj, br⟩ := h.blk _ _ hb
          rw [hi] at hj; cases hj
          cases br with
          | map es es' clock ho hB hw hes =>
            refine ⟨pre ?_, .int _ _⟩
            have hlen := hes.length
            have hg : (getObj i.blk).run P w = .ok (.map ⟨es'⟩ clock) w := by simp [getObj, Sem.run, hw]
            simp only [Builtin.len_, Array.getElem?_eq_getElem, List.size_toArray, List.length_cons, List.length_nil, Nat.zero_lt_succ, List.getElem_toArray, List.getElem_cons_zero, Sem.run_bind, run_underlying hu, Result.andThen_ok, hg, goInt, Sem.run_pure]
            simp [hlen]
    case h_6 => cases e
theorem capOfD_ok {argTypes : Array TypeId} {ty : TypeId} {x x' v : Value} (hx : VR R x x') (e : capOfD P argTypes x = some v) (w : World) :
    (Builtin.cap_ argTypes ty #[x']).run P w = .ok v w ∧ VR R v v := by
  unfold capOfD at e
  split at e
  case h_2 => cases e
  case h_1 t h0 =>
    split at e
    case h_2 => cases e
    case h_1 el a n c hu =>
      split at e
      case isTrue => cases e
      case isFalse hL =>
        cases e
        refine ⟨?_, .int _ _⟩
        have : Builtin.cap_ argTypes ty #[x'] = Builtin.cap_ #[t] ty #[x'] := by simp only [Builtin.cap_, h0]; rfl
        rw [this]
        cases hx with
        | nilSlice => simp [Builtin.cap_, run_underlying hu, goInt]
        | empty => exact absurd (by decide) hL
        | slice len cap cap' ha hc =>
          rcases hc with ⟨_, rfl, _⟩ | ⟨c, _⟩
          · simp [Builtin.cap_, run_underlying hu, goInt]
          · exact absurd (Nat.le_of_eq c.symm) hL
theorem nextD_ok (h : Rel X R H w) {it it' v : Value} {ty : TypeId} {H' : Hp} (hi : VR R it it') (e : nextD H it = some (v, H')) :
    ∃ w', (Instr.next it' true ty).run P w = .ok v w' ∧ Rel X R H' w' ∧ VR R v v := by
  unfold nextD at e
  split at e
  case h_2 => cases e
  case h_1 b =>
    cases hi with
    | ptr ha =>
      rename_i a'
      obtain ⟨_, s2, i, hri, e1, e2⟩ := ha
      simp only at hri e2
      split at e
      case h_2 => cases e
      case h_1 s pos hb =>
        obtain ⟨j, hj, br⟩ := h.blk _ _ hb
        rw [hri] at hj; cases hj
        cases br with
        | iter s pos ho hB hoff hw =>
          have ha' : a' = ⟨i.blk, 0, none⟩ := by
            cases a'; simp only at s2 e1 e2; subst s2 e1; congr 1; omega
          subst ha'
          have hg : (getObj i.blk).run P w = .ok (.stringIter s pos) w := by simp [getObj, Sem.run, hw]
          split at e
          case isTrue hp =>
            cases e
            refine ⟨{ w with heap := w.heap.setIfInBounds i.blk (.stringIter s (pos + (Utf8.decode s pos).2)) }, ?_, ?_, .tuple (.cons (.bool _) (.cons (.int _ _) (.cons (.int _ _) .nil)))⟩
            · simp only [Instr.next, Sem.run_bind, hg, Result.andThen_ok, if_pos hp]
              have hset : ∀ o, (setObj i.blk o).run P w = .ok () { w with heap := w.heap.setIfInBounds i.blk o } := by
                intro o; simp [setObj, Sem.run, hw]
              simp only [hset, Result.andThen_ok, Sem.run_pure, goInt]
            · have hlt : i.blk < w.heap.size := h.lt _ _ hri ho
              exact h.putObj hb hri ho hB _ (.iter s _ ho hB hoff (by simp [hlt]))
          case isFalse hp =>
            cases e
            refine ⟨w, ?_, h, .tuple (.cons (.bool _) .nil)⟩
            simp only [Instr.next, Sem.run_bind, hg, Result.andThen_ok, if_neg hp, Sem.run_pure]
theorem typeAssertD_ok {x x' v : Value} {xt t : TypeId} {ok : Bool} (hx : VR R x x') (e : typeAssertD P x t ok = some v) (w : World) :
    ∃ v', (Instr.typeAssert x' xt t ok).run P w = .ok v' w ∧ VR R v v' := by
  have zero : ∀ {z : Value}, zeroD P t = some z → flat z = true → VR R (.tuple #[z, .bool false]) (.tuple #[z, .bool false]) :=
    fun _ hf => .tuple (.cons (flat_refl hf) (.cons (.bool _) .nil))
  unfold typeAssertD at e
  split at e
  case h_1 want u y hu =>
    cases hx with
    | iface _ hy =>
      rename_i y'
      split at e
      case h_2 => cases e
      case h_1 i hi =>
        split at e
        case h_1 hmm =>
          cases e
          refine ⟨if ok then .tuple #[.iface u y', .bool true] else .iface u y', ?_, ?_⟩
          · simp [Instr.typeAssert, run_underlying hu, typeInfo_run hi, hmm]
          · cases ok
            · exact .iface u hy
            · exact .tuple (.cons (.iface u hy) (.cons (.bool _) .nil))
        case h_2 m hmm =>
          split at e
          case isFalse => cases e
          case isTrue hok =>
            split at e
            case h_2 => cases e
            case h_1 z hz =>
              split at e
              case isFalse => cases e
              case isTrue hf =>
                cases e
                refine ⟨_, ?_, zero hz hf⟩
                simp [Instr.typeAssert, run_underlying hu, typeInfo_run hi, hmm, hok, zeroD_run hz]
  case h_2 d hu =>
    cases hx
    split at e
    case isFalse => cases e
    case isTrue hok =>
      split at e
      case h_2 => cases e
      case h_1 z hz =>
        split at e
        case isFalse => cases e
        case isTrue hf =>
          cases e
          refine ⟨_, ?_, zero hz hf⟩
          cases d <;> simp [Instr.typeAssert, run_underlying hu, hok, zeroD_run hz]
  case h_3 d u y hni hu =>
    cases hx with
    | iface _ hy =>
      rename_i y'
      have hd : ∀ ms, d ≠ .interface ms := fun ms k => hni ms k
      split at e
      case isTrue ht =>
        cases e
        subst ht
        refine ⟨if ok then .tuple #[y', .bool true] else y', ?_, ?_⟩
        · cases d <;> first | (exact absurd rfl (hd _)) | simp [Instr.typeAssert, run_underlying hu]
        · cases ok
          · exact hy
          · exact .tuple (.cons hy (.cons (.bool _) .nil))
      case isFalse ht =>
        split at e
        case isFalse => cases e
        case isTrue hok =>
          split at e
          case h_2 => cases e
          case h_1 z hz =>
            split at e
            case isFalse => cases e
            case isTrue hf =>
              cases e
              refine ⟨_, ?_, zero hz hf⟩
              cases d <;> first | (exact absurd rfl (hd _)) | simp [Instr.typeAssert, run_underlying hu, ht, hok, zeroD_run hz]
  case h_4 => cases e
theorem freeze_new (w : World) (c : Array Value) (e : TypeId) : (w.alloc (.cells c e)).freeze ⟨w.heap.size, c.size, none⟩ 1 = w.alloc (.cells c e (c.size, c.size + 1)) := by
  simp only [World.freeze, World.alloc]
  simp only [Nat.one_ne_zero, if_false]
  congr 1
  apply Array.ext_getElem?
  intro k
  rw [Array.getElem?_modify]
  simp only [Array.getElem?_push]
  by_cases hk : k = w.heap.size
  · subst hk; simp
  · rw [if_neg (fun q => hk q.symm), if_neg hk, if_neg hk]
theorem heap_freeze (w : World) (a : Addr) (n k : Nat) (h : k ≠ a.block) : (w.freeze a n).heap[k]? = w.heap[k]? := by
  unfold World.freeze
  split
  · rfl
  · simp only [Array.getElem?_modify]
    rw [if_neg (fun q => h q.symm)]
theorem Rel.killFreeze (h : Rel X R H w) {b : Nat} {i : RI} {x : Blk} (hb : H.get b = some x) (r : R b = some i) (ho : i.own = true) (hB : X.B ≤ i.blk) (a : Addr) (ha : a.block = i.blk) (n : Nat) : Rel X R (H.kill b) (w.freeze a n) := by
  have hs : (w.freeze a n).heap.size = w.heap.size := by unfold World.freeze; split <;> simp
  have hk := h.kill b
  refine ⟨?_, hk.inj, hk.free, fun c j e o => by rw [hs]; exact hk.lt c j e o, Lib.below_freeze h.below (by rw [ha]; exact hB) n, by rw [hs]; exact h.size, hk.glob, hk.gle, fun k o hq => ⟨(h.kept k o hq).1, (heap_freeze w a n k (by rw [ha]; exact fun e => (h.kept k o hq).2.2 _ _ r ho e.symm)).trans (h.kept k o hq).2.1, (h.kept k o hq).2.2⟩⟩
  intro c y e
  have e0 := e
  rw [Hp.get_kill] at e
  by_cases kc : c = b
  · rw [if_pos kc] at e; cases e
  · rw [if_neg kc] at e
    obtain ⟨j, rj, brj⟩ := h.blk c y e
    refine ⟨j, rj, brj.keep (Ren.le_refl R) (heap_freeze w a n _ ?_)⟩
    rw [ha]
    intro e'
    rcases RI_own_of_BR brj with ⟨oj, _⟩ | ⟨_, lj, _⟩
    · exact kc (h.inj c b j i y _ e hb rj r oj ho e')
    · omega
theorem unsafeStrD_ok (h : Rel X R H w) {argTypes : Array TypeId} {ty : TypeId} {p p' n n' v : Value} {H' : Hp} (hp : VR R p p') (hn : VR R n n') (e : unsafeStrD P H argTypes p n = some (v, H')) :
    ∃ w', (Builtin.unsafeString_ argTypes ty #[p', n']).run P w = .ok v w' ∧ Rel X R H' w' ∧ VR R v v := by
  unfold unsafeStrD at e
  split at e
  case h_1 =>
    split at e
    case isFalse => cases e
    case isTrue hz =>
      cases e; cases hp; cases hn
      obtain ⟨⟨l⟩⟩ : ∃ l, argTypes = l := ⟨_, rfl⟩
      obtain ⟨pt, it, hl⟩ : ∃ pt it, argTypes = #[pt, it] := by
        rcases argTypes with ⟨_ | ⟨a, _ | ⟨b, _ | ⟨c, r⟩⟩⟩⟩
        · simp at hz
        · simp at hz
        · exact ⟨a, b, rfl⟩
        · simp at hz
      subst hl
      exact ⟨w, Lib.run_unsafeString_none w pt it ty none, h, .string _⟩
  case h_2 b n =>
    split at e
    case h_2 => cases e
    case h_1 pt it hat =>
      split at e
      case h_2 => cases e
      case h_1 el sz T cs hu hb =>
        split at e
        case isFalse => cases e
        case isTrue hc =>
          obtain ⟨rfl, hc1, h0, hle, h63, hall⟩ := hc
          cases e
          cases hn
          cases hp with
          | ptr ha =>
            rename_i c
            have hargs : argTypes = #[pt, it] := by
              rcases argTypes with ⟨l⟩
              simp only at hat
              subst hat; rfl
            subst hargs
            obtain ⟨i, r, br⟩ := h.blk _ _ hb
            have ha2 := ha
            obtain ⟨q1, q2, j, q3, q4, q5⟩ := ha
            simp only at q3 q5
            rw [r] at q3; cases q3
            cases br with
            | own m cs c' e fr hm' ho hbB hw ht hle' hfix hsz hfr' hh =>
              obtain ⟨rfl, hoff⟩ := hsz.2 _ rfl
              have hcc : c = ⟨i.blk, 0, none⟩ := by
                cases c; simp only at q2 q4 q5; subst q2 q4; congr 1; omega
              obtain ⟨l, hl⟩ : ∃ l, l = (cs.take n.toNat).map byteOf := ⟨_, rfl⟩
              have hlen : l.length = n.toNat := by rw [hl, List.length_map, List.length_take]; omega
              have hnl : n = (l.length : Int) := by rw [hlen]; omega
              have hne : l ≠ [] := by intro q; rw [q] at hlen; simp at hlen; omega
              have hsh : w.shape? i.blk = some (e, c'.size) := by simp only [World.shape?, hw]
              have hcell : ∀ j x, l[j]? = some x → w.cell? ((⟨i.blk, 0, none⟩ : Addr).add j) = some (.int .u8 x.toNat) := by
                intro j x hj
                rw [hl, List.getElem?_map] at hj
                obtain ⟨u, hu1, hu2⟩ := Option.map_eq_some_iff.1 hj
                have hmem : u ∈ cs.take n.toNat := List.mem_of_getElem? hu1
                have hby := List.all_eq_true.1 hall u hmem
                rw [List.getElem?_take] at hu1
                split at hu1
                · obtain ⟨v', g1, g2⟩ := h.cell ha2 hb (k := j) (by simpa using hu1)
                  rw [hcc] at g1
                  rw [g1]
                  unfold byteV at hby
                  split at hby
                  · split at hby
                    · rename_i m
                      cases g2
                      subst hu2
                      rw [Nat.blt_eq] at hby
                      simp only [byteOf, Option.some.injEq, Value.int.injEq, true_and]
                      show Int.ofNat m = _
                      have : ((Int.ofNat m).toNat.toUInt8).toNat = m := by
                        show (UInt8.ofNat m).toNat = m
                        rw [UInt8.toNat_ofNat']; omega
                      rw [this]; rfl
                    · cases hby
                  · cases hby
                · cases hu1
              have hrun := Lib.run_unsafeString_row (P := P) w pt it ty e hu hc1 i.blk c'.size hsh l hne (by rw [hlen, ht]; omega) (by omega) hcell
              rw [← hnl, ← hcc] at hrun
              refine ⟨_, by rw [hl] at hrun; exact hrun, ?_, .string _⟩
              rw [← hl]
              exact h.killFreeze hb r ho hbB c q4 _
  case h_3 => cases e
theorem cellShape {w : World} {a : Addr} {v : Value} (h : w.cell? a = some v) (hs : a.spot = none) : ∃ e n, w.shape? a.block = some (e, n) ∧ a.off < n := by
  obtain ⟨b, o, s⟩ := a
  simp only at hs; subst hs
  unfold World.cell? at h
  split at h
  · rename_i c e fr hw
    refine ⟨e, c.size, by simp only [World.shape?, hw], ?_⟩
    simp only at h
    rcases Nat.lt_or_ge o c.size with q | q
    · exact q
    · simp [Array.getElem?_eq_none q] at h
  · cases h
theorem convD_ok (h : Rel X R H w) {src dst : TypeId} {x x' v : Value} {H' : Hp} (hx : VR R x x') (e : convD P H src dst x = some (v, H')) :
    ∃ R' v' w', (convert src dst x').run P w = .ok v' w' ∧ R.le R' ∧ Rel X R' H' w' ∧ VR R' v v' := by
  unfold convD at e
  split at e
  case h_1 el s hus hud =>
    cases hx
    split at e
    case h_2 => cases e
    case h_1 hue =>
      cases e
      generalize hcap : (Question.appendCap s.size 0 el).cut (w.tape w.drawn (.appendCap s.size 0 el)) = cap
      have hge : s.size ≤ cap := by rw [← hcap]; simp only [Question.cut]; omega
      have hcs : VRs R (s.data.toList.map fun b => Value.int .u8 b.toNat) (s.data.toList.map fun b => Value.int .u8 b.toNat) := ints_VRs _ (fun _ => rfl) _
      let i : RI := ⟨w.heap.size, 0, 1, s.size + (cap - s.size), true⟩
      have hn : R H.next = none := h.free _ (Nat.le_refl _)
      have hle := Ren.le_add (R := R) i hn
      let c : Array Value := ⟨(s.data.toList.map fun b => Value.int .u8 b.toNat) ++ List.replicate (cap - s.size) (.int .u8 0)⟩
      have hsz : s.data.toList.length = s.size := by simp; try rfl
      have hcsz : c.size = s.size + (cap - s.size) := by simp [c]; try rfl
      have hR := h.drew.alloc (.cells (.more 1) (s.data.toList.map fun b => Value.int .u8 b.toNat)) (.cells c el (c.size, c.size + 1)) i rfl rfl
        (.own _ _ c el (c.size, c.size + 1) (by intro k; cases k) rfl h.size (heap_alloc_new _ _) hcsz (by simp [i]; try exact Nat.le_add_right _ _) (fun k => by cases k) (Mode.okE.more (i := i))
          (by intro o ho; have : i.tot = c.size := hcsz.symm; rw [this] at ho; intro q; simp only at q; omega)
          (fun j u hu => by
            obtain ⟨u', hu', hv⟩ := hcs.get j u hu
            refine ⟨u', ?_, hv.mono hle⟩
            have hj : j < (s.data.toList.map fun b => Value.int .u8 b.toNat).length := by
              rcases Nat.lt_or_ge j (s.data.toList.map fun b => Value.int .u8 b.toNat).length with q | q
              · exact q
              · rw [List.getElem?_eq_none q] at hu; cases hu
            simp only [c, i, Nat.zero_add, List.getElem?_toArray]
            rw [List.getElem?_append_left hj]
            exact hu'))
      refine ⟨_, .slice (some ⟨w.heap.size, 0, none⟩) s.size cap, _, ?_, hle, hR, .slice _ _ _ ⟨rfl, rfl, _, Ren.add_same _ _ _, rfl, rfl⟩ (.inr ⟨rfl, hge, _, Ren.add_same _ _ _, fun _ => ⟨by simp [i]; try omega, by simp [i]⟩⟩)⟩
      have hc0 : (s.data.map fun b => Value.int .u8 b.toNat) ++ Array.replicate (cap - s.size) (.int .u8 0) = c := by
        apply Array.ext'
        simp [c]
      have hf : Question.forced (.appendCap s.size 0 el) = false := rfl
      simp only [convert, Sem.run_bind, run_underlying hus, run_underlying hud, Result.andThen_ok, run_underlying hue, Conv.stringToBytes, run_choose_drew, hf, Bool.false_eq_true, if_false, hcap]
      simp only [hc0, newRow, Sem.run_bind, run_newObj_alloc, Result.andThen_ok, Sem.run_pure, markStringish, run_shape]
      have hshape : (w.drew.alloc (.cells c el)).shape? w.drew.heap.size = some (el, c.size) := by
        simp only [World.shape?, heap_alloc_new]
      simp only [hshape, run_freeze, Result.andThen_ok, Sem.run_pure]
      have := freeze_new w.drew c el
      simp only [this]
      rfl
  case h_2 el hus hud =>
    cases hx
    split at e
    case h_2 => cases e
    case h_1 hue =>
      cases e
      exact ⟨R, _, w, run_convert_bytes_nil w src el hus hue 0 0 dst hud, Ren.le_refl R, h, .string _⟩
  case h_3 el b o len cap hus hud =>
    split at e
    case h_2 => cases e
    case h_1 md cs hue hb =>
      split at e
      case isFalse => cases e
      case isTrue hc =>
        obtain ⟨hle, hne, hall⟩ := hc
        cases e
        cases hx with
        | empty => exact absurd ⟨rfl, by decide⟩ hne
        | slice len cap cap' ha hcap =>
          rename_i a'
          have hspot := ha.spot'
          have := run_convert_bytes_arg (P := P) w src el hus hue a'.block a'.off len cap' (((cs.drop o).take len).map intOf) (by simp; omega) (fun i hi => by
            have hlt : o + i < cs.length := by omega
            obtain ⟨v', hc', hv⟩ := h.cell ha hb (k := i) (List.getElem?_eq_getElem hlt)
            have hin : cs[o + i] ∈ (cs.drop o).take len := by
              rw [List.mem_iff_getElem?]
              exact ⟨i, by rw [List.getElem?_take, if_pos hi, List.getElem?_drop, List.getElem?_eq_getElem hlt]⟩
            have hby := List.all_eq_true.1 hall _ hin
            have hadd : a'.add i = ⟨a'.block, a'.off + i, none⟩ := by
              cases a' with
              | mk bb oo ss =>
                simp only at hspot; subst hspot
                unfold Addr.add; split <;> simp_all
            rw [hadd] at hc'
            rw [hc']
            have hget : (((cs.drop o).take len).map intOf).getD i 0 = intOf cs[o + i] := by
              simp [List.getD, List.getElem?_take, hi, List.getElem?_drop, List.getElem?_eq_getElem hlt]
            rw [hget]
            generalize cs[o + i] = u at hby hv
            cases hv <;> simp_all [isByte]
            rename_i k n
            cases k <;> simp_all [isByte, intOf]) dst hud
          refine ⟨R, _, w, ?_, Ren.le_refl R, h, .string _⟩
          have e3 : (⟨a'.block, a'.off, none⟩ : Addr) = a' := by cases a'; simp only at hspot; subst hspot; rfl
          rw [e3] at this
          exact this
  case h_4 t hs hd =>
    cases hx; cases e
    exact ⟨R, .pointer none, w, by simp [convert, run_underlying hs, run_underlying hd, Conv.unsafePointer], Ren.le_refl R, h, .nilPtr⟩
  case h_5 t b o hs hd =>
    split at e
    case h_2 => cases e
    case h_1 m cs ti hb hti =>
      split at e
      case isFalse => cases e
      case isTrue hc =>
        cases e
        cases hx with
        | ptr ha =>
          rename_i c
          obtain ⟨v', h1, _⟩ := h.cell ha hb (k := 0) (List.getElem?_eq_getElem hc.2)
          rw [show c.add 0 = c from rfl] at h1
          obtain ⟨e, n, h2, h3⟩ := cellShape h1 ha.spot'
          exact ⟨R, _, w, Lib.run_to_unsafe w c hs hd hti (by omega) h2 h3, Ren.le_refl R, h, .ptr ha⟩
  case h_6 t hs hd =>
    cases hx; cases e
    exact ⟨R, .pointer none, w, by simp [convert, run_underlying hs, run_underlying hd, Conv.unsafePointer], Ren.le_refl R, h, .nilPtr⟩
  case h_7 u b hs hd =>
    split at e
    case h_2 => cases e
    case h_1 T cs ti hb hti =>
      split at e
      case isFalse => cases e
      case isTrue hc =>
        obtain ⟨rfl, hc2, hc3⟩ := hc
        cases e
        cases hx with
        | ptr ha =>
          rename_i c
          obtain ⟨i, r, br⟩ := h.blk _ _ hb
          obtain ⟨q1, q2, j, q3, q4, q5⟩ := ha
          simp only at q3 q5
          rw [r] at q3; cases q3
          cases br with
          | own m cs c' e fr hm' ho hbB hw ht hle hfix hsz hfr' hh =>
            obtain ⟨rfl, h0⟩ := hsz.2 T rfl
            have hf := hfix rfl
            have hoff : c.off = 0 := by omega
            have hsh : w.shape? c.block = some (e, cs.length) := by
              rw [q4]; simp only [World.shape?, hw]
              rw [ht, ← hf, h0, Nat.zero_add]
            exact ⟨R, _, w, Lib.run_from_unsafe w c hs hd hti hsh (by rw [hoff]; exact hc3), Ren.le_refl R, h, .ptr ⟨q1, q2, i, r, q4, by simp only; omega⟩⟩
  case h_8 => cases e
theorem pureRun_bind' {α β : Type} (P : Program) (f : α → Sem β) : ∀ s : Sem α, pureRun P (s >>= f) = (pureRun P s).bind fun a => pureRun P (f a)
  | .pure a => rfl
  | .program k => by
    show pureRun P (Sem.program fun p => Sem.bind (k p) f) = _
    simp only [pureRun]
    exact pureRun_bind' P f (k P)
  | .load _ _ _ => rfl
  | .store _ _ _ _ => rfl
  | .new _ _ => rfl
  | .shape _ _ => rfl
  | .freeze _ _ _ => rfl
  | .frozen _ _ => rfl
  | .getObj _ _ => rfl
  | .setObj _ _ _ => rfl
  | .choose _ _ => rfl
  | .sys _ _ => rfl
  | .mark _ _ => rfl
  | .halt _ => rfl
inductive Keys : List MapEntry → List MapEntry → Prop where
  | nil : Keys [] []
  | cons {e e' : MapEntry} {x x' : List MapEntry} (h : e'.key = e.key) (hx : Keys x x') : Keys (e :: x) (e' :: x')
theorem EntsR.keys {R : Ren} : ∀ {x x' : List MapEntry}, EntsR R x x' → keysFlat x = true → Keys x x'
  | _, _, .nil, _ => .nil
  | _, _, .cons h k, hf => by
    simp only [keysFlat, List.all_cons, Bool.and_eq_true] at hf
    exact .cons (flat_eq h.key hf.1) (EntsR.keys k hf.2)
def FRes (es : List MapEntry) (i : Nat) (r r' : Option (Nat × Value)) : Prop :=
  r'.map (·.1) = r.map (·.1) ∧ ∀ j v, r' = some (j, v) → i ≤ j ∧ ∃ e, es[j - i]? = some e ∧ e.val = v
theorem FRes.up {es : List MapEntry} {e : MapEntry} {i : Nat} {r r' : Option (Nat × Value)} (h : FRes es (i + 1) r r') : FRes (e :: es) i r r' :=
  ⟨h.1, fun j v q => by
    obtain ⟨h1, e1, h2, h3⟩ := h.2 j v q
    refine ⟨by omega, e1, ?_, h3⟩
    rw [show j - i = (j - (i + 1)) + 1 by omega, List.getElem?_cons_succ]; exact h2⟩
theorem findNow_keys {d : TypeDesc} {k : Value} : ∀ {es es' : List MapEntry} (i : Nat), Keys es es' → ∀ r, Instr.findNow d k es i = some r → ∃ r', Instr.findNow d k es' i = some r' ∧ FRes es' i r r'
  | [], _, i, .nil, r, h => by
    simp only [Instr.findNow, Option.some.injEq] at h; subst h
    exact ⟨none, rfl, rfl, fun j v q => by cases q⟩
  | e :: es, e' :: es', i, .cons hk hx, r, h => by
    simp only [Instr.findNow] at h ⊢
    rw [hk]
    split at h
    · rename_i hs; cases h
      refine ⟨some (i, e'.val), by simp only [hs], rfl, fun j v q => ?_⟩
      cases q; exact ⟨Nat.le_refl _, e', by simp, rfl⟩
    · rename_i hs
      obtain ⟨r', h1, h2⟩ := findNow_keys (i + 1) hx r h
      refine ⟨r', ?_, h2.up⟩
      exact h1
    · cases h
theorem findNow_none {d : TypeDesc} {k : Value} : ∀ {es es' : List MapEntry} (i : Nat), Keys es es' → Instr.findNow d k es i = none → Instr.findNow d k es' i = none
  | [], _, i, .nil, h => by simp [Instr.findNow] at h
  | e :: es, e' :: es', i, .cons hk hx, h => by
    simp only [Instr.findNow] at h ⊢
    rw [hk]
    split at h
    · cases h
    · exact findNow_none (i + 1) hx h
    · rfl
theorem findAsking_keys {P : Program} {kt : TypeId} {k : Value} : ∀ {es es' : List MapEntry} (i : Nat), Keys es es' → ∀ r, pureRun P (Instr.findAsking kt k es i) = some r → ∃ r', pureRun P (Instr.findAsking kt k es' i) = some r' ∧ FRes es' i r r'
  | [], _, i, .nil, r, h => by
    have h : some none = some r := h
    cases h
    exact ⟨none, rfl, rfl, fun j v q => by cases q⟩
  | e :: es, e' :: es', i, .cons hk hx, r, h => by
    have e1 : ∀ (es : List MapEntry) (e : MapEntry), Instr.findAsking kt k (e :: es) i = (do if ← Op.equal kt k e.key then pure (some (i, e.val)) else Instr.findAsking kt k es (i + 1)) := fun _ _ => rfl
    simp only [e1, pureRun_bind'] at h ⊢
    rw [hk]
    cases hq : pureRun P (Op.equal kt k e.key) with
    | none => rw [hq] at h; cases h
    | some b =>
      rw [hq] at h
      simp only [Option.bind_some] at h ⊢
      cases b with
      | true =>
        simp only [if_true] at h ⊢
        have h : some (some (i, e.val)) = some r := h
        cases h
        refine ⟨some (i, e'.val), rfl, rfl, fun j v q => ?_⟩
        cases q; exact ⟨Nat.le_refl _, e', by simp, rfl⟩
      | false =>
        simp only [Bool.false_eq_true, if_false] at h ⊢
        obtain ⟨r', h1, h2⟩ := findAsking_keys (i + 1) hx r h
        exact ⟨r', h1, h2.up⟩
theorem findKey_keys {P : Program} {kt : TypeId} {k : Value} {es es' : List MapEntry} (hx : Keys es es') {r : Option (Nat × Value)} (h : pureRun P (Instr.findKey kt k es) = some r) : ∃ r', pureRun P (Instr.findKey kt k es') = some r' ∧ FRes es' 0 r r' := by
  simp only [Instr.findKey, pureRun_bind'] at h ⊢
  cases hu : pureRun P (underlying kt) with
  | none => rw [hu] at h; cases h
  | some d =>
    rw [hu] at h
    simp only [Option.bind_some] at h ⊢
    cases hn : Instr.findNow d k es 0 with
    | some q =>
      rw [hn] at h
      have h : some q = some r := h
      cases h
      obtain ⟨r', h1, h2⟩ := findNow_keys 0 hx _ hn
      exact ⟨r', by rw [h1]; rfl, h2⟩
    | none =>
      rw [hn] at h
      rw [findNow_none 0 hx hn]
      exact findAsking_keys 0 hx r h
theorem findD_ok {P : Program} {R : Ren} {kt : TypeId} {k k' : Value} {empty : Bool} {es es' : List MapEntry} {q : Option Nat} (hk : VR R k k') (he : EntsR R es es') (h : findD P kt k empty es = some q) :
    k' = k ∧ flat k = true ∧ keysFlat es = true ∧ (∀ w, (Instr.checkKey empty 10000 kt k').run P w = .ok () w) ∧ ∃ r', (∀ w, (Instr.findKey kt k' es').run P w = .ok r' w) ∧ r'.map (·.1) = q ∧ ∀ j v, r' = some (j, v) → ∃ e', es'[j]? = some e' ∧ e'.val = v := by
  unfold findD at h
  split at h
  · cases h
  · rename_i hf
    split at h
    · cases h
    · rename_i hkf
      split at h
      · cases h
      · rename_i u hc
        split at h
        · rename_i r hr
          cases h
          have hke := flat_eq hk hf
          subst hke
          obtain ⟨r', h1, h2, h3⟩ := findKey_keys (he.keys hkf) hr
          refine ⟨rfl, hf, hkf, fun w => pureRun_run P _ hc w, r', fun w => pureRun_run P _ h1 w, h2, fun j v q => ?_⟩
          obtain ⟨_, e', h4, h5⟩ := h3 j v q
          exact ⟨e', by simpa using h4, h5⟩
        · cases h
theorem EntsR.get {R : Ren} : ∀ {x x' : List MapEntry}, EntsR R x x' → ∀ (j : Nat) (e' : MapEntry), x'[j]? = some e' → ∃ e, x[j]? = some e ∧ EntR R e e'
  | _, _, .nil, j, e', h => by simp at h
  | _, _, .cons hv hx, 0, e', h => by simp at h; subst h; exact ⟨_, by simp, hv⟩
  | _, _, .cons hv hx, j + 1, e', h => by
    obtain ⟨e, h1, h2⟩ := EntsR.get hx j e' (by simpa using h)
    exact ⟨e, by simpa using h1, h2⟩
theorem EntsR.set {R : Ren} {e e' : MapEntry} (h : EntR R e e') : ∀ {x x' : List MapEntry} (j : Nat), EntsR R x x' → EntsR R (x.set j e) (x'.set j e')
  | _, _, _, .nil => by simpa using EntsR.nil
  | _, _, 0, .cons _ hx => by simpa using EntsR.cons h hx
  | _, _, j + 1, .cons hv hx => by simpa using EntsR.cons hv (EntsR.set h j hx)
theorem EntsR.snoc {R : Ren} {e e' : MapEntry} (h : EntR R e e') : ∀ {x x' : List MapEntry}, EntsR R x x' → EntsR R (x ++ [e]) (x' ++ [e'])
  | _, _, .nil => .cons h .nil
  | _, _, .cons hv hx => .cons hv (EntsR.snoc h hx)
theorem getObj_run {P : Program} {w : World} {r : Nat} {es : Array MapEntry} {c : Nat} (h : w.heap[r]? = some (.map es c)) : (getObj r).run P w = .ok (.map es c) w := by
  simp [getObj, Sem.run, h]
theorem Rel.mapBlk {X : Cx} {w : World} {R : Ren} {H : Hp} (h : Rel X R H w) {b : Nat} {es : List MapEntry} {clock : Nat} (hb : H.get b = some (.map es clock)) : ∃ i es', R b = some i ∧ i.own = true ∧ X.B ≤ i.blk ∧ w.heap[i.blk]? = some (.map ⟨es'⟩ clock) ∧ EntsR R es es' := by
  obtain ⟨i, hi, br⟩ := h.blk b _ hb
  cases br with
  | map _ es' _ ho hB hw he => exact ⟨i, es', hi, ho, hB, hw, he⟩
theorem EntsR.isEmpty {R : Ren} {x x' : List MapEntry} (h : EntsR R x x') : (⟨x'⟩ : Array MapEntry).isEmpty = x.isEmpty := by
  cases h <;> rfl
theorem lookupD_ok {X : Cx} {P : Program} {R : Ren} {H : Hp} {w : World} (h : Rel X R H w) {t : TypeId} {x x' i i' v : Value} {ok : Bool} (hx : VR R x x') (hi : VR R i i') (e : lookupD P H t x i ok = some v) :
    ∃ v', (Instr.lookup t x' i' ok).run P w = .ok v' w ∧ VR R v v' := by
  unfold lookupD at e
  split at e
  case h_2 => cases e
  case h_1 kt elem hu =>
    split at e
    case h_2 => cases e
    case h_1 es hes =>
      obtain ⟨es', hee, hfetch⟩ : ∃ es', EntsR R es es' ∧ ((x' = .map none ∧ es' = []) ∨ ∃ b clock, x' = .map (some b) ∧ w.heap[b]? = some (.map ⟨es'⟩ clock)) := by
        unfold entriesD at hes
        split at hes
        · cases hes
          cases hx
          exact ⟨[], .nil, .inl ⟨rfl, rfl⟩⟩
        · split at hes
          · rename_i es0 clock hb
            cases hes
            cases hx with
            | map _ ii hii =>
              obtain ⟨i0, es', hi0, ho, hB, hw, he⟩ := h.mapBlk hb
              rw [hii] at hi0; cases hi0
              exact ⟨es', he, .inr ⟨_, _, rfl, hw⟩⟩
          · cases hes
        · cases hes
      split at e
      · rename_i j hj
        split at e
        · rename_i en hen
          obtain ⟨rfl, hf, hkf, c1, r', c2, c3, c4⟩ := findD_ok hi hee hj
          cases r' with
          | none => simp at c3
          | some p =>
            obtain ⟨j', v1⟩ := p
            simp only [Option.map_some, Option.some.injEq] at c3
            subst c3
            obtain ⟨e', g1, g2⟩ := c4 _ _ rfl
            obtain ⟨e2, g3, g4⟩ := hee.get _ _ g1
            rw [hen] at g3; cases g3
            simp only [Option.some.injEq] at e
            subst g2 e
            refine ⟨if ok then .tuple #[e'.val, .bool true] else e'.val, ?_, ?_⟩
            · rcases hfetch with ⟨rfl, rfl⟩ | ⟨b, clock, rfl, hw⟩
              · simp at g1
              · simp only [Instr.lookup, Sem.run_bind, run_underlying hu, Result.andThen_ok, Sem.run_pure, getObj_run hw, hee.isEmpty, c1, c2]
            · cases ok
              · exact g4.val
              · exact .tuple (.cons g4.val (.cons (.bool true) .nil))
        · cases e
      · rename_i hj
        split at e
        · rename_i z hz
          split at e
          · rename_i hzf
            obtain ⟨rfl, hf, hkf, c1, r', c2, c3, c4⟩ := findD_ok hi hee hj
            cases r' with
            | some p => simp at c3
            | none =>
              simp only [Option.some.injEq] at e
              subst e
              refine ⟨if ok then .tuple #[z, .bool false] else z, ?_, ?_⟩
              · rcases hfetch with ⟨rfl, rfl⟩ | ⟨b, clock, rfl, hw⟩
                · cases hee
                  simp only [Instr.lookup, Sem.run_bind, run_underlying hu, Result.andThen_ok, Sem.run_pure]
                  rw [show (#[] : Array MapEntry).isEmpty = true from rfl]
                  simp only [List.isEmpty_nil] at c1
                  simp only [c1, c2, Result.andThen_ok, Sem.run_bind, zeroD_run hz, Sem.run_pure]
                · simp only [Instr.lookup, Sem.run_bind, run_underlying hu, Result.andThen_ok, Sem.run_pure, getObj_run hw, hee.isEmpty, c1, c2, zeroD_run hz]
              · cases ok
                · exact flat_refl hzf
                · exact .tuple (.cons (flat_refl hzf) (.cons (.bool false) .nil))
          · cases e
        · cases e
      · cases e
theorem mapUpdateD_ok {X : Cx} {P : Program} {R : Ren} {H : Hp} {w : World} (h : Rel X R H w) {t : TypeId} {m m' k k' v v' : Value} {H' : Hp} (hm : VR R m m') (hk : VR R k k') (hv : VR R v v') (e : mapUpdateD P H t m k v = some H') :
    ∃ w', (Instr.mapUpdate t m' k' v').run P w = .ok () w' ∧ Rel X R H' w' := by
  unfold mapUpdateD at e
  split at e
  case h_2 => cases e
  case h_1 kt elem r hu =>
    split at e
    case h_2 => cases e
    case h_1 es clock hb =>
      cases hm with
      | map _ ii hii =>
        obtain ⟨i0, es', hi0, ho, hB, hw, he⟩ := h.mapBlk hb
        rw [hii] at hi0; cases hi0
        have hlt : ii.blk < w.heap.size := (Array.getElem?_eq_some_iff.1 hw).1
        have hput : ∀ (es2 es2' : List MapEntry) (clock' : Nat), EntsR R es2 es2' → Rel X R (H.put r (.map es2 clock')) { w with heap := w.heap.setIfInBounds ii.blk (.map ⟨es2'⟩ clock') } := by
          intro es2 es2' clock' h2
          refine h.putObj hb hii ho hB _ (.map es2 es2' clock' ho hB ?_ h2)
          rw [Array.getElem?_setIfInBounds, if_pos rfl, if_pos hlt]
        have hset : ∀ (o : Obj), (setObj ii.blk o).run P w = .ok () { w with heap := w.heap.setIfInBounds ii.blk o } := by
          intro o
          simp [setObj, Sem.run, hw]
        split at e
        · rename_i j hj
          split at e
          · rename_i en hen
            split at e
            · rename_i hsame
              cases e
              obtain ⟨rfl, hf, hkf, c1, r', c2, c3, c4⟩ := findD_ok hk he hj
              cases r' with
              | none => simp at c3
              | some p =>
                obtain ⟨j', v1⟩ := p
                simp only [Option.map_some, Option.some.injEq] at c3
                subst c3
                obtain ⟨e', g1, g2⟩ := c4 _ _ rfl
                obtain ⟨e2, g3, g4⟩ := he.get _ _ g1
                rw [hen] at g3; cases g3
                have hkey : e'.key = en.key := flat_eq g4.key (by
                  have := List.all_eq_true.1 hkf en (List.mem_of_getElem? hen)
                  exact this)
                have hmod : ((⟨es'⟩ : Array MapEntry).modify j' fun e => { e with key := k', val := v' }) = ⟨es'.set j' { e' with key := k', val := v' }⟩ := by
                  apply Array.ext'
                  rw [Array.toList_modify]
                  apply List.ext_getElem?
                  intro q
                  rw [List.getElem?_modify, List.getElem?_set]
                  by_cases hq : j' = q
                  · subst hq
                    obtain ⟨hl, he2⟩ := List.getElem?_eq_some_iff.1 g1
                    simp [g1, hl, he2]
                  · simp [hq]
                refine ⟨_, ?_, hput _ (es'.set j' { e' with key := k', val := v' }) clock (EntsR.set (show EntR R { en with key := k', val := v } { e' with key := k', val := v' } from ⟨hk, hv, g4.born⟩) j' he)⟩
                simp only [Instr.mapUpdate, Sem.run_bind, run_underlying hu, Result.andThen_ok, getObj_run hw, c1, c2]
                have hkk : ((⟨es'⟩ : Array MapEntry)[j']?.map (·.key)).getD k' = en.key := by
                  simp [g1, hkey]
                rw [hkk]
                simp only [Instr.keyThatStays, hsame, if_true, Sem.run_pure, Result.andThen_ok, hmod, hset]
            · cases e
          · cases e
        · rename_i hj
          cases e
          obtain ⟨rfl, hf, hkf, c1, r', c2, c3, c4⟩ := findD_ok hk he hj
          cases r' with
          | some p => simp at c3
          | none =>
            refine ⟨_, ?_, hput _ (es' ++ [{ key := k', val := v', born := clock }]) (clock + 1) (EntsR.snoc (show EntR R { key := k', val := v, born := clock } { key := k', val := v', born := clock } from ⟨hk, hv, rfl⟩) he)⟩
            simp only [Instr.mapUpdate, Sem.run_bind, run_underlying hu, Result.andThen_ok, getObj_run hw, c1, c2]
            have : (⟨es'⟩ : Array MapEntry).push { key := k', val := v', born := clock } = ⟨es' ++ [{ key := k', val := v', born := clock }]⟩ := by apply Array.ext'; simp
            rw [this]
            exact hset _
        · cases e
theorem clearD_ok {X : Cx} {P : Program} {R : Ren} {H : Hp} {w : World} (h : Rel X R H w) {argTypes : Array TypeId} {ty : TypeId} {x x' : Value} {H' : Hp} (hx : VR R x x') (e : clearD P H argTypes x = some H') :
    ∃ w', (Builtin.clear_ argTypes ty #[x']).run P w = .ok undef w' ∧ Rel X R H' w' := by
  unfold clearD at e
  split at e
  case h_2 => cases e
  case h_1 t ht =>
    split at e
    case h_3 => cases e
    case h_1 hu =>
      cases e
      cases hx
      refine ⟨w, ?_, h⟩
      simp [Builtin.clear_, ht, Sem.run_bind, run_underlying hu, undef]
    case h_2 elem b o n cap hu =>
      split at e
      · rename_i hn
        cases e
        subst hn
        refine ⟨w, ?_, h⟩
        cases hx <;> simp [Builtin.clear_, ht, Sem.run_bind, run_underlying hu, undef]
      · rename_i hn
        split at e
        case h_2 => cases e
        case h_1 z mode cs hz hb =>
          split at e
          case isFalse => cases e
          case isTrue hc =>
            obtain ⟨hzf, hmode, hpos, hle, hone⟩ := hc
            cases e
            cases hx with
            | slice _ _ cap' ha hcap =>
              rename_i a'
              have hlen : (repsD z.cells.toList n).length = n * z.cells.size := by rw [repsD_length]; simp
              obtain ⟨w', h1, h2⟩ := Rel.storeCells (P := P) hmode ha (vs := repsD z.cells.toList n) (vs' := repsD z.cells.toList n) 0 h hb (by simpa [hlen] using hle) hone (reps_flat (flat_cells hzf) n)
              refine ⟨w', ?_, h2⟩
              have hz2 : (Builtin.zeroCells z.cells n).toList = repsD z.cells.toList n := by
                have := reps_eq z.cells hpos n
                simp only [Builtin.zeroCells]
                rw [this]
              obtain ⟨n', rfl⟩ : ∃ q, n = q + 1 := ⟨n - 1, by omega⟩
              simp only [Builtin.clear_, ht, Sem.run_bind, run_underlying hu, Result.andThen_ok, zeroD_run hz, hz2]
              simp [Sem.run_bind, run_underlying hu, zeroD_run hz, hz2, h1, undef]
            | empty => exact absurd rfl hn
end Go.Det

set_option linter.unusedSimpArgs false
set_option linter.unusedVariables false
namespace Go.Det
open Go Go.RowKit
theorem argsD_ok {R : Ren} {ev : Ev} {ρ : Operand → Value} (hev : EvR R ev ρ) : ∀ {l : List Operand} {vs : List Value}, argsD ev l = some vs → VRs R vs (l.map ρ)
  | [], vs, e => by simp only [argsD, Option.some.injEq] at e; subst e; exact .nil
  | x :: l, vs, e => by
    simp only [argsD] at e
    split at e
    · rename_i v l' hv hl
      cases e
      exact .cons (hev _ _ hv) (argsD_ok hev hl)
    · cases e
theorem partsD_ok {R : Ren} {ev : Ev} {ρ : Operand → Value} (hev : EvR R ev ρ) : ∀ {l : List (Nat × Operand)} {vs : List (Nat × Value)}, partsD ev l = some vs → PartsR R vs (l.map fun x => (x.1, ρ x.2))
  | [], vs, e => by simp only [partsD, Option.some.injEq] at e; subst e; exact .nil
  | (i, x) :: l, vs, e => by
    simp only [partsD] at e
    split at e
    · rename_i v l' hv hl
      cases e
      exact .cons i (hev _ _ hv) (partsD_ok hev hl)
    · cases e
variable {X : Cx} {P : Program} {R : Ren} {H : Hp} {w : World}
inductive ResR (P : Program) (X : Cx) (R : Ren) (w : World) (H : Hp) : Res → Result Next → Prop where
  | val {v v' : Value} {H' : Hp} {R' : Ren} {w' : World} (hle : R.le R') (hR : Rel X R' H' w') (hv : VR R' v v') : ResR P X R w H (.val v H') (.ok (.value v') w')
  | skip {H' : Hp} {R' : Ren} {w' : World} (hle : R.le R') (hR : Rel X R' H' w') : ResR P X R w H (.val undef H') (.ok .skip w')
  | enter {f : FuncId} {args args' : List Value} (hv : VRs R args args') : ResR P X R w H (.enter f args) (.ok (.enter f ⟨args'⟩) w)
  | panic {v v' : Value} (hv : VR R v v') : ResR P X R w H (.panic v) (.halt (.panic v') w)
  | yield {l : Nat} {args args' : List Value} {s : Sem Next} {i : RI} (hl : R l = some i) (ho : i.own = true) (hv : VRs R args args') (hs : s = Instr.yield i.blk ⟨args'⟩) : ResR P X R w H (.yield l args) (s.run P w)
  | defer {f : FuncId} {x y x' y' args args' : List Value} (hx : VRs R x x') (hy : VRs R y y') (ha : VRs R args args') :
      ResR P X R w H (.defer (.func (.func f) ⟨x⟩ ⟨y⟩) args) (.ok (.defer { target := .fn (.func f) ⟨y'⟩, args := ⟨x' ++ args'⟩ }) w)
  | recover : ResR P X R w H .recover (.ok .recover w)
theorem aapp (a b : List Value) : (⟨a⟩ : Array Value) ++ ⟨b⟩ = ⟨a ++ b⟩ := by apply Array.ext'; simp
theorem enterD_ok {f : FuncId} {args args' : List Value} {r : Res} (e : enterD P f args = some r) (hv : VRs R args args') : ResR P X R w H r ((callFunc f ⟨args'⟩).run P w) := by
  unfold enterD at e
  split at e
  case h_2 => cases e
  case h_1 fn hf =>
    split at e
    case isTrue => cases e
    case isFalse hc =>
      cases e
      simp only [Bool.or_eq_true, not_or, Bool.not_eq_true] at hc
      have : (callFunc f ⟨args'⟩).run P w = .ok (.enter f ⟨args'⟩) w := by
        simp only [callFunc, Sem.run_bind, run_program, Result.andThen_ok, hf, hc.1, hc.2, Bool.false_eq_true, if_false]
        rfl
      rw [this]
      exact .enter hv
theorem find_of {fn : Func} {n : String} {e : Array Value → Sem Value} (hn : fn.name = n) (h1 : Extern.allGenericRows.lookup n = none) (h2 : Extern.allTypedRows.lookup n = none) (h3 : Extern.allRows.lookup n = some e) : Extern.find fn = some e := by
  unfold Extern.find
  simp [hn, h1, h2, h3]
theorem findNext_of {fn : Func} {n : String} (hn : fn.name = n) (ho : fn.origin = "") (h1 : Extern.allNextRows.lookup n = none) (h2 : Extern.allNextRows.lookup "" = none) : Extern.findNext fn = none := by
  unfold Extern.findNext
  simp [hn, ho, h1, h2]
theorem nextEmpty : Extern.allNextRows.lookup "" = none := by kernel_rfl
theorem find_ofT {fn : Func} {n : String} {e : Array TypeId → Array TypeId → Array Value → Sem Value} (hn : fn.name = n) (h1 : Extern.allGenericRows.lookup n = none) (h2 : Extern.allTypedRows.lookup n = some e) : Extern.find fn = some (e fn.params fn.resultTypes) := by
  unfold Extern.find
  simp [hn, h1, h2]
theorem xtN_ok (h : Rel X R H w) {fn : Func} {args args' : List Value} {v : Value} {H' : Hp} (e : xtN P H fn args = some (v, H')) (hv : VRs R args args') :
    fn.name = "internal/bytealg.MakeNoZero" ∧ ∃ R' v' w', (Extern.BytealgMakeNoZero.makeNoZero fn.params fn.resultTypes ⟨args'⟩).run P w = .ok v' w' ∧ R.le R' ∧ Rel X R' H' w' ∧ VR R' v v' := by
  unfold xtN at e
  split at e
  case h_2 => cases e
  case h_1 n t ht =>
    split at e
    case h_2 => cases e
    case h_1 hn =>
      split at e
      case h_2 => cases e
      case h_1 el hel =>
        split at e
        case isFalse => cases e
        case isTrue hb =>
          cases e
          refine ⟨by simpa using hn, ?_⟩
          cases hv with
          | cons a b =>
            cases b; cases a
            obtain ⟨m, rfl⟩ : ∃ m : Nat, n = (m : Int) := ⟨n.toNat, by omega⟩
            have hrt : fn.resultTypes = #[t] := by apply Array.ext'; simpa using ht
            obtain ⟨cs, hr, h1, h2⟩ := Lib.run_makeNoZero (P := P) w fn.params t el hel m (by omega)
            rw [hrt]
            let i : RI := ⟨w.heap.size, 0, 1, cs.size, true⟩
            have hnn : R H.next = none := h.free _ (Nat.le_refl _)
            have hle := Ren.le_add (R := R) i hnn
            have hR := h.drew.drew.alloc (.cells (.more 1 (tyU P el)) []) (.cells cs el) i rfl rfl
              (.own _ _ cs el (0, 0) (by intro k; cases k) rfl h.size (heap_alloc_new _ _) rfl (by simp [i]) (fun k => by cases k)
                (Mode.okE.moreO (i := i) rfl (tyU_or P el)) (by intro o _ q; simp only at q; omega) (fun j u hu => by simp at hu))
            exact ⟨_, _, _, hr, hle, hR, .slice _ _ _ ⟨rfl, rfl, _, Ren.add_same _ _ _, rfl, rfl⟩ (.inr ⟨rfl, by simpa using h1, _, Ren.add_same _ _ _, fun _ => ⟨by simp [i], by simp [i]⟩⟩)⟩
theorem goD_ok (h : Rel X R H w) {f : FuncId} {args args' : List Value} {r : Res} (e : goD P H f args = some r) (hv : VRs R args args') : ResR P X R w H r ((callFunc f ⟨args'⟩).run P w) := by
  unfold goD at e
  split at e
  · rename_i r' hr; cases e; exact enterD_ok hr hv
  · unfold externD at e
    split at e
    case h_2 => cases e
    case h_1 fn hf =>
      split at e
      case h_2 => cases e
      case h_1 hb ho =>
        have ho : fn.origin = "" := by simpa using ho
        have hbn : fn.body.isNone = true := by rw [hb]; rfl
        split at e
        · rename_i v1 H1 hx
          cases e
          obtain ⟨hn, R', v', w', hr, hle, hR', hv'⟩ := xtN_ok (P := P) h hx hv
          rw [run_callFunc_extern hf (by rw [hn]; decide) hbn (findNext_of hn ho (by kernel_rfl) nextEmpty) (find_ofT hn (by kernel_rfl) (e := Extern.BytealgMakeNoZero.makeNoZero) (by kernel_rfl)), hr]
          exact .val hle hR' hv'
        have fin : ∀ {n : String} {ee : Array Value → Sem Value} {v v' : Value}, fn.name = n → (n == "runtime.NumGoroutine") = false → Extern.allGenericRows.lookup n = none → Extern.allTypedRows.lookup n = none → Extern.allRows.lookup n = some ee → Extern.allNextRows.lookup n = none →
            (ee ⟨args'⟩).run P w = .ok v' w → VR R v v' → ResR P X R w H (.val v H) ((callFunc f ⟨args'⟩).run P w) := by
          intro n ee v v' hn h0 h1 h2 h3 h4 hr hv
          rw [run_callFunc_extern hf (by rw [hn]; exact h0) hbn (findNext_of hn ho h4 nextEmpty) (find_of hn h1 h2 h3), hr]
          exact .val (Ren.le_refl R) h hv
        cases hx : xtD fn.name args with
        | none => rw [hx] at e; cases e
        | some v =>
          rw [hx] at e; cases e
          unfold xtD at hx
          split at hx
          · rename_i s c
            cases hv with
            | cons a b =>
              cases b with
              | cons b d =>
                cases d; cases a; cases b
                split at hx
                · rename_i hn
                  cases hx
                  exact fin (n := "internal/bytealg.IndexByteString") (by simpa using hn) (by decide) (by kernel_rfl) (by kernel_rfl) (ee := Extern.BytealgIndexByte.indexByte) (by kernel_rfl) (by kernel_rfl) (Lib.run_indexByteString _ _ w) (.int _ _)
                · split at hx
                  · rename_i hn
                    cases hx
                    exact fin (n := "internal/bytealg.CountString") (by simpa using hn) (by decide) (by kernel_rfl) (by kernel_rfl) (ee := Extern.BytealgCount.count) (by kernel_rfl) (by kernel_rfl) (Lib.run_countString _ _ w) (.int _ _)
                  · cases hx
          · rename_i x
            cases hv with
            | cons a b =>
              cases b
              split at hx
              · rename_i hn
                cases hx
                exact fin (n := "internal/abi.NoEscape") (by simpa using hn) (by decide) (by kernel_rfl) (by kernel_rfl) (ee := Extern.AbiNoEscape.same) (by kernel_rfl) (by kernel_rfl) rfl a
              · cases hx
          · cases hx
theorem callD_ok (h : Rel X R H w) {ev : Ev} {ρ : Operand → Value} (hev : EvR R ev ρ) {o : Oper} {c : Call} (ho : o.op = .call c) {r : Res} (e : callD P H ev o c = some r) :
    ResR P X R w H r ((execOp ρ o).run P w) := by
  have hns : ∀ cs b, o.op ≠ .select cs b := by rw [ho]; intro _ _ q; cases q
  have hex : execOp ρ o = (do let d ← resolve ρ c o.type; invoke d.target d.args) := by unfold execOp; simp only [ho]
  unfold callD at e
  split at e
  case h_1 => cases e
  case h_2 args ha =>
    have hargs := argsD_ok hev ha
    have hmap : c.args.map ρ = ⟨c.args.toList.map ρ⟩ := by apply Array.ext'; simp
    generalize hAL : c.args.toList.map ρ = al at hargs hmap
    split at e
    -- a function value
    case h_1 f hc =>
      split at e
      case h_1 g first captured hf =>
        have := hev _ _ hf
        generalize hF : ρ f = fv at this
        cases this with
        | func hfn hx hy =>
          cases hfn
          rename_i first' captured'
          have hrun : (execOp ρ o).run P w = (callFunc g ⟨first' ++ al ++ captured'⟩).run P w := by
            rw [hex]
            simp only [resolve, hc, hmap, hF, Deferred.ofValue, pure_bind, invoke, aapp]
          rw [hrun]
          exact goD_ok h e ((hx.append hargs).append hy)
      case h_2 l hf =>
        cases e
        have := hev _ _ hf
        generalize hF : ρ f = fv at this
        cases this with
        | func hfn hx hy =>
          cases hfn with
          | yield _ i hl hown =>
            cases hx; cases hy
            have hrun : execOp ρ o = Instr.yield i.blk ⟨al⟩ := by
              rw [hex]
              simp only [resolve, hc, hmap, hF, Deferred.ofValue, pure_bind, invoke, aapp, List.nil_append]
            exact .yield hl hown hargs hrun
      case h_3 => cases e
    -- a method of an interface value
    case h_2 recv name hc =>
      split at e
      case h_2 => cases e
      case h_1 t v hr =>
        have := hev _ _ hr
        generalize hF : ρ recv = fv at this
        cases this with
        | iface _ hv =>
          rename_i v'
          split at e
          case h_2 => cases e
          case h_1 i d hi hu =>
            split at e
            case h_2 => cases e
            case h_1 m hm =>
              split at e
              case isFalse => cases e
              case isTrue hp =>
                have hrun0 : execOp ρ o = (do let (f, receiver) ← method (P.types.size + Made.depth) t v' name; callFunc f (#[receiver] ++ ⟨al⟩) : Sem Next) ∨ True := .inr trivial
                have hfuel : ∃ q, P.types.size + Made.depth = q + 1 := ⟨P.types.size + (Made.depth - 1), by simp [Made.depth]⟩
                obtain ⟨q, hq⟩ := hfuel
                have hpath : m.path.toList = [] := by
                  have : m.path = #[] := by simpa using hp
                  rw [this]
                have hmeth : ∀ {f : FuncId} {pr : Bool}, m.func = some (f, pr) → (∀ z, (d = .pointer z → pr = true)) → (pr = true → ∃ z, d = .pointer z) →
                    (method (q + 1) t v' name).run P w = .ok (f, v') w := by
                  intro f pr hmf hd1 hd2
                  simp only [method, Sem.run_bind, typeInfo_run hi, Result.andThen_ok, hm, hpath, follow, Sem.run_pure, hmf]
                  cases pr with
                  | true =>
                    obtain ⟨z, rfl⟩ := hd2 rfl
                    simp [receiverAt, run_underlying hu, Place.get]
                  | false =>
                    have hnp : ∀ z, d ≠ .pointer z := fun z k => by have := hd1 z k; cases this
                    simp only [receiverAt, Sem.run_bind, run_underlying hu, Result.andThen_ok]
                    cases d <;> first | (exact absurd rfl (hnp _)) | simp [Place.get]
                have hrun : ∀ {f : FuncId}, (method (q + 1) t v' name).run P w = .ok (f, v') w → (execOp ρ o).run P w = (callFunc f ⟨v' :: al⟩).run P w := by
                  intro f hf
                  rw [hex]
                  simp only [resolve, hc, hmap, hF, pure_bind, invoke]
                  have h0 : (#[Value.iface t v'] ++ (⟨al⟩ : Array Value))[0]? = some (.iface t v') := by simp
                  have h1 : (#[Value.iface t v'] ++ (⟨al⟩ : Array Value)).extract 1 (#[Value.iface t v'] ++ (⟨al⟩ : Array Value)).size = ⟨al⟩ := by
                    apply Array.ext'; simp
                  simp only [h0, h1, callMethod, Sem.run_bind, run_program, Result.andThen_ok, hq, hf]
                  congr 2
                  apply Array.ext'; simp
                split at e
                case h_1 f z hmf =>
                  have hh := hmeth (f := f) (pr := true) hmf (fun _ _ => rfl) (fun _ => ⟨z, rfl⟩)
                  rw [hrun hh]
                  exact enterD_ok e (.cons hv hargs)
                case h_2 => cases e
                case h_3 f hmf hnp =>
                  have hh := hmeth (f := f) (pr := false) hmf (fun z k => (hnp z k).elim) (fun k => by cases k)
                  rw [hrun hh]
                  exact enterD_ok e (.cons hv hargs)
                case h_4 => cases e
    -- builtins
    case h_3 hc =>
      split at e
      case h_2 => cases e
      case h_1 s x =>
        cases ha2 : appendD P H c.argTypes s x with
        | none => rw [ha2] at e; cases e
        | some q =>
          obtain ⟨v, H'⟩ := q
          rw [ha2] at e; cases e
          cases hargs with
          | cons hs hq => cases hq with
            | cons hx hq2 =>
              cases hq2
              rename_i s' x'
              obtain ⟨R', v', w', hr, hle, hR, hv⟩ := appendD_ok (P := P) (ty := o.type) h hs hx ha2
              have hrun : (execOp ρ o).run P w = .ok (.value v') w' := by
                rw [hex]
                simp only [resolve, hc, hmap, pure_bind, invoke, builtin, Sem.run_bind, Sem.run_pure]
                rw [hr]; rfl
              rw [hrun]
              exact .val hle hR hv
    case h_4 hc =>
      split at e
      case h_2 => cases e
      case h_1 s x =>
        cases ha2 : copyD P H c.argTypes s x with
        | none => rw [ha2] at e; cases e
        | some q =>
          obtain ⟨v, H'⟩ := q
          rw [ha2] at e; cases e
          cases hargs with
          | cons hs hq => cases hq with
            | cons hx hq2 =>
              cases hq2
              obtain ⟨w', hr, hR, hv⟩ := copyD_ok (P := P) (ty := o.type) h hs hx ha2
              have hrun : (execOp ρ o).run P w = .ok (.value v) w' := by
                rw [hex]
                simp only [resolve, hc, hmap, pure_bind, invoke, builtin, Sem.run_bind, Sem.run_pure]
                rw [hr]; rfl
              rw [hrun]
              exact .val (Ren.le_refl R) hR hv
    case h_5 hc =>
      split at e
      case h_2 => cases e
      case h_1 x =>
        cases ha2 : lenOfD P H c.argTypes x with
        | none => rw [ha2] at e; cases e
        | some v =>
          rw [ha2] at e; cases e
          cases hargs with
          | cons hx hq2 =>
            cases hq2
            obtain ⟨hr, hv⟩ := lenOfD_ok (P := P) (ty := o.type) h hx ha2
            have hrun : (execOp ρ o).run P w = .ok (.value v) w := by
              rw [hex]
              simp only [resolve, hc, hmap, pure_bind, invoke, builtin, Sem.run_bind, Sem.run_pure]
              rw [hr]; rfl
            rw [hrun]
            exact .val (Ren.le_refl R) h hv
    case h_6 hc =>
      split at e
      case h_2 => cases e
      case h_1 x =>
        cases ha2 : capOfD P c.argTypes x with
        | none => rw [ha2] at e; cases e
        | some v =>
          rw [ha2] at e; cases e
          cases hargs with
          | cons hx hq2 =>
            cases hq2
            obtain ⟨hr, hv⟩ := capOfD_ok (P := P) (ty := o.type) hx ha2 w
            have hrun : (execOp ρ o).run P w = .ok (.value v) w := by
              rw [hex]
              simp only [resolve, hc, hmap, pure_bind, invoke, builtin, Sem.run_bind, Sem.run_pure]
              rw [hr]; rfl
            rw [hrun]
            exact .val (Ren.le_refl R) h hv
    case h_7 hc =>
      split at e
      case isFalse => cases e
      case isTrue ha0 =>
        cases e
        have hrun : (execOp ρ o).run P w = .ok .recover w := by
          rw [hex]
          simp only [resolve, hc, pure_bind, invoke, builtin, Sem.run_pure]
        rw [hrun]
        exact .recover
    case h_8 hc =>
      cases hg : genD P ev o with
      | none => rw [hg] at e; cases e
      | some v =>
        rw [hg] at e; cases e
        obtain ⟨hr, hv⟩ := genD_ok hev hns hg w
        rw [hr]
        exact .val (Ren.le_refl R) h hv
    case h_9 hc =>
      cases hg : genD P ev o with
      | none => rw [hg] at e; cases e
      | some v =>
        rw [hg] at e; cases e
        obtain ⟨hr, hv⟩ := genD_ok hev hns hg w
        rw [hr]
        exact .val (Ren.le_refl R) h hv
    case h_10 hc =>
      split at e
      case h_2 => cases e
      case h_1 x =>
        cases ha2 : clearD P H c.argTypes x with
        | none => rw [ha2] at e; cases e
        | some H' =>
          rw [ha2] at e; cases e
          cases hargs with
          | cons hx hq2 =>
            cases hq2
            obtain ⟨w', hr, hR⟩ := clearD_ok (P := P) (ty := o.type) h hx ha2
            have hrun : (execOp ρ o).run P w = .ok (.value undef) w' := by
              rw [hex]
              simp only [resolve, hc, hmap, pure_bind, invoke, builtin, Sem.run_bind, Sem.run_pure]
              rw [hr]; rfl
            rw [hrun]
            exact .val (Ren.le_refl R) hR (.tuple .nil)
    case h_11 hc =>
      split at e
      case h_1 =>
        cases e
        cases hargs with
        | cons hx hq2 =>
          cases hq2; cases hx
          have hrun : (execOp ρ o).run P w = .ok (.value (.pointer none)) w := by
            rw [hex]
            simp only [resolve, hc, hmap, pure_bind, invoke, builtin, Sem.run_bind, Sem.run_pure]
            rw [Lib.run_unsafeSliceData_nil]; rfl
          rw [hrun]
          exact .val (Ren.le_refl R) h .nilPtr
      case h_2 a n cap =>
        cases e
        cases hargs with
        | cons hx hq2 =>
          cases hq2
          cases hx with
          | slice _ _ cap' ha hcp =>
            rename_i a'
            have hne : cap' ≠ 0 := by rcases hcp with ⟨_, q, _⟩ | ⟨_, q, _⟩ <;> omega
            have hrun : (execOp ρ o).run P w = .ok (.value (.pointer (some a'))) w := by
              rw [hex]
              simp only [resolve, hc, hmap, pure_bind, invoke, builtin, Sem.run_bind, Sem.run_pure]
              rw [Lib.run_unsafeSliceData_row w _ _ a' _ cap' hne]; rfl
            rw [hrun]
            exact .val (Ren.le_refl R) h (.ptr ha)
      case h_3 => cases e
    case h_12 hc =>
      split at e
      case h_2 => cases e
      case h_1 p n =>
        cases ha2 : unsafeStrD P H c.argTypes p n with
        | none => rw [ha2] at e; cases e
        | some q =>
          obtain ⟨v, H'⟩ := q
          rw [ha2] at e; cases e
          cases hargs with
          | cons hs hq => cases hq with
            | cons hx hq2 =>
              cases hq2
              obtain ⟨w', hr, hR, hv⟩ := unsafeStrD_ok (P := P) (ty := o.type) h hs hx ha2
              have hrun : (execOp ρ o).run P w = .ok (.value v) w' := by
                rw [hex]
                simp only [resolve, hc, hmap, pure_bind, invoke, builtin, Sem.run_bind, Sem.run_pure]
                rw [hr]; rfl
              rw [hrun]
              exact .val (Ren.le_refl R) hR hv
    case h_13 => cases e
theorem OptEv_ok {ev : Ev} {ρ : Operand → Value} (hev : EvR R ev ρ) {x : Option Operand} {v : Option Value} (e : OptEv ev x = some v) : OptR R v (x.map ρ) := by
  unfold OptEv at e
  split at e
  · cases e; exact .none
  · rename_i y
    cases hy : ev y with
    | none => rw [hy] at e; cases e
    | some u => rw [hy] at e; cases e; exact .some (hev _ _ hy)
theorem opD_ok (h : Rel X R H w) {ev : Ev} {ρ : Operand → Value} (hev : EvR R ev ρ) {o : Oper} {r : Res} (e : opD P H ev o = some r) :
    ResR P X R w H r ((execOp ρ o).run P w) := by
  have V : ∀ {s : Sem Value} {v v' : Value} {H' : Hp} {R' : Ren} {w' : World}, execOp ρ o = (do pure (.value (← s)) : Sem Next) → s.run P w = .ok v' w' → R.le R' → Rel X R' H' w' → VR R' v v' → ResR P X R w H (.val v H') ((execOp ρ o).run P w) := by
    intro s v v' H' R' w' hex hs hle hR hv
    rw [hex]
    simp only [Sem.run_bind, hs, Result.andThen_ok, Sem.run_pure]
    exact .val hle hR hv
  unfold opD at e
  simp only at e
  split at e
  -- move
  case h_1 x ho =>
    cases hx : ev x with
    | none => rw [hx] at e; cases e
    | some v =>
      rw [hx] at e; cases e
      have : (execOp ρ o).run P w = .ok (.value (ρ x)) w := by unfold execOp; simp only [ho]; rfl
      rw [this]
      exact .val (Ren.le_refl R) h (hev _ _ hx)
  case h_2 x ho =>
    cases hx : ev x with
    | none => rw [hx] at e; cases e
    | some v =>
      rw [hx] at e; cases e
      have : (execOp ρ o).run P w = .ok (.value (ρ x)) w := by unfold execOp; simp only [ho]; rfl
      rw [this]
      exact .val (Ren.le_refl R) h (hev _ _ hx)
  -- pick
  case h_3 c a b ho =>
    split at e
    case h_1 hc =>
      cases hx : ev a with
      | none => rw [hx] at e; cases e
      | some v =>
        rw [hx] at e; cases e
        have hcv := hev _ _ hc
        have : (execOp ρ o).run P w = .ok (.value (ρ a)) w := by
          unfold execOp; simp only [ho]
          generalize ρ c = cv at hcv
          cases hcv
          simp [asBool]
        rw [this]
        exact .val (Ren.le_refl R) h (hev _ _ hx)
    case h_2 hc =>
      cases hx : ev b with
      | none => rw [hx] at e; cases e
      | some v =>
        rw [hx] at e; cases e
        have hcv := hev _ _ hc
        have : (execOp ρ o).run P w = .ok (.value (ρ b)) w := by
          unfold execOp; simp only [ho]
          generalize ρ c = cv at hcv
          cases hcv
          simp [asBool]
        rw [this]
        exact .val (Ren.le_refl R) h (hev _ _ hx)
    case h_3 => cases e
  -- alloc
  case h_4 t ho =>
    split at e
    case h_2 => cases e
    case h_1 z hz =>
      split at e
      case isFalse => cases e
      case isTrue hf =>
        obtain ⟨R', w', hle, hR, hr, hv⟩ := newM_ok (P := P) h t (flat_refl (R := R) hf).cells
        cases e
        refine V (s := Instr.alloc t true (.tuple #[])) (by unfold execOp; simp only [ho]) ?_ hle hR hv
        simp only [Instr.alloc, Sem.run_bind, zeroD_run hz, Result.andThen_ok, newVar, hr, Sem.run_pure]
        try (have : newRow t z.cells = newRow t ⟨z.cells.toList⟩ := rfl
             rw [this, hr]; rfl)
  -- box
  case h_5 t x ho =>
    split at e
    case h_2 => cases e
    case h_1 v hx =>
      have hv0 := hev _ _ hx
      obtain ⟨R', w', hle, hR, hr, hv⟩ := newD_ok (P := P) h t hv0.cells
      cases e
      refine V (s := Instr.box t (ρ x)) (by unfold execOp; simp only [ho]) ?_ hle hR hv
      simp only [Instr.box, Sem.run_bind, newVar]
      have : newRow t (ρ x).cells = newRow t ⟨(ρ x).cells.toList⟩ := rfl
      rw [this, hr]; rfl
  -- build
  case h_6 t parts ho =>
    split at e
    case h_2 => cases e
    case h_1 l hl =>
      cases hb : buildD P t l with
      | none => rw [hb] at e; cases e
      | some v =>
        rw [hb] at e; cases e
        obtain ⟨v', hr, hv⟩ := buildD_ok (P := P) w (partsD_ok hev hl) hb
        refine V (s := Instr.build t (parts.map fun (i, x) => (i, ρ x))) (by unfold execOp; simp only [ho]) ?_ (Ren.le_refl R) h hv
        rw [← hr]
        congr 2
        apply Array.ext'; simp
  -- buildSlice
  case h_7 t len parts ho =>
    split at e
    case h_2 => cases e
    case h_1 l hl =>
      cases hb : buildSliceD P H t len l with
      | none => rw [hb] at e; cases e
      | some q =>
        obtain ⟨v, H'⟩ := q
        rw [hb] at e; cases e
        obtain ⟨R', v', w', hr, hle, hR, hv⟩ := buildSliceD_ok (P := P) h (partsD_ok hev hl) hb
        refine V (s := Instr.buildSlice t len (parts.map fun (i, x) => (i, ρ x))) (by unfold execOp; simp only [ho]) ?_ hle hR hv
        rw [← hr]
        congr 2
        apply Array.ext'; simp
  -- load
  case h_8 t a ho =>
    split at e
    case h_2 => cases e
    case h_1 v hx =>
      cases hb : loadD P H t v with
      | none => rw [hb] at e; cases e
      | some u =>
        rw [hb] at e; cases e
        obtain ⟨v', hr, hv⟩ := loadD_ok (P := P) h (hev _ _ hx) hb
        exact V (s := Instr.loadAt t (ρ a)) (by unfold execOp; simp only [ho]) hr (Ren.le_refl R) h hv
  -- store
  case h_9 t a x ho =>
    split at e
    case h_2 => cases e
    case h_1 av v ha hx =>
      cases hb : storeD P H t av v with
      | none => rw [hb] at e; cases e
      | some H' =>
        rw [hb] at e; cases e
        obtain ⟨w', hr, hR⟩ := storeD_ok (P := P) h (hev _ _ ha) (hev _ _ hx) hb
        have : (execOp ρ o).run P w = .ok .skip w' := by
          unfold execOp; simp only [ho, Sem.run_bind, hr, Result.andThen_ok, Sem.run_pure]
        rw [this]
        exact .skip (Ren.le_refl R) hR
  -- nilCheck
  case h_10 x ho =>
    split at e
    case h_1 a hx =>
      cases e
      have hv := hev _ _ hx
      have : (execOp ρ o).run P w = .ok (.value (ρ x)) w := by
        unfold execOp; simp only [ho]
        generalize ρ x = xv at hv
        cases hv; rfl
      rw [this]
      exact .val (Ren.le_refl R) h hv
    case h_2 f q1 q2 hx =>
      cases e
      have hv := hev _ _ hx
      have : (execOp ρ o).run P w = .ok (.value (ρ x)) w := by
        unfold execOp; simp only [ho]
        generalize ρ x = xv at hv
        cases hv with
        | func hf => cases hf; rfl
      rw [this]
      exact .val (Ren.le_refl R) h hv
    case h_3 => cases e
  -- binOp
  case h_11 op t x y t' ho =>
    split at e
    case h_2 => cases e
    case h_1 a b ha hb =>
      cases hq : binD P ev o op t a b with
      | none => rw [hq] at e; cases e
      | some v =>
        rw [hq] at e; cases e
        obtain ⟨hr, hv⟩ := binD_ok hev ho ha hb hq w
        rw [hr]
        exact .val (Ren.le_refl R) h hv
  -- unOp
  case h_12 op t x ho =>
    cases hq : genD P ev o with
    | none => rw [hq] at e; cases e
    | some v =>
      rw [hq] at e; cases e
      obtain ⟨hr, hv⟩ := genD_ok hev (by rw [ho]; intro _ _ q; cases q) hq w
      rw [hr]
      exact .val (Ren.le_refl R) h hv
  -- convert
  case h_13 src dst x ho =>
    split at e
    case h_2 => cases e
    case h_1 v hx =>
      split at e
      case h_1 q hq =>
        obtain ⟨u, H'⟩ := q
        cases e
        obtain ⟨R', v', w', hr, hle, hR, hv⟩ := convD_ok (P := P) h (hev _ _ hx) hq
        exact V (s := convert src dst (ρ x)) (by unfold execOp; simp only [ho]) hr hle hR hv
      case h_2 =>
        cases hq : genD P ev o with
        | none => rw [hq] at e; cases e
        | some v =>
          rw [hq] at e; cases e
          obtain ⟨hr, hv⟩ := genD_ok hev (by rw [ho]; intro _ _ q; cases q) hq w
          rw [hr]
          exact .val (Ren.le_refl R) h hv
  -- makeInterface
  case h_14 t x ho =>
    split at e
    case h_1 => cases e
    case h_3 => cases e
    case h_2 v d hni hx hu =>
      cases e
      refine V (s := Instr.makeInterface t (ρ x)) (v' := .iface t (ρ x)) (by unfold execOp; simp only [ho]) ?_ (Ren.le_refl R) h (.iface t (hev _ _ hx))
      simp only [Instr.makeInterface, Sem.run_bind, run_underlying hu, Result.andThen_ok]
      cases d <;> first | rfl | exact (hni _ (by assumption) rfl).elim | skip
  -- makeFunc
  case h_15 fn first captured ho =>
    have hm1 : first.map ρ = ⟨first.toList.map ρ⟩ := by apply Array.ext'; simp
    have hm2 : captured.map ρ = ⟨captured.toList.map ρ⟩ := by apply Array.ext'; simp
    split at e
    case h_5 => cases e
    all_goals
      rename_i h1 h2
      cases e
      refine V (s := Instr.makeFunc _ (first.map ρ) (captured.map ρ)) (v' := .func _ (first.map ρ) (captured.map ρ)) (by unfold execOp; simp only [ho]; rfl) rfl (Ren.le_refl R) h ?_
      rw [hm1, hm2]
      exact .func (by constructor) (argsD_ok hev h1) (argsD_ok hev h2)
  -- makeSlice
  case h_16 t l c ho =>
    split at e
    case h_2 => cases e
    case h_1 lv cv hl hc =>
      cases hq : makeSliceD P H t lv cv with
      | none => rw [hq] at e; cases e
      | some q =>
        obtain ⟨v, H'⟩ := q
        rw [hq] at e; cases e
        have e1 : ρ l = lv := by
          have := hev _ _ hl
          unfold makeSliceD at hq
          split at hq
          · generalize ρ l = y at this; cases this; rfl
          · cases hq
        have e2 : ρ c = cv := by
          have := hev _ _ hc
          unfold makeSliceD at hq
          split at hq
          · generalize ρ c = y at this; cases this; rfl
          · cases hq
        obtain ⟨R', v', w', hr, hle, hR, hv⟩ := makeSliceD_ok (P := P) h hq
        exact V (s := Instr.makeSlice t (ρ l) (ρ c)) (by unfold execOp; simp only [ho]) (by rw [e1, e2]; exact hr) hle hR hv
  -- slice
  case h_17 t x lo hi mx ho =>
    split at e
    case h_2 => cases e
    case h_1 xv lov hiv mxv hx hlo hhi hmx =>
      cases hq : sliceD P H t xv lov hiv mxv with
      | none => rw [hq] at e; cases e
      | some v =>
        rw [hq] at e; cases e
        obtain ⟨v', hr, hv⟩ := sliceD_ok (P := P) h (hev _ _ hx) (OptEv_ok hev hlo) (OptEv_ok hev hhi) (OptEv_ok hev hmx) hq
        exact V (s := Instr.sliceAt t (ρ x) (lo.map ρ) (hi.map ρ) (mx.map ρ)) (by unfold execOp; simp only [ho]) hr (Ren.le_refl R) h hv
  case h_18 t x f ho =>
    split at e
    case h_2 => cases e
    case h_1 xv hx =>
      cases hq : fieldAddrD P t xv f with
      | none => rw [hq] at e; cases e
      | some v =>
        rw [hq] at e; cases e
        obtain ⟨v', hr, hv⟩ := fieldAddrD_ok (P := P) w (hev _ _ hx) hq
        exact V (s := Instr.fieldAt t (ρ x) f) (by unfold execOp; simp only [ho]) hr (Ren.le_refl R) h hv
  case h_19 t x f ho =>
    split at e
    case h_2 => cases e
    case h_1 xv hx =>
      cases hq : fieldD P t xv f with
      | none => rw [hq] at e; cases e
      | some v =>
        rw [hq] at e; cases e
        obtain ⟨v', hr, hv⟩ := fieldD_ok (P := P) w (hev _ _ hx) hq
        exact V (s := Instr.field t (ρ x) f) (by unfold execOp; simp only [ho]) hr (Ren.le_refl R) h hv
  case h_20 t x i ho =>
    split at e
    case h_2 => cases e
    case h_1 xv iv hx hi =>
      cases hq : indexAddrD P t xv iv with
      | none => rw [hq] at e; cases e
      | some v =>
        rw [hq] at e; cases e
        obtain ⟨v', hr, hv⟩ := indexAddrD_ok (P := P) w (hev _ _ hx) (hev _ _ hi) hq
        exact V (s := Instr.indexAt t (ρ x) (ρ i)) (by unfold execOp; simp only [ho]) hr (Ren.le_refl R) h hv
  case h_21 t x i ho =>
    split at e
    case h_2 => cases e
    case h_1 xv iv hx hi =>
      cases hq : indexD P t xv iv with
      | none => rw [hq] at e; cases e
      | some v =>
        rw [hq] at e; cases e
        obtain ⟨v', hr, hv⟩ := indexD_ok (P := P) w (hev _ _ hx) (hev _ _ hi) hq
        exact V (s := Instr.index t (ρ x) (ρ i)) (by unfold execOp; simp only [ho]) hr (Ren.le_refl R) h hv
  -- range
  case h_22 t x ho =>
    split at e
    case h_2 => cases e
    case h_1 s hu hx =>
      cases e
      have hv := hev _ _ hx
      let i : RI := ⟨w.heap.size, 0, 1, 0, true⟩
      have hR := h.alloc (.iter s 0) (.stringIter s 0) i rfl rfl (.iter s 0 rfl h.size rfl (heap_alloc_new _ _))
      refine V (s := Instr.range t (ρ x)) (v' := .pointer (some ⟨w.heap.size, 0, none⟩)) (by unfold execOp; simp only [ho]) ?_ (Ren.le_add i (h.free _ (Nat.le_refl _))) hR (.ptr ⟨rfl, rfl, i, Ren.add_same _ _ _, rfl, rfl⟩)
      generalize ρ x = xv at hv
      cases hv
      simp [Instr.range, run_underlying hu]
  -- next
  case h_23 it ho =>
    split at e
    case h_2 => cases e
    case h_1 v hx =>
      cases hq : nextD H v with
      | none => rw [hq] at e; cases e
      | some q =>
        obtain ⟨u, H'⟩ := q
        rw [hq] at e; cases e
        obtain ⟨w', hr, hR, hv⟩ := nextD_ok (P := P) (ty := o.type) h (hev _ _ hx) hq
        exact V (s := Instr.next (ρ it) true o.type) (by unfold execOp; simp only [ho]) hr (Ren.le_refl R) hR hv
  -- typeAssert
  case h_24 x xt t ok ho =>
    split at e
    case h_2 => cases e
    case h_1 v hx =>
      cases hq : typeAssertD P v t ok with
      | none => rw [hq] at e; cases e
      | some u =>
        rw [hq] at e; cases e
        obtain ⟨v', hr, hv⟩ := typeAssertD_ok (P := P) (xt := xt) (hev _ _ hx) hq w
        exact V (s := Instr.typeAssert (ρ x) xt t ok) (by unfold execOp; simp only [ho]) hr (Ren.le_refl R) h hv
  -- extract
  case h_25 x i ho =>
    split at e
    case h_2 => cases e
    case h_1 vs hx =>
      cases hq : vs[i]? with
      | none => rw [hq] at e; cases e
      | some u =>
        rw [hq] at e; cases e
        have hv := hev _ _ hx
        generalize hX : ρ x = xv at hv
        cases hv with
        | tuple hvs =>
          obtain ⟨u', hu', hr⟩ := hvs.get _ _ hq
          refine V (s := Instr.extract (ρ x) i) (v' := u') (by unfold execOp; simp only [ho]) ?_ (Ren.le_refl R) h hr
          rw [hX]
          simp [Instr.extract, hu']
  case h_26 c ho => exact callD_ok h hev ho e
  -- defer
  case h_27 c ho =>
    split at e
    case h_2 => cases e
    case h_1 f args hc ha =>
      split at e
      case h_2 => cases e
      case h_1 g x y hf =>
        cases e
        have hv := hev _ _ hf
        generalize hF : ρ f = fv at hv
        cases hv with
        | func hfn hx hy =>
          cases hfn
          rename_i x x' y y'
          have hmap : c.args.map ρ = ⟨c.args.toList.map ρ⟩ := by apply Array.ext'; simp
          have : (execOp ρ o).run P w = .ok (.defer { target := .fn (.func g) ⟨y'⟩, args := ⟨x' ++ c.args.toList.map ρ⟩ }) w := by
            unfold execOp
            simp only [ho, resolve, hc, hF, Deferred.ofValue, pure_bind, hmap, aapp]
            rfl
          rw [this]
          exact .defer hx hy (argsD_ok hev ha)
  -- panic
  case h_28 x ho =>
    split at e
    case h_2 => cases e
    case h_1 t v hx =>
      cases e
      have hv := hev _ _ hx
      generalize hF : ρ x = fv at hv
      have : (execOp ρ o).run P w = .halt (.panic (ρ x)) w := by
        unfold execOp
        simp only [ho, hF]
        cases hv; rfl
      rw [this, hF]
      exact .panic hv
  -- makeMap
  case h_29 t ho =>
    cases e
    let i : RI := ⟨w.heap.size, 0, 1, 0, true⟩
    have hR := h.alloc (.map [] 0) (.map #[] 0) i rfl rfl (.map [] [] 0 rfl h.size (heap_alloc_new _ _) .nil)
    refine V (s := Instr.makeMap t none) (v' := .map (some w.heap.size)) (by unfold execOp; simp only [ho, Option.map_none]) ?_ (Ren.le_add i (h.free _ (Nat.le_refl _))) hR (.map _ i (Ren.add_same _ _ _))
    simp [Instr.makeMap, Sem.run_bind]
  -- lookup
  case h_30 t x i ok ho =>
    split at e
    case h_2 => cases e
    case h_1 xv iv hx hi =>
      cases hq : lookupD P H t xv iv ok with
      | none => rw [hq] at e; cases e
      | some v =>
        rw [hq] at e; cases e
        obtain ⟨v', hr, hv⟩ := lookupD_ok (P := P) h (hev _ _ hx) (hev _ _ hi) hq
        exact V (s := Instr.lookup t (ρ x) (ρ i) ok) (by unfold execOp; simp only [ho]) hr (Ren.le_refl R) h hv
  -- mapUpdate
  case h_31 t m k v ho =>
    split at e
    case h_2 => cases e
    case h_1 mv kv vv hm hk hv =>
      cases hq : mapUpdateD P H t mv kv vv with
      | none => rw [hq] at e; cases e
      | some H' =>
        rw [hq] at e; cases e
        obtain ⟨w', hr, hR⟩ := mapUpdateD_ok (P := P) h (hev _ _ hm) (hev _ _ hk) (hev _ _ hv) hq
        have : (execOp ρ o).run P w = .ok .skip w' := by
          unfold execOp
          simp only [ho, Sem.run_bind, hr, Result.andThen_ok, Sem.run_pure]
        rw [this]
        exact .skip (Ren.le_refl R) hR
  case h_32 => cases e
end Go.Det
