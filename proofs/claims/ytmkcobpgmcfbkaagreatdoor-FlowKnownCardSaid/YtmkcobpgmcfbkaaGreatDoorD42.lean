import Derived.Test.YtmkcobpgmcfbkaaGreatDoorD41
set_option linter.unusedSimpArgs false
set_option linter.unusedVariables false
namespace Go.Det
open Go Go.RowKit
structure Cod (α : Type) where
  sz : Nat
  rep : Nat → Hp → List Value → α → Prop
  len : ∀ {n : Nat} {H : Hp} {cs : List Value} {x : α}, rep n H cs x → cs.length = sz
  mono : ∀ {m n : Nat} {H H' : Hp} {cs : List Value} {x : α}, m ≤ n → Abv n H H' → rep n H cs x → rep m H' cs x
def Cod.flat {α : Type} (sz : Nat) (enc : α → List Value) (h : ∀ x, (enc x).length = sz) : Cod α :=
  { sz := sz, rep := fun _ _ cs x => cs = enc x, len := fun {_ _ _ x} e => by subst e; exact h x, mono := fun _ _ e => e }
abbrev bs (l : List UInt8) : ByteArray := ⟨⟨l⟩⟩
section codes
variable {α : Type} {c : Cod α} {m n : Nat} {H H' : Hp}
def RepL (c : Cod α) (n : Nat) (H : Hp) : List Value → List α → Prop
  | cs, [] => cs = []
  | cs, x :: l => ∃ c1 c2, cs = c1 ++ c2 ∧ c.rep n H c1 x ∧ RepL c n H c2 l
theorem RepL.mono (hm : m ≤ n) (h : Abv n H H') : ∀ {l : List α} {cs : List Value}, RepL c n H cs l → RepL c m H' cs l
  | [], _, e => e
  | _ :: _, _, ⟨c1, c2, e, h1, h2⟩ => ⟨c1, c2, e, c.mono hm h h1, RepL.mono hm h h2⟩
theorem RepL.len : ∀ {l : List α} {cs : List Value}, RepL c n H cs l → cs.length = l.length * c.sz
  | [], _, e => by simp only [RepL] at e; subst e; simp
  | x :: l, _, ⟨c1, c2, e, h1, h2⟩ => by subst e; rw [List.length_append, c.len h1, RepL.len h2, List.length_cons, Nat.succ_mul]; omega
theorem RepL.get : ∀ {l : List α} {cs : List Value}, RepL c n H cs l → ∀ {i : Nat} {x : α}, l[i]? = some x → ∃ c1 p q, cs = p ++ c1 ++ q ∧ p.length = i * c.sz ∧ c.rep n H c1 x
  | [], _, _, i, x, h => by simp at h
  | y :: l, _, ⟨c1, c2, e, h1, h2⟩, 0, x, h => by simp at h; subst h; exact ⟨c1, [], c2, by simpa using e, by simp, h1⟩
  | y :: l, _, ⟨c1, c2, e, h1, h2⟩, i + 1, x, h => by
    obtain ⟨d, p, q, e2, g1, g2⟩ := RepL.get h2 (by simpa using h)
    exact ⟨d, c1 ++ p, q, by rw [e, e2]; simp, by rw [List.length_append, c.len h1, g1, Nat.succ_mul]; omega, g2⟩
theorem RepL.append : ∀ {l l' : List α} {cs cs' : List Value}, RepL c n H cs l → RepL c n H cs' l' → RepL c n H (cs ++ cs') (l ++ l')
  | [], _, _, _, e, h => by simp only [RepL] at e; subst e; exact h
  | _ :: _, _, _, _, ⟨c1, c2, e, h1, h2⟩, h => ⟨c1, _, by rw [e, List.append_assoc], h1, RepL.append h2 h⟩
theorem RepL.one {x : α} {cs : List Value} (h : c.rep n H cs x) : RepL c n H cs [x] := ⟨cs, [], by simp, h, rfl⟩
def At (n : Nat) (H : Hp) (b o : Nat) (cs : List Value) : Prop := n ≤ b ∧ b < H.next ∧ ∃ m all, H.get b = some (.cells m all) ∧ o + cs.length ≤ all.length ∧ (all.drop o).take cs.length = cs
theorem At.mono {b o : Nat} {cs : List Value} (hm : m ≤ n) (h : Abv n H H') (k : At n H b o cs) : At m H' b o cs :=
  ⟨Nat.le_trans hm k.1, Nat.lt_of_lt_of_le k.2.1 h.next, let ⟨q, all, g1, g2⟩ := k.2.2; ⟨q, all, h.same b _ _ k.1 k.2.1 g1, g2⟩⟩
theorem At.part {b o : Nat} {p cs q : List Value} (k : At n H b o (p ++ cs ++ q)) : At n H b (o + p.length) cs := by
  obtain ⟨h1, h2, m, all, g1, g2, g3⟩ := k
  refine ⟨h1, h2, m, all, g1, by simp only [List.length_append] at g2; omega, ?_⟩
  have := congrArg (fun l => (l.drop p.length).take cs.length) g3
  simp only [List.append_assoc, List.drop_left, List.take_left] at this
  rw [List.drop_take, List.drop_drop, List.take_take] at this
  refine Eq.trans ?_ this
  congr 1
  simp only [List.length_append]; omega
def CapK (n : Nat) (H : Hp) (sz b len cap : Nat) : Prop :=
  (len ≤ cap ∧ cap < LOOSE) ∨ (cap = LOOSE ∧ n ≤ b ∧ b < H.next ∧ ∃ m all, H.get b = some (.cells m all) ∧ (m = .old ∨ ∃ mt, m = .more sz mt)) ∨ (cap = EMPTY ∧ len = 0)
theorem CapK.mono {sz b len cap : Nat} (hm : m ≤ n) (h : Abv n H H') (k : CapK n H sz b len cap) : CapK m H' sz b len cap := by
  rcases k with k | ⟨k1, k2, k3, q, all, k4, k5⟩ | k
  · exact .inl k
  · exact .inr (.inl ⟨k1, Nat.le_trans hm k2, Nat.lt_of_lt_of_le k3 h.next, q, all, h.same b _ _ k2 k3 k4, k5⟩)
  · exact .inr (.inr k)
def SlF (n : Nat) (H : Hp) (c : Cod α) (a : Option Addr) (cap : Nat) (l : List α) : Prop :=
  (a = none ∧ cap = 0 ∧ l = []) ∨ ∃ b o cs, a = some ⟨b, o, none⟩ ∧ RepL c n H cs l ∧ (l = [] ∨ At n H b o cs) ∧ CapK n H c.sz b l.length cap
theorem SlF.mono {a : Option Addr} {cap : Nat} {l : List α} (hm : m ≤ n) (h : Abv n H H') (k : SlF n H c a cap l) : SlF m H' c a cap l := by
  rcases k with k | ⟨b, o, cs, e, h1, h2, h3⟩
  · exact .inl k
  · exact .inr ⟨b, o, cs, e, h1.mono hm h, h2.imp id (At.mono hm h), h3.mono hm h⟩
theorem SlF.nil : SlF n H c none 0 [] := .inl ⟨rfl, rfl, rfl⟩
def rd (l : List α) (i : Int) : Option α := if 0 ≤ i then l[i.toNat]? else none
theorem rd_some {l : List α} {i : Int} {x : α} (h : rd l i = some x) : 0 ≤ i ∧ i.toNat < l.length ∧ l[i.toNat]? = some x := by
  unfold rd at h
  split at h
  · rename_i q; exact ⟨q, lt_of_get h, h⟩
  · cases h
theorem SlF.at {P : Program} {a : Option Addr} {cap : Nat} {l : List α} (h : SlF n H c a cap l) {t e : TypeId} {i : Int} {x : α} (hi : rd l i = some x) (ht : P.underlying t = some (.slice e)) (hs : sizeD P e = some c.sz) :
    ∃ b o cs, (∀ k, indexAddrD P t (.slice a l.length cap) (.int k i) = some (.pointer (some ⟨b, o, none⟩))) ∧ c.rep n H cs x ∧ At n H b o cs := by
  obtain ⟨h1, h2, h3⟩ := rd_some hi
  rcases h with ⟨_, _, rfl⟩ | ⟨b, o, cs, rfl, g1, rfl | g2, _⟩
  · simp at h2
  · simp at h2
  · obtain ⟨c1, p, q, e1, e2, e3⟩ := g1.get h3
    subst e1
    refine ⟨b, o + p.length, c1, fun k => ?_, e3, g2.part⟩
    simp only [indexAddrD, ht, hs]
    rw [if_pos ⟨h1, by omega⟩, e2]
theorem At.load {P : Program} {b o d : Nat} {cs : List Value} {t : TypeId} {v : Value} (h : At n H b o cs) (ht : isAggD P t = some false) (hv : cs[d]? = some v) : loadD P H t (.pointer (some ⟨b, o + d, none⟩)) = some v := by
  obtain ⟨_, _, m, all, g1, g2, g3⟩ := h
  simp only [loadD, g1, ht]
  have hd := lt_of_get hv
  rw [← g3, List.getElem?_take_of_lt hd, List.getElem?_drop] at hv
  exact hv
theorem At.loadN {P : Program} {b o d s : Nat} {cs cs' : List Value} {t : TypeId} (h : At n H b o cs) (ht : isAggD P t = some true) (hs : sizeD P t = some s) (hd : Nat.ble (d + s) cs.length = true) (hv : (cs.drop d).take s = cs') : loadD P H t (.pointer (some ⟨b, o + d, none⟩)) = some (.agg ⟨cs'⟩) := by
  obtain ⟨_, _, m, all, g1, g2, g3⟩ := h
  have hd := Nat.le_of_ble_eq_true hd
  simp only [loadD, g1, ht, hs]
  rw [if_pos (by omega)]
  subst hv
  congr 3
  rw [← List.drop_drop]
  have e : cs.drop d = ((all.drop o).drop d).take (cs.length - d) := by
    have := congrArg (fun l => l.drop d) g3
    simp only [List.drop_take] at this
    exact this.symm
  rw [e, List.take_take, Nat.min_eq_left (by omega)]
theorem SlF.src {a : Option Addr} {cap : Nat} {l : List α} (h : SlF n H c a cap l) : ∃ cs, srcD H c.sz (.slice a l.length cap) l.length = some cs ∧ RepL c n H cs l := by
  rcases h with ⟨rfl, rfl, rfl⟩ | ⟨b, o, cs, rfl, g1, rfl | g2, _⟩
  · exact ⟨[], rfl, rfl⟩
  · exact ⟨[], by simp [srcD], rfl⟩
  · obtain ⟨_, _, m, all, k1, k2, k3⟩ := g2
    by_cases h0 : l.length = 0
    · have : l = [] := List.length_eq_zero_iff.1 h0
      subst this
      exact ⟨[], by simp [srcD], rfl⟩
    · refine ⟨cs, ?_, g1⟩
      unfold srcD
      simp only
      rw [if_neg h0]
      simp only [k1]
      rw [← g1.len, if_pos ⟨k2, Nat.le_refl _⟩, k3]
def encL (enc : α → List Value) (l : List α) : List Value := l.flatMap enc
theorem repL_flat {sz : Nat} {enc : α → List Value} {he : ∀ x, (enc x).length = sz} : ∀ {l : List α} {cs : List Value}, RepL (.flat sz enc he) n H cs l ↔ cs = encL enc l
  | [], cs => by simp [RepL, encL]
  | x :: l, cs => by
    simp only [RepL, encL, List.flatMap_cons]
    constructor
    · rintro ⟨c1, c2, e, h1, h2⟩
      rw [repL_flat] at h2
      rw [e, h2, h1]; rfl
    · intro e
      exact ⟨enc x, encL enc l, e, rfl, repL_flat.2 rfl⟩
theorem SlF.sl {sz : Nat} {enc : α → List Value} {he : ∀ x, (enc x).length = sz} {a : Option Addr} {cap : Nat} {l : List α} (h : SlF n H (.flat sz enc he) a cap l) : Sl H sz a l.length cap (encL enc l) := by
  rcases h with ⟨rfl, rfl, rfl⟩ | ⟨b, o, cs, rfl, g1, g2, _⟩
  · exact ⟨by simp [encL], .inl ⟨rfl, rfl, rfl⟩⟩
  · have hl := g1.len
    rw [repL_flat] at g1
    subst g1
    refine ⟨hl, .inr ⟨b, o, rfl, ?_⟩⟩
    rcases g2 with rfl | ⟨_, k2, m, all, k3, k4, k5⟩
    · exact .inl rfl
    · refine .inr ⟨m, all, k3, k2, ?_, ?_⟩
      · rw [show l.length * sz = (encL enc l).length from hl.symm]; exact k4
      · rw [show l.length * sz = (encL enc l).length from hl.symm]; exact k5
end codes
end Go.Det
