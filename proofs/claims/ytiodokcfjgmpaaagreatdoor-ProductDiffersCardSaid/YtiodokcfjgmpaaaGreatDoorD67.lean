import Derived.Test.YtiodokcfjgmpaaaGreatDoorD65
set_option linter.unusedSimpArgs false
set_option linter.unusedVariables false
namespace Go.Det
open Go Go.RowKit
def bytesV (l : List UInt8) : List Value := l.map fun u => .int .u8 u.toNat
def slB (ad : Option Addr) : List UInt8 → Value
  | [] => .slice none 0 0
  | x :: l => .slice ad (x :: l).length LOOSE
theorem slB_ne {ad : Option Addr} {L : List UInt8} (h : L ≠ []) : slB ad L = .slice ad L.length LOOSE := by
  cases L with
  | nil => exact absurd rfl h
  | cons x l => rfl
structure Bh (H : Hp) (T U b : Nat) (ad : Option Addr) (L : List UInt8) : Prop where
  self : ∃ pa, (pa = none ∨ pa = some ⟨b, 0, none⟩) ∧ H.get b = some (.cells (.var T) [.pointer pa, slB ad L])
  row : L ≠ [] → ∃ d, ad = some ⟨d, 0, none⟩ ∧ d < H.next ∧ d ≠ b ∧ H.get d = some (.cells (.more 1 (some U)) (bytesV L))
  lt : b < H.next
structure Bx (T U : Nat) (H H' : Hp) (b : Nat) (ad ad' : Option Addr) (L L' : List UInt8) : Prop where
  next : H.next ≤ H'.next
  same : ∀ c, c < H.next → c ≠ b → (L ≠ [] → ad.map (·.block) ≠ some c) → H'.get c = H.get c
  bh : Bh H' T U b ad' L'
  new : L' ≠ [] → (L ≠ [] ∧ ad' = ad) ∨ ∃ d, ad' = some ⟨d, 0, none⟩ ∧ H.next ≤ d
def bldS (T b : Nat) (ad : Option Addr) (L : List UInt8) : OwnE := ⟨some ⟨b, 0, none⟩, 2 * T + 1, 0, [slB ad L]⟩
def bldB (U : Nat) (ad : Option Addr) : List UInt8 → OwnE
  | [] => ⟨none, 0, 0, []⟩
  | x :: l => ⟨ad, 2 * U, 0, bytesV (x :: l)⟩
theorem bldB_ne {U : Nat} {ad : Option Addr} {L : List UInt8} (h : L ≠ []) : bldB U ad L = ⟨ad, 2 * U, 0, bytesV L⟩ := by
  cases L with
  | nil => exact absurd rfl h
  | cons x l => rfl
theorem encL_ne {L : List UInt8} (h : L ≠ []) : bytesV L ≠ [] := by simpa [bytesV] using h
theorem bldS.ok {lo T b : Nat} {ad : Option Addr} {L : List UInt8} {H : Hp} (h : (bldS T b ad L).ok lo H) : lo ≤ b ∧ b < H.next ∧ ∃ pa, (pa = none ∨ pa = some ⟨b, 0, none⟩) ∧ H.get b = some (.cells (.var T) [.pointer pa, slB ad L]) := by
  rcases h with ⟨h, _, _⟩ | ⟨c, h, h1, h2, h3⟩
  · cases h
  · cases h
    refine ⟨h1, h2, ?_⟩
    rcases h3 with ⟨q, _⟩ | ⟨_, q, _⟩ | ⟨_, ⟨U, q, _⟩ | ⟨T', s, pa, q1, q2, q3, q4⟩⟩
    · have hL : LOOSE = 18446744073709551616 := rfl
      simp only [bldS] at q; omega
    · simp [bldS] at q
    · simp only [bldS] at q; omega
    · simp only [bldS] at q1 q2
      have : T' = T := by omega
      subst this
      cases q2
      exact ⟨pa, q3, q4⟩
theorem bldB.ok {lo U : Nat} {ad : Option Addr} {L : List UInt8} {H : Hp} (hU : U < 1000000) (h : (bldB U ad L).ok lo H) (hL : L ≠ []) : ∃ d, ad = some ⟨d, 0, none⟩ ∧ lo ≤ d ∧ d < H.next ∧ H.get d = some (.cells (.more 1 (some U)) (bytesV L)) := by
  rw [bldB_ne hL] at h
  rcases h with ⟨_, _, h⟩ | ⟨c, h, h1, h2, h3⟩
  · exact absurd h (encL_ne hL)
  · refine ⟨c, h, h1, h2, ?_⟩
    rcases h3 with ⟨q, _⟩ | ⟨_, q, _⟩ | ⟨_, ⟨U', q1, q2, q3⟩ | ⟨T', s, pa, q1, q2, q3, q4⟩⟩
    · have hL : LOOSE = 18446744073709551616 := rfl
      simp only at q; omega
    · simp only [Nat.mul_zero] at q
      exact absurd (List.length_eq_zero_iff.1 q.symm) (encL_ne hL)
    · simp only at q1 q3
      have : U' = U := by omega
      subst this; exact q3
    · simp only at q1; omega
section frames
variable {B0 B : Hp} {own : List OwnE} {loc : List (List Value)} {ids : Nat → Nat} {H H' : Hp} {T U b j : Nat} {ad ad' : Option Addr} {L L' : List UInt8}
theorem WF.bh (fr : WF B0 B own loc ids H) (hU : U < 1000000) (h1 : own[j]? = some (bldS T b ad L)) (h2 : own[j + 1]? = some (bldB U ad L)) : Bh H T U b ad L := by
  obtain ⟨g1, g2, g3⟩ := bldS.ok (fr.mine j _ h1)
  refine ⟨g3, fun hL => ?_, g2⟩
  obtain ⟨d, k1, k2, k3, k4⟩ := bldB.ok hU (fr.mine (j + 1) _ h2) hL
  refine ⟨d, k1, k3, fun q => ?_, k4⟩
  have := fr.mineI j (j + 1) _ _ b h1 h2 (by simp [bldS, OwnE.blk]) (by rw [bldB_ne hL]; simp [OwnE.blk, k1, q])
  omega
end frames
section rules
variable {P : Program} {Q : Ex → SS → Prop} {n : NN} {B0 B : Hp} {own : List OwnE} {k k' : KK} {x x' x'' : VS} (N : Nat)
end rules
section rules
variable {P : Program} {Q : Ex → SS → Prop} {n : NN} {B0 B : Hp} {own : List OwnE} {k : KK} {a : Array Oper} {fl : Bool}
end rules
theorem opD_convH {P : Program} {H H' : Hp} {ev : Ev} {o : Oper} {src dst : TypeId} {x : Operand} {v r : Value} (ho : o.op = .convert src dst x) (hx : ev x = some v) (h : convD P H src dst v = some (r, H')) : opD P H ev o = some (.val r H') := by
  unfold opD
  simp only [ho, hx, h]
def ne8 (s : List UInt8) : Option (List Int) := if s = [] then none else some (s.map fun u => ((u.toNat : Nat) : Int))
section rules
variable {P : Program} {Q : Ex → SS → Prop} {n : NN} {B0 B : Hp} {own : List OwnE} {k k' : KK} {x x' x'' : VS} (N : Nat)
theorem WJ.cb {a : Array Oper} {m i : Nat} {o : Oper} {l : VEnv} {loc : List (List Value)} {cl : Bool} {kB src dst e : Nat} {px : Operand} {s : List UInt8} {L : List Int} (hs : vSym P n N k x = .hard a m i k' ⟨l, loc, cl, kB⟩) (ho : a[i]? = some o) (hg : gdV a l o = some true) (hd : notDefer o.op = true)
    (hop : o.op = .convert src dst px) (hpx : evV P l px = some (.v (.string (Det.bs s)))) (h1 : P.underlying src = some .string) (h2 : P.underlying dst = some (.slice e)) (h3 : P.underlying e = some (.int .u8)) (hL : ne8 s = some L)
    (hk : ∀ b, ∃ x'', putV ⟨l, loc, true, 0⟩ n o.dst (.v (.slice (some ⟨b, 0, none⟩) L.length LOOSE)) = some x'' ∧ WJ P n B0 B (own ++ [⟨some ⟨b, 0, none⟩, LOOSE, 1, encL (kE .u8) L⟩]) (.ops a m (i + 1) :: k') Q x'') : WJ P n B0 B own k Q x := by
  unfold ne8 at hL
  split at hL
  · cases hL
  rename_i hne
  cases hL
  have hcs : (Det.bs s).data.toList.map (fun b : UInt8 => Value.int .u8 ((b.toNat : Nat) : Int)) = encL (kE .u8) (s.map fun u => ((u.toNat : Nat) : Int)) := by
    rw [encL_kE, List.map_map]; rfl
  refine WJ.sn (R := fun v e' => ∃ b, v = .slice (some ⟨b, 0, none⟩) (s.map fun u => ((u.toNat : Nat) : Int)).length LOOSE ∧ e' = ⟨some ⟨b, 0, none⟩, LOOSE, 1, encL (kE .u8) (s.map fun u => ((u.toNat : Nat) : Int))⟩) N hs ho hg hd (fun ids H fr => ?_) ?_
  · refine ⟨_, ⟨some ⟨H.next, 0, none⟩, LOOSE, 1, encL (kE .u8) (s.map fun u => ((u.toNat : Nat) : Int))⟩, _, opD_convH (v := .string (Det.bs s)) hop (show evS P (VS.ss ⟨l, loc, cl, kB⟩ ids n H) px = some (.string (Det.bs s)) from evV_eq P ⟨l, loc, cl, kB⟩ ids n H hpx) (show convD P H src dst (.string (Det.bs s)) = some (.slice (some ⟨H.next, 0, none⟩) (s.map fun u => ((u.toNat : Nat) : Int)).length LOOSE, H.alloc (.cells (.more 1) (encL (kE .u8) (s.map fun u => ((u.toNat : Nat) : Int))))) from ?_), fr.addOwn (Ext.alloc (Ext.refl H) _) (.inr ⟨H.next, rfl, fr.ext0.next, by rw [Hp.next_alloc]; omega, .inl ⟨rfl, ?_, none, by rw [Hp.get_alloc, if_pos rfl]⟩⟩) (fun c hc => by cases hc; exact Nat.le_refl _), _, rfl, rfl⟩
    · simp only [convD, h1, h2, h3]
      rw [hcs, List.length_map]; rfl
    · rw [encL_kE]; simpa using hne
  · rintro v e' ⟨b, rfl, rfl⟩
    exact hk b
end rules
section ops
variable {P : Program} {H H' H1 : Hp} {T U b : Nat} {ad ad' : Option Addr} {L L' s : List UInt8}
theorem slB_cells : (slB ad L).cells = #[slB ad L] := by cases L <;> rfl
theorem ldB {t d : Nat} {pa : Option Addr} {v : Value} (hg : H.get b = some (.cells (.var T) [.pointer pa, slB ad L])) (hl : b < H.next) (ht : isAggD P t = some false) (hv : [Value.pointer pa, slB ad L][d]? = some v) : loadD P H t (.pointer (some ⟨b, d, none⟩)) = some v := by
  have : At 0 H b 0 [.pointer pa, slB ad L] := ⟨Nat.zero_le _, hl, _, _, hg, by simp, by simp⟩
  have := this.load (P := P) ht hv
  rw [Nat.zero_add] at this; exact this
theorem bytesV_append : bytesV (L ++ s) = bytesV L ++ bytesV s := by simp [bytesV]
theorem bytesV_length : (bytesV L).length = L.length := by simp [bytesV]
theorem bytesV_one : ((bytesV L).all fun v => v.oneCell') = true := by simp [bytesV, Value.oneCell']
theorem Bh.app {c : Call} {t : Nat} {sv : Value} (h : Bh H T U b ad L) (E : Elem P c t U 1 1) (hU : tyU P U = some U) (hl : lenD sv = some s.length) (hs : srcD H 1 sv s.length = some (bytesV s)) (hb : L.length + s.length ≤ 140737488355328) :
    ∃ ad' H', appendD P H c.argTypes (slB ad L) sv = some (slB ad' (L ++ s), H') ∧ H.next ≤ H'.next ∧ (∀ c, c < H.next → (L ≠ [] → ad.map (·.block) ≠ some c) → H'.get c = H.get c) ∧
      (L ++ s ≠ [] → ∃ d, ad' = some ⟨d, 0, none⟩ ∧ d < H'.next ∧ d ≠ b ∧ H'.get d = some (.cells (.more 1 (some U)) (bytesV (L ++ s)))) ∧ (L ++ s ≠ [] → (L ≠ [] ∧ ad' = ad) ∨ ∃ d, ad' = some ⟨d, 0, none⟩ ∧ H.next ≤ d) := by
  by_cases h0 : s = []
  · subst h0
    refine ⟨ad, H, ?_, Nat.le_refl _, fun _ _ _ => rfl, fun q => by rw [List.append_nil] at q ⊢; exact h.row q, fun q => .inl ⟨by rw [List.append_nil] at q; exact q, rfl⟩⟩
    rw [List.append_nil]
    obtain ⟨u, d, hu, hd, hk⟩ := E.a1
    obtain ⟨z, hz, hzs⟩ := E.zero
    unfold appendD
    simp only [E.a0, hu, E.ut, hd]
    cases d <;> first | exact absurd rfl (hk _) | skip
    all_goals
      simp only [E.size, E.byt, hz, hl]
      rw [if_pos ⟨Nat.zero_lt_one, hzs⟩]
      simp only [hs]
      cases hL : L with
      | nil => rfl
      | cons x l =>
        obtain ⟨d, k1, k2, k3, k4⟩ := h.row (by rw [hL]; simp)
        rw [k1]
        simp only [slB, List.length_nil, if_true]
        rw [if_pos (by have : LOOSE = 18446744073709551616 := rfl; rw [hL] at hb; simp only [List.length_cons, List.length_nil] at hb ⊢; omega)]
  · have hs0 : 0 < s.length := List.length_pos_iff.2 h0
    by_cases hL : L = []
    · subst hL
      refine ⟨_, _, (by
        rw [List.nil_append, slB_ne h0]
        exact append_nil E hl hs hs0 (by simpa using hb) (by simpa using hb)), Nat.le_succ _, fun c hc _ => by rw [Hp.get_alloc, if_neg (by omega)], fun _ => ⟨_, rfl, by rw [Hp.next_alloc]; exact Nat.lt_succ_self _, fun q => by have := h.lt; omega, ?_⟩, fun _ => .inr ⟨_, rfl, Nat.le_refl _⟩⟩
      rw [Hp.get_alloc, if_pos rfl, hU]; rfl
    · obtain ⟨d, k1, k2, k3, k4⟩ := h.row hL
      have hne : L ++ s ≠ [] := by simp [hL]
      subst k1
      have ha := append_more (o := 0) E hl hs hs0 k4 (List.length_pos_iff.2 hL) (by simpa using hb) hb (by rw [bytesV_length]; omega) bytesV_one
      rw [hU] at ha
      refine ⟨some ⟨H.next, 0, none⟩, _, (by rw [slB_ne hL, slB_ne hne, List.length_append]; exact ha), ?_, fun c hc hcd => ?_, fun _ => ⟨_, rfl, ?_, fun q => absurd h.lt (by have q : H.next = b := q; omega), ?_⟩, fun _ => .inr ⟨_, rfl, Nat.le_refl _⟩⟩
      · rw [Hp.next_alloc]; exact Nat.le_succ _
      · rw [Hp.get_alloc, if_neg (by show c ≠ H.next; omega), Hp.get_kill, if_neg (fun q => hcd hL (by simp [q]))]
      · rw [Hp.next_alloc]; exact Nat.lt_succ_self _
      · rw [Hp.get_alloc, if_pos (show H.next = (H.kill d).next from rfl)]
        simp only [List.drop_zero, bytesV_append, tyJ, and_self, if_true]
theorem Bh.put {pa : Option Addr} (h : Bh H T U b ad L) (hg : H'.get b = some (.cells (.var T) [.pointer pa, slB ad L])) (hpa : pa = none ∨ pa = some ⟨b, 0, none⟩) (hn : H.next ≤ H'.next) (hs : ∀ c, c < H.next → (L ≠ [] → ad.map (·.block) ≠ some c) → H'.get c = H.get c)
    (hr : L' ≠ [] → ∃ d, ad' = some ⟨d, 0, none⟩ ∧ d < H'.next ∧ d ≠ b ∧ H'.get d = some (.cells (.more 1 (some U)) (bytesV L'))) (hnew : L' ≠ [] → (L ≠ [] ∧ ad' = ad) ∨ ∃ d, ad' = some ⟨d, 0, none⟩ ∧ H.next ≤ d) :
    Bx T U H (H'.put b (.cells (.var T) (wr [.pointer pa, slB ad L] 1 (slB ad' L').cells.toList))) b ad ad' L L' := by
  have hw : wr [.pointer pa, slB ad L] 1 (slB ad' L').cells.toList = [.pointer pa, slB ad' L'] := by rw [slB_cells]; rfl
  rw [hw]
  refine ⟨hn, fun c hc hcb hcd => by rw [Hp.get_put, if_neg hcb]; exact hs c hc hcd, ⟨⟨pa, hpa, by rw [Hp.get_put, if_pos rfl]⟩, fun q => ?_, Nat.lt_of_lt_of_le h.lt hn⟩, hnew⟩
  obtain ⟨d, k1, k2, k3, k4⟩ := hr q
  exact ⟨d, k1, k2, k3, by rw [Hp.get_put, if_neg k3]; exact k4⟩
theorem Bx.pre (x : Bx T U H1 H' b ad ad' L L') (hn : H.next ≤ H1.next) (hs : ∀ c, c < H.next → c ≠ b → (L ≠ [] → ad.map (·.block) ≠ some c) → H1.get c = H.get c) : Bx T U H H' b ad ad' L L' :=
  ⟨Nat.le_trans hn x.next, fun c hc hcb hcd => (x.same c (Nat.lt_of_lt_of_le hc hn) hcb hcd).trans (hs c hc hcb hcd), x.bh, fun q => (x.new q).imp id fun ⟨d, k1, k2⟩ => ⟨d, k1, Nat.le_trans hn k2⟩⟩
theorem Bh.apart (h : Bh H T U b ad L) : L ≠ [] → ad.map (·.block) ≠ some b := by
  intro q r
  obtain ⟨d, k1, _, k3, _⟩ := h.row q
  rw [k1] at r
  simp at r
  exact k3 r
theorem Bh.alloc (h : Bh H T U b ad L) (x : Blk) : Bh (H.alloc x) T U b ad L := by
  obtain ⟨⟨pa, k1, k2⟩, hr, hl⟩ := h
  refine ⟨⟨pa, k1, by rw [Hp.get_alloc, if_neg (by omega)]; exact k2⟩, fun q => ?_, by rw [Hp.next_alloc]; omega⟩
  obtain ⟨d, g1, g2, g3, g4⟩ := hr q
  exact ⟨d, g1, by rw [Hp.next_alloc]; omega, g3, by rw [Hp.get_alloc, if_neg (by omega)]; exact g4⟩
end ops
section jd
variable {P : Program} {a : Array Oper} {s s0 s'' : SS} {m i : Nat} {Q : SS → Prop}
theorem JD.hd {o : Oper} {v : Value} {H' : Hp} (ho : a[i]? = some o) (hg : gdS a s o = some true) (hd : notDefer o.op = true) (he : opD P s.H (evS P s) o = some (.val v H')) (hp : putS s o.dst v H' = some s'') (h : JD P a false s0 m (i + 1) Q s'') : JD P a false s0 (m + 1) i Q s :=
  JD.val (by unfold doOp; simp only [ho, hg, hd, he, hp]) side_false h
end jd
end Go.Det
