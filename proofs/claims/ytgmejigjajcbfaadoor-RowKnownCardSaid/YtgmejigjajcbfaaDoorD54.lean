import Derived.Test.YtgmejigjajcbfaaDoorD53
set_option linter.unusedSimpArgs false
set_option linter.unusedVariables false
namespace Go.Det
open Go Go.RowKit

/-! ## 42. Strings, rune by rune -/
def Hp.with_ (B : Hp) (b n : Nat) (x : Blk) : Hp := { t := B.t.set b (some x), next := n, lo := B.lo }
theorem Hp.get_with (B : Hp) (b n : Nat) (x : Blk) (c : Nat) : (B.with_ b n x).get c = if c = b then some x else B.get c := by
  simp only [Hp.get, Hp.with_, T.get_set]
section frames
variable {B0 B : Hp} {own : List OwnE} {loc : List (List Value)} {ids : Nat → Nat} {H : Hp}
theorem WF.none_ (fr : WF B0 B own loc ids H) : B.get H.next = none := by
  cases h : B.get H.next with
  | none => rfl
  | some x => have := fr.trim _ _ h; have := fr.nextB; omega
theorem WF.newB (fr : WF B0 B own loc ids H) (x : Blk) : WF B0 (B.with_ H.next (H.next + 1) x) own loc ids (H.alloc x) := by
  have hB := fr.none_
  have hne : ∀ c, c < H.next → (B.with_ H.next (H.next + 1) x).get c = B.get c := fun c h => by rw [Hp.get_with, if_neg (by omega)]
  refine ⟨fr.ext0.alloc _, Nat.le_refl _, ?_, ?_, ?_, ?_, fr.inj, ?_, ?_, fr.mineI⟩
  · intro b y h
    show b < H.next + 1
    rw [Hp.get_with] at h
    split at h
    · omega
    · have := fr.trim b y h; have := fr.nextB; omega
  · intro b y h
    rw [Hp.get_with] at h
    rw [Hp.get_alloc]
    split at h
    · rename_i q; rw [if_pos q]; exact h
    · rename_i q; rw [if_neg q]; exact fr.sub b y h
  · intro k c h
    obtain ⟨h1, h2, h3⟩ := fr.here k c h
    exact ⟨by rw [Hp.get_alloc, if_neg (by omega)]; exact h1, by rw [Hp.next_alloc]; omega, h3⟩
  · intro k hk
    rw [hne _ (fr.ids_lt hk)]; exact fr.apart k hk
  · intro j e h
    have he := fr.mine j e h
    exact he.keep (Nat.le_refl _) (Nat.le_succ _) fun b x hb hx => by
      have := (he.blk_lt hb).2
      rw [Hp.get_alloc, if_neg (by omega)]; exact hx
  · intro j e b h hb
    have := ((fr.mine j e h).blk_lt hb).2
    rw [hne b this]; exact fr.mineB j e b h hb
theorem WF.putB (fr : WF B0 B own loc ids H) {b : Nat} {x y : Blk} (hb : B.get b = some x) (h0 : B0.next ≤ b) : WF B0 (B.with_ b B.next y) own loc ids (H.put b y) := by
  refine ⟨fr.ext0.put _ h0, fr.nextB, ?_, ?_, ?_, ?_, fr.inj, ?_, ?_, fr.mineI⟩
  · intro c z h
    rw [Hp.get_with] at h
    split at h
    · rename_i q; subst q; exact fr.trim _ _ hb
    · exact fr.trim c z h
  · intro c z h
    rw [Hp.get_with] at h
    rw [Hp.get_put]
    split at h
    · rename_i q; rw [if_pos q]; exact h
    · rename_i q; rw [if_neg q]; exact fr.sub c z h
  · intro k c h
    obtain ⟨h1, h2, h3⟩ := fr.here k c h
    exact ⟨by rw [Hp.get_put, if_neg (fun q => by have := fr.apart k (lt_of_get h); rw [q, hb] at this; cases this)]; exact h1, h2, h3⟩
  · intro k hk
    rw [Hp.get_with, if_neg (fun q => by have := fr.apart k hk; rw [q, hb] at this; cases this)]; exact fr.apart k hk
  · intro j e h
    have he := fr.mine j e h
    exact he.keep (Nat.le_refl _) (Nat.le_refl _) fun c z hc hz => by
      rw [Hp.get_put, if_neg (fun q => by have := (fr.mineB j e c h hc).1; rw [q, hb] at this; cases this)]; exact hz
  · intro j e c h hc
    rw [Hp.get_with, if_neg (fun q => by have := (fr.mineB j e c h hc).1; rw [q, hb] at this; cases this)]; exact fr.mineB j e c h hc
end frames
def decL (s : List UInt8) (p : Nat) : Int := ((Utf8.decode (bs s) p).1 : Nat)
def decN (s : List UInt8) (p : Nat) : Nat := (Utf8.decode (bs s) p).2
section rules
variable {P : Program} {Q : Ex → SS → Prop} {n : NN} {B0 B : Hp} {own : List OwnE} (N : Nat) {k k' : KK} {x x' x1 x2 : VS}
/-- The walk over a string begins. -/
theorem WJ.rg {a : Array Oper} {m i : Nat} {o : Oper} {t : TypeId} {y : Operand} {s : List UInt8} (hs : vSym P n N k x = .hard a m i k' x') (ho : a[i]? = some o) (hg : gdV a x'.l o = some true) (hd : notDefer o.op = true) (hop : o.op = .range t y)
    (hu : P.underlying t = some .string) (hy : evV P x'.l y = some (.v (.string (Det.bs s))))
    (h : ∀ b B', Abv 0 B B' ∧ Itv B B' → B0.next ≤ b → B'.get b = some (.iter (Det.bs s) 0) → ∃ x'', putV x' n o.dst (.v (.pointer (some ⟨b, 0, none⟩))) = some x'' ∧ WJ P n B0 B' own (.ops a m (i + 1) :: k') Q x'') : WJ P n B0 B own k Q x := by
  refine WJ.sym N hs fun ids H fr => ?_
  have hB := fr.none_
  have hlt : ∀ c z, B.get c = some z → c ≠ H.next := fun c z e q => by rw [q, hB] at e; cases e
  obtain ⟨x'', hp, h⟩ := h H.next (B.with_ H.next (H.next + 1) (.iter (Det.bs s) 0))
    ⟨⟨Nat.le_succ_of_le fr.nextB, fun c m0 cs _ _ e => by rw [Hp.get_with, if_neg (hlt c _ e)]; exact e⟩, fun c z e => by rw [Hp.get_with, if_neg (hlt c _ e)]; exact e⟩ fr.ext0.next (by rw [Hp.get_with, if_pos rfl])
  obtain ⟨p1, p2, p3, p4⟩ := putV_eq ids H (H.alloc (.iter (Det.bs s) 0)) hp
  refine JK.ops (s' := x''.ss ids n (H.alloc (.iter (Det.bs s) 0))) ?_ (h ids _ (by rw [p2]; exact fr.newB _))
  unfold doOp
  simp only [ho, gdV_eq ids n H hg, hd]
  have e : opD P H (evS P (x'.ss ids n H)) o = some (.val (.pointer (some ⟨H.next, 0, none⟩)) (H.alloc (.iter (Det.bs s) 0))) := by
    unfold opD
    simp only [hop, hu, evV_eq P x' ids n H hy, den]
  rw [show (x'.ss ids n H).H = H from rfl, e]
  simp only
  rw [show putS (x'.ss ids n H) o.dst (.pointer (some ⟨H.next, 0, none⟩)) _ = _ from p1]
/-- One rune more, or the end. -/
theorem WJ.nx {a : Array Oper} {m i : Nat} {o : Oper} {y : Operand} {s : List UInt8} {b pos : Nat} {α ρ : Type} {r : ρ} {X Y : Option α} {K : α → Option ρ} (hr : Option.bind (if pos < s.length then X else Y) K = some r)
    (hs : vSym P n N k x = .hard a m i k' x') (ho : a[i]? = some o) (hg : gdV a x'.l o = some true) (hd : notDefer o.op = true) (hop : o.op = .next y true) (hy : evV P x'.l y = some (.v (.pointer (some ⟨b, 0, none⟩))))
    (hb : B.get b = some (.iter (Det.bs s) pos)) (h0 : B0.next ≤ b)
    (hp1 : putV x' n o.dst (.v (.tuple ⟨[.bool true, .int .i64 (pos : Int), .int .i32 (decL s pos)]⟩)) = some x1) (hp2 : putV x' n o.dst (.v (.tuple ⟨[.bool false]⟩)) = some x2)
    (h1 : Option.bind X K = some r → ∀ B', Abv 0 B B' → (∀ c z, c ≠ b → B.get c = some z → B'.get c = some z) → B'.get b = some (.iter (Det.bs s) (pos + decN s pos)) → WJ P n B0 B' own (.ops a m (i + 1) :: k') Q x1)
    (h2 : Option.bind Y K = some r → WJ P n B0 B own (.ops a m (i + 1) :: k') Q x2) : WJ P n B0 B own k Q x := by
  by_cases hc : pos < s.length
  · rw [if_pos hc] at hr
    refine WJ.sym N hs fun ids H fr => ?_
    have h := h1 hr (B.with_ b B.next (.iter (Det.bs s) (pos + decN s pos)))
      ⟨Nat.le_refl _, fun c m0 cs _ _ e => by rw [Hp.get_with, if_neg (fun q => by rw [q, hb] at e; cases e)]; exact e⟩ (fun c z q e => by rw [Hp.get_with, if_neg q]; exact e) (by rw [Hp.get_with, if_pos rfl])
    obtain ⟨p1, p2, p3, p4⟩ := putV_eq ids H (H.put b (.iter (Det.bs s) (pos + decN s pos))) hp1
    refine JK.ops (s' := x1.ss ids n (H.put b (.iter (Det.bs s) (pos + decN s pos)))) ?_ (h ids _ (by rw [p2]; exact fr.putB hb h0))
    unfold doOp
    simp only [ho, gdV_eq ids n H hg, hd]
    have e : opD P H (evS P (x'.ss ids n H)) o = some (.val (.tuple ⟨[.bool true, .int .i64 (pos : Int), .int .i32 (decL s pos)]⟩) (H.put b (.iter (Det.bs s) (pos + decN s pos)))) := by
      unfold opD
      simp only [hop, evV_eq P x' ids n H hy, den, nextD, fr.sub b _ hb, bs_size, hc, if_true]
      rfl
    rw [show (x'.ss ids n H).H = H from rfl, e]
    simp only
    rw [show putS (x'.ss ids n H) o.dst (.tuple ⟨[.bool true, .int .i64 (pos : Int), .int .i32 (decL s pos)]⟩) _ = _ from p1]
  · rw [if_neg hc] at hr
    refine WJ.sym N hs fun ids H fr => ?_
    obtain ⟨p1, p2, p3, p4⟩ := putV_eq ids H H hp2
    refine JK.ops (s' := x2.ss ids n H) ?_ (h2 hr ids _ (by rw [p2]; exact fr))
    unfold doOp
    simp only [ho, gdV_eq ids n H hg, hd]
    have e : opD P H (evS P (x'.ss ids n H)) o = some (.val (.tuple ⟨[.bool false]⟩) H) := by
      unfold opD
      simp only [hop, evV_eq P x' ids n H hy, den, nextD, fr.sub b _ hb, bs_size, hc, if_false]
    rw [show (x'.ss ids n H).H = H from rfl, e]
    simp only
    rw [show putS (x'.ss ids n H) o.dst (.tuple ⟨[.bool false]⟩) _ = _ from p1]
end rules
end Go.Det
