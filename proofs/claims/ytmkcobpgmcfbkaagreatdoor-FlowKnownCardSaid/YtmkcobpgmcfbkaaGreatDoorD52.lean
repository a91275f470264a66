import Derived.Test.YtmkcobpgmcfbkaaGreatDoorD51
import Derived.Lib.LaidTab
import Derived.Lib.LaidU8
import Derived.Laws.Strings
import Derived.Lib.SmallJoins
import Derived.Laws.Shifts
import Derived.Laws.BytesArg
set_option linter.unusedSimpArgs false
set_option linter.unusedVariables false
namespace Go.Det
open Go Go.RowKit
theorem Laid.cell {w : World} {B : Nat} (h : Laid w B) {g : Nat} {cs : List Value} (hm : (g, cs) ∈ seatCells) (j : Nat) (v : Value) (e : cs[j]? = some v) : w.cell? ⟨g, j, none⟩ = some v := by
  obtain ⟨_, t, fr, hh⟩ := h.1 _ hm
  simp [World.cell?, hh, e]
end Go.Det

set_option linter.unusedSimpArgs false
set_option linter.unusedVariables false
namespace Go.Det
open Go Go.RowKit
section ops
variable {P : Program} {H : Hp} {ev : Ev} {o : Oper}
theorem bs_size (a : List UInt8) : (bs a).size = a.length := rfl
end ops
section rules
variable {P : Program} {Q : Ex → SS → Prop} {n : NN} {B0 B D : Hp} {own : List OwnE} (N : Nat) {k k' : KK} {x x' x'' : VS}
theorem WJ.hp {a : Array Oper} {m i : Nat} {o : Oper} {v : SV} (hs : vSym P n N k x = .hard a m i k' x') (ho : a[i]? = some o) (hg : gdV a x'.l o = some true) (hd : notDefer o.op = true)
    (he : ∀ ids H, WF B0 B own x'.loc ids H → opD P H (evS P (x'.ss ids n H)) o = some (.val (den ids v) H)) (hp : putV x' n o.dst v = some x'') (h : WJ P n B0 B own (.ops a m (i + 1) :: k') Q x'') : WJ P n B0 B own k Q x := by
  refine WJ.sym N hs fun ids H fr => ?_
  obtain ⟨p1, p2, p3, p4⟩ := putV_eq ids H H hp
  refine JK.ops (s' := x''.ss ids n H) ?_ (h ids H (by rw [p2]; exact fr))
  unfold doOp
  simp only [ho, gdV_eq ids n H hg, hd]
  rw [show (x'.ss ids n H).H = H from rfl, he ids H fr]
  simp only; rw [p1]
theorem WD.hp {a : Array Oper} {fl : Bool} {kD m m' i i' : Nat} {o : Oper} {v : SV} (hs : dSym P n a fl kD m i x = .hard m' i' x') (ho : a[i']? = some o) (hg : gdV a x'.l o = some true) (hd : notDefer o.op = true)
    (hsd : ∀ ids H (s0 : SS), s0.H = D → WFD B0 B D kD own x'.loc ids H → side P a fl s0.st i' (x'.ss ids n H).st)
    (he : ∀ ids H, WF B0 B own x'.loc ids H → opD P H (evS P (x'.ss ids n H)) o = some (.val (den ids v) H)) (hp : putV x' n o.dst v = some x'') (h : WD P n B0 B D kD own a fl m' (i' + 1) k Q x'') : WD P n B0 B D kD own a fl m i k Q x := by
  refine WD.sym hs fun ids H s0 h0 f => ?_
  obtain ⟨p1, p2, p3, p4⟩ := putV_eq ids H H hp
  refine JD.val (s' := x''.ss ids n H) ?_ (hsd ids H s0 h0 f) (h ids H s0 h0 (by rw [p2]; exact f))
  unfold doOp
  simp only [ho, gdV_eq ids n H hg, hd]
  rw [show (x'.ss ids n H).H = H from rfl, he ids H f.fr]
  simp only; rw [p1]
end rules
end Go.Det

set_option linter.unusedSimpArgs false
set_option linter.unusedVariables false
namespace Go.Det
open Go Go.RowKit
def Hp.with_ (B : Hp) (b n : Nat) (x : Blk) : Hp := { t := B.t.set b (some x), next := n, lo := B.lo }
theorem Hp.get_with (B : Hp) (b n : Nat) (x : Blk) (c : Nat) : (B.with_ b n x).get c = if c = b then some x else B.get c := by
  simp only [Hp.get, Hp.with_, T.get_set]
section frames
variable {B0 B : Hp} {own : List OwnE} {loc : List (List Value)} {ids : Nat → Nat} {H : Hp}
theorem WF.none_ (fr : WF B0 B own loc ids H) : B.get H.next = none := by
  cases h : B.get H.next with
  | none => rfl
  | some x => have := fr.trim _ _ h; have := fr.nextB; omega
theorem WF.putB (fr : WF B0 B own loc ids H) {b : Nat} {x y : Blk} (hb : B.get b = some x) (h0 : B0.next ≤ b) : WF B0 (B.with_ b B.next y) own loc ids (H.put b y) := by
  refine ⟨fr.ext0.put _ h0, fr.nextB, ?_, ?_, ?_, ?_, fr.inj, ?_, ?_, fr.mineI⟩
  · intro c z h
    rw [Hp.get_with] at h
    split at h
    · rename_i q; subst q; exact fr.trim _ _ hb
    · exact fr.trim c z h
  · intro c z h
    rw [Hp.get_with] at h
    rw [Hp.get_put]
    split at h
    · rename_i q; rw [if_pos q]; exact h
    · rename_i q; rw [if_neg q]; exact fr.sub c z h
  · intro k c h
    obtain ⟨h1, h2, h3⟩ := fr.here k c h
    exact ⟨by rw [Hp.get_put, if_neg (fun q => by have := fr.apart k (lt_of_get h); rw [q, hb] at this; cases this)]; exact h1, h2, h3⟩
  · intro k hk
    rw [Hp.get_with, if_neg (fun q => by have := fr.apart k hk; rw [q, hb] at this; cases this)]; exact fr.apart k hk
  · intro j e h
    have he := fr.mine j e h
    exact he.keep (Nat.le_refl _) (Nat.le_refl _) fun c z hc hz => by
      rw [Hp.get_put, if_neg (fun q => by have := (fr.mineB j e c h hc).1; rw [q, hb] at this; cases this)]; exact hz
  · intro j e c h hc
    rw [Hp.get_with, if_neg (fun q => by have := (fr.mineB j e c h hc).1; rw [q, hb] at this; cases this)]; exact fr.mineB j e c h hc
end frames
def decL (s : List UInt8) (p : Nat) : Int := ((Utf8.decode (bs s) p).1 : Nat)
def decN (s : List UInt8) (p : Nat) : Nat := (Utf8.decode (bs s) p).2
section rules
variable {P : Program} {Q : Ex → SS → Prop} {n : NN} {B0 B : Hp} {own : List OwnE} (N : Nat) {k k' : KK} {x x' x1 x2 : VS}
theorem WJ.nx {a : Array Oper} {m i : Nat} {o : Oper} {y : Operand} {s : List UInt8} {b pos : Nat} {α ρ : Type} {r : ρ} {X Y : Option α} {K : α → Option ρ} (hr : Option.bind (if pos < s.length then X else Y) K = some r)
    (hs : vSym P n N k x = .hard a m i k' x') (ho : a[i]? = some o) (hg : gdV a x'.l o = some true) (hd : notDefer o.op = true) (hop : o.op = .next y true) (hy : evV P x'.l y = some (.v (.pointer (some ⟨b, 0, none⟩))))
    (hb : B.get b = some (.iter (Det.bs s) pos)) (h0 : B0.next ≤ b)
    (hp1 : putV x' n o.dst (.v (.tuple ⟨[.bool true, .int .i64 (pos : Int), .int .i32 (decL s pos)]⟩)) = some x1) (hp2 : putV x' n o.dst (.v (.tuple ⟨[.bool false]⟩)) = some x2)
    (h1 : Option.bind X K = some r → ∀ B', Abv 0 B B' → (∀ c z, c ≠ b → B.get c = some z → B'.get c = some z) → B'.get b = some (.iter (Det.bs s) (pos + decN s pos)) → WJ P n B0 B' own (.ops a m (i + 1) :: k') Q x1)
    (h2 : Option.bind Y K = some r → WJ P n B0 B own (.ops a m (i + 1) :: k') Q x2) : WJ P n B0 B own k Q x := by
  by_cases hc : pos < s.length
  · rw [if_pos hc] at hr
    refine WJ.sym N hs fun ids H fr => ?_
    have h := h1 hr (B.with_ b B.next (.iter (Det.bs s) (pos + decN s pos)))
      ⟨Nat.le_refl _, fun c m0 cs _ _ e => by rw [Hp.get_with, if_neg (fun q => by rw [q, hb] at e; cases e)]; exact e⟩ (fun c z q e => by rw [Hp.get_with, if_neg q]; exact e) (by rw [Hp.get_with, if_pos rfl])
    obtain ⟨p1, p2, p3, p4⟩ := putV_eq ids H (H.put b (.iter (Det.bs s) (pos + decN s pos))) hp1
    refine JK.ops (s' := x1.ss ids n (H.put b (.iter (Det.bs s) (pos + decN s pos)))) ?_ (h ids _ (by rw [p2]; exact fr.putB hb h0))
    unfold doOp
    simp only [ho, gdV_eq ids n H hg, hd]
    have e : opD P H (evS P (x'.ss ids n H)) o = some (.val (.tuple ⟨[.bool true, .int .i64 (pos : Int), .int .i32 (decL s pos)]⟩) (H.put b (.iter (Det.bs s) (pos + decN s pos)))) := by
      unfold opD
      simp only [hop, evV_eq P x' ids n H hy, den, nextD, fr.sub b _ hb, bs_size, hc, if_true]
      rfl
    rw [show (x'.ss ids n H).H = H from rfl, e]
    simp only
    rw [show putS (x'.ss ids n H) o.dst (.tuple ⟨[.bool true, .int .i64 (pos : Int), .int .i32 (decL s pos)]⟩) _ = _ from p1]
  · rw [if_neg hc] at hr
    refine WJ.sym N hs fun ids H fr => ?_
    obtain ⟨p1, p2, p3, p4⟩ := putV_eq ids H H hp2
    refine JK.ops (s' := x2.ss ids n H) ?_ (h2 hr ids _ (by rw [p2]; exact fr))
    unfold doOp
    simp only [ho, gdV_eq ids n H hg, hd]
    have e : opD P H (evS P (x'.ss ids n H)) o = some (.val (.tuple ⟨[.bool false]⟩) H) := by
      unfold opD
      simp only [hop, evV_eq P x' ids n H hy, den, nextD, fr.sub b _ hb, bs_size, hc, if_false]
    rw [show (x'.ss ids n H).H = H from rfl, e]
    simp only
    rw [show putS (x'.ss ids n H) o.dst (.tuple ⟨[.bool false]⟩) _ = _ from p1]
end rules
end Go.Det

set_option linter.unusedSimpArgs false
set_option linter.unusedVariables false
namespace Go.Det
open Go Go.RowKit
def b8 (l : List Int) : List UInt8 := l.map fun n => UInt8.ofNat n.toNat
section conv
variable {P : Program} {B0 B : Hp} {own : List OwnE} {loc : List (List Value)} {ids : Nat → Nat} {H : Hp}
end conv
theorem WF.noLoc {B0 B : Hp} {own : List OwnE} {ids ids' : Nat → Nat} {H : Hp} (fr : WF B0 B own [] ids H) : WF B0 B own [] ids' H :=
  ⟨fr.ext0, fr.nextB, fr.trim, fr.sub, fun k cs h => by simp at h, fun k h => by simp at h, fun j k h => by simp at h, fr.mine, fun j e b h hb => ⟨(fr.mineB j e b h hb).1, fun k hk => by simp at hk⟩, fr.mineI⟩
section lift
variable {P : Program} {Q : Ex → SS → Prop} {n : NN} {B0 B : Hp} {own : List OwnE} {k k' : KK} {x x' x'' : VS} {loc : List (List Value)} {ids : Nat → Nat} {H : Hp} (N : Nat)
theorem WF.lift {cs : List Value} (fr : WF B0 B own (loc ++ [cs]) ids H) (h : cs.length < LOOSE) : WF B0 B (own ++ [⟨some ⟨ids loc.length, 0, none⟩, cs.length, 1, cs⟩]) loc ids H := by
  obtain ⟨g1, g2, g3⟩ := fr.here loc.length cs (by simp)
  have hl : (loc ++ [cs]).length = loc.length + 1 := by simp
  have get : ∀ i f, (own ++ [⟨some ⟨ids loc.length, 0, none⟩, cs.length, 1, cs⟩])[i]? = some f → (i < own.length ∧ own[i]? = some f) ∨ (i = own.length ∧ f = (⟨some ⟨ids loc.length, 0, none⟩, cs.length, 1, cs⟩ : OwnE)) := by
    intro i f h
    by_cases q : i < own.length
    · rw [List.getElem?_append_left q] at h; exact .inl ⟨q, h⟩
    · have := lt_of_get h
      simp at this
      have q : i = own.length := by omega
      subst q
      simp at h
      exact .inr ⟨rfl, h.symm⟩
  refine ⟨fr.ext0, fr.nextB, fr.trim, fr.sub, fun k c hk => fr.here k c (by rw [List.getElem?_append_left (lt_of_get hk)]; exact hk), fun k hk => fr.apart k (by omega), fun j k hj hk => fr.inj j k (by omega) (by omega), ?_, ?_, ?_⟩
  · intro j e he
    rcases get j e he with ⟨_, he⟩ | ⟨_, rfl⟩
    · exact fr.mine j e he
    · exact .inr ⟨ids loc.length, rfl, g3, g2, .inr (.inl ⟨h, by simp, g1⟩)⟩
  · intro j e b he hb
    rcases get j e he with ⟨_, he⟩ | ⟨_, rfl⟩
    · obtain ⟨h1, h2⟩ := fr.mineB j e b he hb
      exact ⟨h1, fun k hk => h2 k (by omega)⟩
    · simp only [OwnE.blk, Option.map_some, Option.some.injEq] at hb
      subst hb
      exact ⟨fr.apart _ (by omega), fun k hk q => by have := fr.inj k loc.length (by omega) (by omega) q; omega⟩
  · intro i j e f b he hf heb hfb
    rcases get i e he with ⟨hi, he⟩ | ⟨hi, rfl⟩ <;> rcases get j f hf with ⟨hj, hf⟩ | ⟨hj, rfl⟩
    · exact fr.mineI i j e f b he hf heb hfb
    · simp only [OwnE.blk, Option.map_some, Option.some.injEq] at hfb
      exact absurd hfb ((fr.mineB i e b he heb).2 _ (by omega))
    · simp only [OwnE.blk, Option.map_some, Option.some.injEq] at heb
      exact absurd heb ((fr.mineB j f b hf hfb).2 _ (by omega))
    · omega
theorem WJ.lift {l : VEnv} {cs : List Value} {cl : Bool} {kB : Nat} (l' : Nat → VEnv) (hl : ∀ ids : Nat → Nat, denE ids l = denE ids (l' (ids loc.length))) (hlt : Nat.blt cs.length LOOSE = true)
    (h : ∀ b, WJ P n B0 B (own ++ [⟨some ⟨b, 0, none⟩, cs.length, 1, cs⟩]) k Q ⟨l' b, loc, true, 0⟩) : WJ P n B0 B own k Q ⟨l, loc ++ [cs], cl, kB⟩ := by
  rw [Nat.blt_eq] at hlt
  intro ids H fr
  have := h (ids loc.length) ids H (fr.lift hlt)
  simp only [VS.ss, ← hl] at this ⊢
  exact this
theorem WF.atOwn (fr : WF B0 B own loc ids H) {j b cap sz : Nat} {cs : List Value} (hj : own[j]? = some ⟨some ⟨b, 0, none⟩, cap, sz, cs⟩) (hz : sz ≠ 0) : At B0.next H b 0 cs := by
  rcases fr.mine j _ hj with ⟨h1, _, _⟩ | ⟨c, h1, h2, h3, h4⟩
  · cases h1
  · cases h1
    refine ⟨h2, h3, ?_⟩
    rcases h4 with ⟨_, _, _, g⟩ | ⟨_, _, g⟩ | ⟨g, _⟩
    rotate_right
    · exact absurd g hz
    all_goals exact ⟨_, _, g, by simp, by simp⟩
theorem WF.ldOwn (fr : WF B0 B own loc ids H) {j b cap sz d : Nat} {cs : List Value} {t : TypeId} {v : Value} (hj : own[j]? = some ⟨some ⟨b, 0, none⟩, cap, sz, cs⟩) (ht : loadC P t cs d = some v) (hz : sz ≠ 0 := by decide) : loadD P H t (.pointer (some ⟨b, d, none⟩)) = some v := by
  have ha := fr.atOwn hj hz
  unfold loadC at ht
  split at ht
  · rename_i hg
    split at ht
    · rename_i m hm
      split at ht
      · rename_i hb; cases ht
        have := ha.loadN (P := P) (d := d) hg hm hb rfl
        rw [Nat.zero_add] at this; exact this
      · cases ht
    · cases ht
  · rename_i hg
    have := ha.load (P := P) (d := d) hg ht
    rw [Nat.zero_add] at this; exact this
  · cases ht
theorem WJ.sb {a : Array Oper} {m i : Nat} {o : Oper} {l : VEnv} {cl : Bool} {kB j b off cap sz : Nat} {t : TypeId} {pa px : Operand} {v : Value} {cs cs' : List Value} (hs : vSym P n N k x = .hard a m i k' ⟨l, loc, cl, kB⟩) (ho : a[i]? = some o) (hg : gdV a l o = some true) (hd : notDefer o.op = true)
    (hop : o.op = .store t pa px) (hpa : evV P l pa = some (.v (.pointer (some ⟨b, off, none⟩)))) (hpx : evV P l px = some (.v v)) (hj : own[j]? = some ⟨some ⟨b, 0, none⟩, cap, sz, cs⟩) (hst : storeC P t cs off v = some cs') (hp : putV ⟨l, loc, true, 0⟩ n o.dst (.v undef) = some x'')
    (h : WJ P n B0 B (own.set j ⟨some ⟨b, 0, none⟩, cap, sz, cs'⟩) (.ops a m (i + 1) :: k') Q x'') (hz : sz ≠ 0 := by decide) : WJ P n B0 B own k Q x := by
  refine WJ.so (j := j) (R := fun v e' => v = undef ∧ e' = ⟨some ⟨b, 0, none⟩, cap, sz, cs'⟩) N hs ho hg hd (fun ids H fr => ?_) ?_
  · have hblk := (fr.mine j _ hj).blk_lt (b := b) (by simp [OwnE.blk])
    unfold storeC at hst
    split at hst
    case h_2 => cases hst
    rename_i nn hm
    split at hst
    case h_2 => cases hst
    rename_i h1
    split at hst
    case h_2 => cases hst
    rename_i h2
    split at hst
    case h_2 => cases hst
    rename_i h3
    cases hst
    have hlen : (wr cs off v.cells.toList).length = cs.length := wr_length _ _ _
    rcases fr.mine j _ hj with ⟨q, _, _⟩ | ⟨c, q, _, _, h4⟩
    · cases q
    · cases q
      have hget : ∃ md, md ≠ .old ∧ H.get b = some (.cells md cs) ∧ (⟨some ⟨b, 0, none⟩, cap, sz, wr cs off v.cells.toList⟩ : OwnE).ok B0.next (H.put b (.cells md (wr cs off v.cells.toList))) := by
        rcases h4 with ⟨r1, r2, mt, r3⟩ | ⟨r1, r2, r3⟩ | ⟨r1, _⟩
        rotate_right
        · exact absurd r1 hz
        · exact ⟨.more sz mt, by simp, r3, .inr ⟨b, rfl, hblk.1, hblk.2, .inl ⟨r1, fun q => r2 (List.length_eq_zero_iff.1 (by rw [← hlen, show wr cs off v.cells.toList = [] from q]; rfl)), mt, by rw [Hp.get_put, if_pos rfl]⟩⟩⟩
        · exact ⟨.fix, by simp, r3, .inr ⟨b, rfl, hblk.1, hblk.2, .inr (.inl ⟨r1, by rw [hlen]; exact r2, by rw [Hp.get_put, if_pos rfl]⟩)⟩⟩
      obtain ⟨md, hmd, hgt, hok⟩ := hget
      refine ⟨undef, ⟨some ⟨b, 0, none⟩, cap, sz, wr cs off v.cells.toList⟩, H.put b (.cells md (wr cs off v.cells.toList)), opD_store hop (evV_eq P _ ids n H hpa) (evV_eq P _ ids n H hpx) ?_, ?_, rfl, rfl⟩
      · simp only [den, storeD, hgt]
        exact if_pos ⟨hmd, by rw [hm, Nat.eq_of_beq_eq_true h1], Nat.le_of_ble_eq_true h2, h3⟩
      · refine fr.setOwn hj (Nat.le_refl _) (fun c hc hcb => ?_) hok (fun c hc => .inr ?_)
        · rw [Hp.get_put, if_neg (fun q => hcb (by simp [OwnE.blk, q]))]
        · simpa [OwnE.blk] using hc
  · rintro v' e' ⟨rfl, rfl⟩
    exact ⟨_, hp, h⟩
end lift
def plainE (l : VEnv) : Bool := l.all fun x => match x.2 with | .v _ => true | _ => false
theorem plainE_den {l : VEnv} (h : plainE l = true) (ids ids' : Nat → Nat) : denE ids l = denE ids' l := by
  unfold denE
  refine List.map_congr_left fun x hm => ?_
  have := List.all_eq_true.1 h x hm
  cases hx : x.2 with
  | v u => simp [den, hx]
  | p a b => simp [hx] at this
  | fn f c => simp [hx] at this
def Inl (P : Program) (n : NN) (d : Option Tmp) (k : KK) (Q : Ex → SS → Prop) (l : VEnv) : En → Hp → Prop
  | .ret v, H => ∃ s', putS (VS.ss ⟨l, [], true, 0⟩ (fun _ => 0) n H) d v H = some s' ∧ JK P k Q s'
  | .panic v, H => Q (.panic v) (VS.ss ⟨l, [], true, 0⟩ (fun _ => 0) n H)
section inl
variable {P : Program} {Q : Ex → SS → Prop} {n n' : NN} {B0 B : Hp} {own : List OwnE} {k k' : KK} {x x' x'' : VS} (N : Nat)
theorem WJ.inl {f : FuncId} {fn : Func} {c : Code} {args : List SV} {d : Option Tmp} {l : VEnv} {cl : Bool} {kB : Nat} {m g : Nat} {res : List ResultVar} {lc : VEnv} (hs : vSym P n N k x = .call f args d k' ⟨l, [], cl, kB⟩) (hpl : plainE l = true)
    (hf : P.funcs[f]? = some fn) (hb : fn.body = some c) (hn : fn.ntmps = m) (hg : args.length = g) (hl : Nat.ble g m = true) (hr : fn.results.toList = res) (he : ∀ ids, denE ids lc = envOf (args.map (den ids)))
    (h : WJ P ⟨m, true⟩ B0 B own [.code c] (bodyS P res (Inl P n d k' Q l)) ⟨lc, [], true, 0⟩) : WJ P n B0 B own k Q x := by
  refine WJ.sym N hs fun ids H fr => ?_
  have := h ids H fr
  simp only [VS.ss, he] at this
  refine (SCall.body hf hb hn (by rw [List.length_map, hg]; exact Nat.le_of_ble_eq_true hl) hr this).mono fun e H' q => ?_
  have hd : denE ids l = denE (fun _ => 0) l := plainE_den hpl _ _
  cases e with
  | ret v =>
    obtain ⟨s', h1, h2⟩ := q
    refine ⟨s', ?_, h2⟩
    rw [← h1]
    simp only [VS.ss, hd]
    cases d <;> rfl
  | panic v =>
    simp only [Inl, VS.ss] at q ⊢
    rw [hd]; exact q
end inl
end Go.Det
