import Derived.Test.YtgmejigjajcbfaaDoorD54
import Derived.Laws.BytesArg
set_option linter.unusedSimpArgs false
set_option linter.unusedVariables false
namespace Go.Det
open Go Go.RowKit

/-! ## 43. Own bytes as a string -/
def b8 (l : List Int) : List UInt8 := l.map fun n => UInt8.ofNat n.toNat
theorem encL_kE (k : IntKind) (l : List Int) : encL (kE k) l = l.map (Value.int k) := by
  induction l with
  | nil => rfl
  | cons x l ih => simp only [encL, List.flatMap_cons] at *; rw [ih]; rfl
section conv
variable {P : Program} {B0 B : Hp} {own : List OwnE} {loc : List (List Value)} {ids : Nat → Nat} {H : Hp}
theorem WF.convOwn (fr : WF B0 B own loc ids H) {j cap : Nat} {ad : Option Addr} {L : List Int} {src dst e : TypeId} (hj : own[j]? = some ⟨ad, cap, 1, encL (kE .u8) L⟩) (hs : P.underlying src = some (.slice e)) (hd : P.underlying dst = some .string) (he : P.underlying e = some (.int .u8)) :
    convD P H src dst (.slice ad L.length cap) = some (.string (bs (b8 L)), H) := by
  rw [encL_kE] at hj
  have key : ((L.map (Value.int .u8)).all isByte) = true := by simp [isByte]
  have hi : (L.map (Value.int .u8)).map intOf = L := by rw [List.map_map]; exact (List.map_congr_left fun _ _ => rfl).trans (List.map_id _)
  rcases fr.mine j _ hj with ⟨h1, h2, h3⟩ | ⟨b, h1, _, _, h4⟩
  · simp only at h1 h2 h3
    have : L = [] := by simpa using h3
    subst h1 h2 this
    simp only [convD, hs, hd, he, List.length_nil]; rfl
  · simp only at h1 h4
    subst h1
    rcases h4 with ⟨r1, r2, mt, r3⟩ | ⟨r1, r2, r3⟩
    · have hn : L.length ≠ 0 := fun q => r2 (by rw [List.length_eq_zero_iff.1 q]; rfl)
      simp only [convD, hs, hd, he, r3]
      have ht : (L.map (Value.int .u8)).take L.length = L.map (Value.int .u8) := by rw [List.take_of_length_le (by simp)]
      rw [List.drop_zero, ht, if_pos ⟨by simp, fun q => hn q.1, key⟩, hi]; rfl
    · simp only [convD, hs, hd, he, r3]
      have ht : (L.map (Value.int .u8)).take L.length = L.map (Value.int .u8) := by rw [List.take_of_length_le (by simp)]
      rw [List.drop_zero, ht, if_pos ⟨by simp, fun q => by omega, key⟩, hi]; rfl
end conv
theorem opD_conv {P : Program} {H : Hp} {ev : Ev} {o : Oper} {src dst : TypeId} {x : Operand} {v r : Value} (ho : o.op = .convert src dst x) (hx : ev x = some v) (h : convD P H src dst v = some (r, H)) : opD P H ev o = some (.val r H) := by
  unfold opD
  simp only [ho, hx, h]

/-! ## 44. Variables by their own names -/
theorem WF.noLoc {B0 B : Hp} {own : List OwnE} {ids ids' : Nat → Nat} {H : Hp} (fr : WF B0 B own [] ids H) : WF B0 B own [] ids' H :=
  ⟨fr.ext0, fr.nextB, fr.trim, fr.sub, fun k cs h => by simp at h, fun k h => by simp at h, fun j k h => by simp at h, fr.mine, fun j e b h hb => ⟨(fr.mineB j e b h hb).1, fun k hk => by simp at hk⟩, fr.mineI⟩
section lift
variable {P : Program} {Q : Ex → SS → Prop} {n : NN} {B0 B : Hp} {own : List OwnE} {k k' : KK} {x x' x'' : VS} {loc : List (List Value)} {ids : Nat → Nat} {H : Hp} (N : Nat)
theorem WF.lift {cs : List Value} (fr : WF B0 B own (loc ++ [cs]) ids H) (h : cs.length < LOOSE) : WF B0 B (own ++ [⟨some ⟨ids loc.length, 0, none⟩, cs.length, 1, cs⟩]) loc ids H := by
  obtain ⟨g1, g2, g3⟩ := fr.here loc.length cs (by simp)
  have hl : (loc ++ [cs]).length = loc.length + 1 := by simp
  have get : ∀ i f, (own ++ [⟨some ⟨ids loc.length, 0, none⟩, cs.length, 1, cs⟩])[i]? = some f → (i < own.length ∧ own[i]? = some f) ∨ (i = own.length ∧ f = (⟨some ⟨ids loc.length, 0, none⟩, cs.length, 1, cs⟩ : OwnE)) := by
    intro i f h
    by_cases q : i < own.length
    · rw [List.getElem?_append_left q] at h; exact .inl ⟨q, h⟩
    · have := lt_of_get h
      simp at this
      have q : i = own.length := by omega
      subst q
      simp at h
      exact .inr ⟨rfl, h.symm⟩
  refine ⟨fr.ext0, fr.nextB, fr.trim, fr.sub, fun k c hk => fr.here k c (by rw [List.getElem?_append_left (lt_of_get hk)]; exact hk), fun k hk => fr.apart k (by omega), fun j k hj hk => fr.inj j k (by omega) (by omega), ?_, ?_, ?_⟩
  · intro j e he
    rcases get j e he with ⟨_, he⟩ | ⟨_, rfl⟩
    · exact fr.mine j e he
    · exact .inr ⟨ids loc.length, rfl, g3, g2, .inr ⟨h, by simp, g1⟩⟩
  · intro j e b he hb
    rcases get j e he with ⟨_, he⟩ | ⟨_, rfl⟩
    · obtain ⟨h1, h2⟩ := fr.mineB j e b he hb
      exact ⟨h1, fun k hk => h2 k (by omega)⟩
    · simp only [OwnE.blk, Option.map_some, Option.some.injEq] at hb
      subst hb
      exact ⟨fr.apart _ (by omega), fun k hk q => by have := fr.inj k loc.length (by omega) (by omega) q; omega⟩
  · intro i j e f b he hf heb hfb
    rcases get i e he with ⟨hi, he⟩ | ⟨hi, rfl⟩ <;> rcases get j f hf with ⟨hj, hf⟩ | ⟨hj, rfl⟩
    · exact fr.mineI i j e f b he hf heb hfb
    · simp only [OwnE.blk, Option.map_some, Option.some.injEq] at hfb
      exact absurd hfb ((fr.mineB i e b he heb).2 _ (by omega))
    · simp only [OwnE.blk, Option.map_some, Option.some.injEq] at heb
      exact absurd heb ((fr.mineB j f b hf hfb).2 _ (by omega))
    · omega
/-- The newest variable gets a name. -/
theorem WJ.lift {l : VEnv} {cs : List Value} {cl : Bool} {kB : Nat} (l' : Nat → VEnv) (hl : ∀ ids : Nat → Nat, denE ids l = denE ids (l' (ids loc.length))) (hlt : Nat.blt cs.length LOOSE = true)
    (h : ∀ b, WJ P n B0 B (own ++ [⟨some ⟨b, 0, none⟩, cs.length, 1, cs⟩]) k Q ⟨l' b, loc, true, 0⟩) : WJ P n B0 B own k Q ⟨l, loc ++ [cs], cl, kB⟩ := by
  rw [Nat.blt_eq] at hlt
  intro ids H fr
  have := h (ids loc.length) ids H (fr.lift hlt)
  simp only [VS.ss, ← hl] at this ⊢
  exact this
theorem WF.atOwn (fr : WF B0 B own loc ids H) {j b cap sz : Nat} {cs : List Value} (hj : own[j]? = some ⟨some ⟨b, 0, none⟩, cap, sz, cs⟩) : At B0.next H b 0 cs := by
  rcases fr.mine j _ hj with ⟨h1, _, _⟩ | ⟨c, h1, h2, h3, h4⟩
  · cases h1
  · cases h1
    refine ⟨h2, h3, ?_⟩
    rcases h4 with ⟨_, _, _, g⟩ | ⟨_, _, g⟩ <;> exact ⟨_, _, g, by simp, by simp⟩
theorem WF.ldOwn (fr : WF B0 B own loc ids H) {j b cap sz d : Nat} {cs : List Value} {t : TypeId} {v : Value} (hj : own[j]? = some ⟨some ⟨b, 0, none⟩, cap, sz, cs⟩) (ht : loadC P t cs d = some v) : loadD P H t (.pointer (some ⟨b, d, none⟩)) = some v := by
  have ha := fr.atOwn hj
  unfold loadC at ht
  split at ht
  · rename_i hg
    split at ht
    · rename_i m hm
      split at ht
      · rename_i hb; cases ht
        have := ha.loadN (P := P) (d := d) hg hm hb rfl
        rw [Nat.zero_add] at this; exact this
      · cases ht
    · cases ht
  · rename_i hg
    have := ha.load (P := P) (d := d) hg ht
    rw [Nat.zero_add] at this; exact this
  · cases ht
/-- A store to a variable that has a name. -/
theorem WJ.sb {a : Array Oper} {m i : Nat} {o : Oper} {l : VEnv} {cl : Bool} {kB j b off cap sz : Nat} {t : TypeId} {pa px : Operand} {v : Value} {cs cs' : List Value} (hs : vSym P n N k x = .hard a m i k' ⟨l, loc, cl, kB⟩) (ho : a[i]? = some o) (hg : gdV a l o = some true) (hd : notDefer o.op = true)
    (hop : o.op = .store t pa px) (hpa : evV P l pa = some (.v (.pointer (some ⟨b, off, none⟩)))) (hpx : evV P l px = some (.v v)) (hj : own[j]? = some ⟨some ⟨b, 0, none⟩, cap, sz, cs⟩) (hst : storeC P t cs off v = some cs') (hp : putV ⟨l, loc, true, 0⟩ n o.dst (.v undef) = some x'')
    (h : WJ P n B0 B (own.set j ⟨some ⟨b, 0, none⟩, cap, sz, cs'⟩) (.ops a m (i + 1) :: k') Q x'') : WJ P n B0 B own k Q x := by
  refine WJ.so (j := j) (R := fun v e' => v = undef ∧ e' = ⟨some ⟨b, 0, none⟩, cap, sz, cs'⟩) N hs ho hg hd (fun ids H fr => ?_) ?_
  · have hblk := (fr.mine j _ hj).blk_lt (b := b) (by simp [OwnE.blk])
    unfold storeC at hst
    split at hst
    case h_2 => cases hst
    rename_i nn hm
    split at hst
    case h_2 => cases hst
    rename_i h1
    split at hst
    case h_2 => cases hst
    rename_i h2
    split at hst
    case h_2 => cases hst
    rename_i h3
    cases hst
    have hlen : (wr cs off v.cells.toList).length = cs.length := wr_length _ _ _
    rcases fr.mine j _ hj with ⟨q, _, _⟩ | ⟨c, q, _, _, h4⟩
    · cases q
    · cases q
      have hget : ∃ md, md ≠ .old ∧ H.get b = some (.cells md cs) ∧ (⟨some ⟨b, 0, none⟩, cap, sz, wr cs off v.cells.toList⟩ : OwnE).ok B0.next (H.put b (.cells md (wr cs off v.cells.toList))) := by
        rcases h4 with ⟨r1, r2, mt, r3⟩ | ⟨r1, r2, r3⟩
        · exact ⟨.more sz mt, by simp, r3, .inr ⟨b, rfl, hblk.1, hblk.2, .inl ⟨r1, fun q => r2 (List.length_eq_zero_iff.1 (by rw [← hlen, show wr cs off v.cells.toList = [] from q]; rfl)), mt, by rw [Hp.get_put, if_pos rfl]⟩⟩⟩
        · exact ⟨.fix, by simp, r3, .inr ⟨b, rfl, hblk.1, hblk.2, .inr ⟨r1, by rw [hlen]; exact r2, by rw [Hp.get_put, if_pos rfl]⟩⟩⟩
      obtain ⟨md, hmd, hgt, hok⟩ := hget
      refine ⟨undef, ⟨some ⟨b, 0, none⟩, cap, sz, wr cs off v.cells.toList⟩, H.put b (.cells md (wr cs off v.cells.toList)), opD_store hop (evV_eq P _ ids n H hpa) (evV_eq P _ ids n H hpx) ?_, ?_, rfl, rfl⟩
      · simp only [den, storeD, hgt]
        exact if_pos ⟨hmd, by rw [hm, Nat.eq_of_beq_eq_true h1], Nat.le_of_ble_eq_true h2, h3⟩
      · refine fr.setOwn hj (Nat.le_refl _) (fun c hc hcb => ?_) hok (fun c hc => .inr ?_)
        · rw [Hp.get_put, if_neg (fun q => hcb (by simp [OwnE.blk, q]))]
        · simpa [OwnE.blk] using hc
  · rintro v' e' ⟨rfl, rfl⟩
    exact ⟨_, hp, h⟩
end lift

/-! ## 45. Functions entered in place -/
def plainE (l : VEnv) : Bool := l.all fun x => match x.2 with | .v _ => true | _ => false
theorem plainE_den {l : VEnv} (h : plainE l = true) (ids ids' : Nat → Nat) : denE ids l = denE ids' l := by
  unfold denE
  refine List.map_congr_left fun x hm => ?_
  have := List.all_eq_true.1 h x hm
  cases hx : x.2 with
  | v u => simp [den, hx]
  | p a b => simp [hx] at this
  | fn f c => simp [hx] at this
/-- What a function that is entered in place must come to. -/
def Inl (P : Program) (n : NN) (d : Option Tmp) (k : KK) (Q : Ex → SS → Prop) (l : VEnv) : En → Hp → Prop
  | .ret v, H => ∃ s', putS (VS.ss ⟨l, [], true, 0⟩ (fun _ => 0) n H) d v H = some s' ∧ JK P k Q s'
  | .panic v, H => Q (.panic v) (VS.ss ⟨l, [], true, 0⟩ (fun _ => 0) n H)
section inl
variable {P : Program} {Q : Ex → SS → Prop} {n n' : NN} {B0 B : Hp} {own : List OwnE} {k k' : KK} {x x' x'' : VS} (N : Nat)
theorem WJ.inl {f : FuncId} {fn : Func} {c : Code} {args : List SV} {d : Option Tmp} {l : VEnv} {cl : Bool} {kB : Nat} {m g : Nat} {res : List ResultVar} {lc : VEnv} (hs : vSym P n N k x = .call f args d k' ⟨l, [], cl, kB⟩) (hpl : plainE l = true)
    (hf : P.funcs[f]? = some fn) (hb : fn.body = some c) (hn : fn.ntmps = m) (hg : args.length = g) (hl : Nat.ble g m = true) (hr : fn.results.toList = res) (he : ∀ ids, denE ids lc = envOf (args.map (den ids)))
    (h : WJ P ⟨m, true⟩ B0 B own [.code c] (bodyS P res (Inl P n d k' Q l)) ⟨lc, [], true, 0⟩) : WJ P n B0 B own k Q x := by
  refine WJ.sym N hs fun ids H fr => ?_
  have := h ids H fr
  simp only [VS.ss, he] at this
  refine (SCall.body hf hb hn (by rw [List.length_map, hg]; exact Nat.le_of_ble_eq_true hl) hr this).mono fun e H' q => ?_
  have hd : denE ids l = denE (fun _ => 0) l := plainE_den hpl _ _
  cases e with
  | ret v =>
    obtain ⟨s', h1, h2⟩ := q
    refine ⟨s', ?_, h2⟩
    rw [← h1]
    simp only [VS.ss, hd]
    cases d <;> rfl
  | panic v =>
    simp only [Inl, VS.ss] at q ⊢
    rw [hd]; exact q
/-- The same, with a place where the ways meet behind it. -/
theorem WJ.inlC {α : Type} (I : α → VEnv) (O : α → List OwnE) (M : α → Hp) (ok : α → Prop) {f : FuncId} {fn : Func} {c : Code} {args : List SV} {d : Option Tmp} {l : VEnv} {cl : Bool} {kB : Nat} {m g : Nat} {res : List ResultVar} {lc : VEnv} (hs : vSym P n N k x = .call f args d k' ⟨l, [], cl, kB⟩) (hpl : plainE l = true)
    (hf : P.funcs[f]? = some fn) (hb : fn.body = some c) (hn : fn.ntmps = m) (hg : args.length = g) (hl : Nat.ble g m = true) (hr : fn.results.toList = res) (he : ∀ ids, denE ids lc = envOf (args.map (den ids)))
    (post : ∀ y, ok y → WJ P n B0 (M y) (O y) k' Q ⟨I y, [], true, 0⟩)
    (h : (∀ y, ok y → WJ P n B0 (M y) (O y) k' Q ⟨I y, [], true, 0⟩) → WJ P ⟨m, true⟩ B0 B own [.code c] (bodyS P res (Inl P n d k' Q l)) ⟨lc, [], true, 0⟩) : WJ P n B0 B own k Q x :=
  WJ.inl N hs hpl hf hb hn hg hl hr he (h post)
theorem WJ.inlR {res : List ResultVar} {vs : List Value} {v : Value} {d : Option Tmp} {l l' : VEnv} {cl : Bool} {kB : Nat} (hs : vSym P n' N k x = .fin .ret ⟨l', [], cl, kB⟩) (hr : ressV P ⟨l', [], cl, kB⟩ res = some vs) (hv : oneD vs = v) (hp : putV ⟨l, [], true, 0⟩ n d (.v v) = some x'') (h : WJ P n B0 B own k' Q x'') :
    WJ P n' B0 B own k (bodyS P res (Inl P n d k' Q l)) x := by
  refine WJ.sym N hs fun ids H fr => ⟨rfl, vs, wressV_ok fr hr, ?_⟩
  obtain ⟨p1, p2, p3, p4⟩ := putV_eq (fun _ => 0) H H hp
  refine ⟨_, by rw [hv]; exact p1, h (fun _ => 0) H ?_⟩
  rw [p2]
  exact fr.noLoc
theorem WJ.inlN {res : List ResultVar} {vs : List Value} {v : Value} {d : Option Tmp} {l l' : VEnv} {cl : Bool} {kB : Nat} (hs : vSym P n' N k x = .fin .normal ⟨l', [], cl, kB⟩) (hr : ressV P ⟨l', [], cl, kB⟩ res = some vs) (hv : oneD vs = v) (hp : putV ⟨l, [], true, 0⟩ n d (.v v) = some x'') (h : WJ P n B0 B own k' Q x'') :
    WJ P n' B0 B own k (bodyS P res (Inl P n d k' Q l)) x := by
  refine WJ.sym N hs fun ids H fr => ⟨rfl, vs, wressV_ok fr hr, ?_⟩
  obtain ⟨p1, p2, p3, p4⟩ := putV_eq (fun _ => 0) H H hp
  refine ⟨_, by rw [hv]; exact p1, h (fun _ => 0) H ?_⟩
  rw [p2]
  exact fr.noLoc
end inl
end Go.Det
