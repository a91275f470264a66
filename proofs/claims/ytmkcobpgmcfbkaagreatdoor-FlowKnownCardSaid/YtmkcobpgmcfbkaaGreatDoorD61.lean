import Derived.Test.YtmkcobpgmcfbkaaGreatDoorD58
set_option linter.unusedSimpArgs false
set_option linter.unusedVariables false
namespace Go.Det
open Go Go.RowKit
section
variable {P : Program} {Q : Ex → SS → Prop} {n : NN} {B0 B : Hp} {own : List OwnE} {k k' : KK} {x x' x'' : VS} {loc : List (List Value)} {ids : Nat → Nat} {H : Hp} (N : Nat)
theorem wr_mid : ∀ (vs A B C : List Value), B.length = vs.length → wr (A ++ B ++ C) A.length vs = A ++ vs ++ C
  | [], A, B, C, h => by
    have : B = [] := List.length_eq_zero_iff.1 h
    subst this; simp [wr]
  | v :: vs, A, [], C, h => by simp at h
  | v :: vs, A, b :: B, C, h => by
    have e : (A ++ (b :: B) ++ C).set A.length v = (A ++ [v]) ++ B ++ C := by simp
    have ih := wr_mid vs (A ++ [v]) B C (by simpa using h)
    rw [wr, e, show A.length + 1 = (A ++ [v]).length from by simp, ih]; simp
theorem set_split {α : Type} {L : List α} {i : Nat} {z : α} (h : i < L.length) : L.set i z = L.take i ++ z :: L.drop (i + 1) := by
  rw [List.set_eq_take_append_cons_drop, if_pos h]
theorem split_at {α : Type} {L : List α} {i : Nat} {y : α} (h : L[i]? = some y) : L = L.take i ++ y :: L.drop (i + 1) := by
  obtain ⟨h1, h2⟩ := List.getElem?_eq_some_iff.1 h
  subst h2
  simp
section flat
variable {α : Type} {enc : α → List Value}
theorem encL_cons (y : α) (l : List α) : encL enc (y :: l) = enc y ++ encL enc l := by simp [encL]
theorem storeC_set {t sz : Nat} {L : List α} {i : Int} {y z : α} {v : Value} (he : ∀ x, (enc x).length = sz) (hi : rd L i = some y) (hsz : sizeD P t = some sz) (hv : v.cells.toList = enc z) (h1 : ((enc z).all fun v => v.oneCell') = true) : storeC P t (encL enc L) (i.toNat * sz) v = some (encL enc (L.set i.toNat z)) := by
  obtain ⟨h2, h3, h4⟩ := rd_some hi
  have hlt : i.toNat < L.length := by omega
  have hs : v.cells.size = sz := by rw [← Array.length_toList, hv, he]
  have hlen := encL_length he L
  have hA : (encL enc (L.take i.toNat)).length = i.toNat * sz := by rw [encL_length he, List.length_take, Nat.min_eq_left (by omega)]
  have e0 : encL enc L = encL enc (L.take i.toNat) ++ enc y ++ encL enc (L.drop (i.toNat + 1)) := by
    conv => lhs; rw [split_at h4]
    rw [encL_append, encL_cons, List.append_assoc]
  have hle : i.toNat * sz + sz ≤ (encL enc L).length := by
    rw [hlen, ← Nat.succ_mul]; exact Nat.mul_le_mul_right _ hlt
  have b1 : Nat.beq sz v.cells.size = true := by rw [hs]; exact Nat.beq_refl sz
  have b2 : Nat.ble (i.toNat * sz + v.cells.size) (encL enc L).length = true := by rw [hs]; exact Nat.ble_eq_true_of_le hle
  have b3 : (v.cells.toList.all fun x => x.oneCell') = true := by rw [hv]; exact h1
  unfold storeC
  simp only [hsz, b1, b2, b3]
  congr 1
  rw [hv, e0, ← hA, wr_mid _ _ _ _ (by rw [he, he]), set_split hlt, encL_append, encL_cons, List.append_assoc]
theorem WJ.st {a : Array Oper} {m m' : Nat} {o : Oper} {l : VEnv} {cl : Bool} {kB b cap sz : Nat} {ad : Option Addr} {t : TypeId} {pa px : Operand} {v : Value} {L : List α} {i : Int} {y : α} (z : α) (j : Nat) (hs : vSym P n N k x = .hard a m m' k' ⟨l, loc, cl, kB⟩) (ho : a[m']? = some o) (hg : gdV a l o = some true) (hd : notDefer o.op = true)
    (hop : o.op = .store t pa px) (hpa : evV P l pa = some (.v (.pointer (some ⟨b, i.toNat * sz, none⟩)))) (hpx : evV P l px = some (.v v)) (hj : own[j]? = some ⟨ad, cap, sz, encL enc L⟩) (ha : ad = some ⟨b, 0, none⟩) (he : ∀ x, (enc x).length = sz) (hi : rd L i = some y) (hsz : sizeD P t = some sz) (hv : v.cells.toList = enc z) (h1 : ((enc z).all fun v => v.oneCell') = true)
    (hp : putV ⟨l, loc, true, 0⟩ n o.dst (.v undef) = some x'') (h : WJ P n B0 B (own.set j ⟨ad, cap, sz, encL enc (L.set i.toNat z)⟩) (.ops a m (m' + 1) :: k') Q x'') (hz : sz ≠ 0 := by decide) : WJ P n B0 B own k Q x := by
  subst ha
  exact WJ.sb N hs ho hg hd hop hpa hpx hj (storeC_set he hi hsz hv h1) hp h hz
theorem WJ.an {a : Array Oper} {m i : Nat} {o : Oper} {l : VEnv} {cl : Bool} {kB t et sz by_ capj szj len cap off b : Nat} {c : Call} {sv : Value} {cs : List Value} {L2 : List α} (L : List α) (j : Nat) (hs : vSym P n N k x = .hard a m i k' ⟨l, loc, cl, kB⟩) (ho : a[i]? = some o) (hg : gdV a l o = some true) (hd : notDefer o.op = true)
    (hop : o.op = .call c) (hcal : c.callee = .builtin .append) (hargs : argsV P l c.args.toList = some [.v (.slice (some ⟨b, off, none⟩) len cap), .v sv]) (hj : own[j]? = some ⟨some ⟨b, 0, none⟩, capj, szj, cs⟩) (hcs : (cs.drop off).take (len * sz) = encL enc L) (hle : Nat.ble (off + len * sz) cs.length = true) (hcap : Nat.blt cap LOOSE = true) (hfull : Nat.ble cap len = true) (hlen : L.length = len)
    (E : Elem P c t et sz by_) (hby : Nat.blt 0 by_ = true) (he : ∀ x, (enc x).length = sz) (hl : lenD sv = some L2.length) (hsrc : ∀ ids H, WF B0 B own loc ids H → srcD H sz sv L2.length = some (encL enc L2)) (hne : L2 ≠ []) (hb : (L.length + L2.length) * by_ ≤ 140737488355328)
    (hk : ∀ b', ∃ x'', putV ⟨l, loc, true, 0⟩ n o.dst (.v (.slice (some ⟨b', 0, none⟩) (L ++ L2).length LOOSE)) = some x'' ∧ WJ P n B0 B (own ++ [⟨some ⟨b', 0, none⟩, LOOSE, sz, encL enc (L ++ L2)⟩]) (.ops a m (i + 1) :: k') Q x'') (hzj : szj ≠ 0 := by decide) : WJ P n B0 B own k Q x := by
  rw [Nat.blt_eq] at hby hcap
  have hle := Nat.le_of_ble_eq_true hle
  have hfull := Nat.le_of_ble_eq_true hfull
  have hm : L.length + L2.length ≤ 140737488355328 := Nat.le_trans (Nat.le_mul_of_pos_right _ hby) hb
  have h2 : 0 < L2.length := List.length_pos_iff.2 hne
  refine WJ.sn (R := fun v e' => ∃ b', v = .slice (some ⟨b', 0, none⟩) (L ++ L2).length LOOSE ∧ e' = ⟨some ⟨b', 0, none⟩, LOOSE, sz, encL enc (L ++ L2)⟩) N hs ho hg hd (fun ids H fr => ?_) ?_
  · obtain ⟨md, hget⟩ : ∃ md, H.get b = some (.cells md cs) := by
      rcases fr.mine j _ hj with ⟨g1, _⟩ | ⟨d, g1, _, _, g4⟩
      · cases g1
      · cases g1
        rcases g4 with ⟨_, _, _, g⟩ | ⟨_, _, g⟩ | ⟨g, _⟩ <;> first | exact ⟨_, g⟩ | exact absurd g hzj
    have ha := append_fix (H := H) (len := len) (cap := cap) (o := off) E hl (hsrc ids H fr) h2 hget hcap (by omega) (by rw [← hlen]; exact hb) (by rw [← hlen]; exact hm) hle
    rw [hcs, ← encL_append] at ha
    refine ⟨_, ⟨some ⟨H.next, 0, none⟩, LOOSE, sz, encL enc (L ++ L2)⟩, _, opD_append hop hcal (show argsD (evS P (VS.ss ⟨l, loc, cl, kB⟩ ids n H)) c.args.toList = some [.slice (some ⟨b, off, none⟩) len cap, sv] from argsV_eq (x := ⟨l, loc, cl, kB⟩) hargs) ha, fr.addOwn (Ext.alloc (Ext.refl H) _) (.inr ⟨H.next, rfl, fr.ext0.next, by rw [Hp.next_alloc]; omega, .inl ⟨rfl, ?_, tyU P et, by rw [Hp.get_alloc, if_pos rfl]⟩⟩) (fun d hd => by simp [OwnE.blk] at hd; omega), H.next, by rw [List.length_append, hlen], rfl⟩
    intro q
    have := congrArg List.length q
    rw [encL_length he, List.length_append] at this
    have hsp := E.pos
    rcases Nat.mul_eq_zero.1 (show (L.length + L2.length) * sz = 0 from this) with w | w <;> omega
  · rintro v e' ⟨b', rfl, rfl⟩
    exact hk b'
end flat
end
inductive ResO (P : Program) (own : List OwnE) (l : VEnv) : List ResultVar → List Value → Prop where
  | nil : ResO P own l [] []
  | tmp {t : Tmp} {v : Value} {rs : List ResultVar} {vs : List Value} (h : lookV l t = some (.v v)) (k : ResO P own l rs vs) : ResO P own l (.tmp t :: rs) (v :: vs)
  | cell {a : Tmp} {t : TypeId} {b off cap sz : Nat} {cs : List Value} {v : Value} {rs : List ResultVar} {vs : List Value} (j : Nat) (h : lookV l a = some (.v (.pointer (some ⟨b, off, none⟩)))) (hj : own[j]? = some ⟨some ⟨b, 0, none⟩, cap, sz, cs⟩) (hv : loadC P t cs off = some v) (k : ResO P own l rs vs) (hz : sz ≠ 0 := by decide) : ResO P own l (.cell a t :: rs) (v :: vs)
section
variable {P : Program} {Q : Ex → SS → Prop} {n n' : NN} {B0 B : Hp} {own : List OwnE} {k k' : KK} {x x' x'' : VS} (N : Nat)
theorem ResO.ok {l : VEnv} {loc : List (List Value)} {cl : Bool} {kB : Nat} {ids : Nat → Nat} {H : Hp} (fr : WF B0 B own loc ids H) {rs : List ResultVar} {vs : List Value} (h : ResO P own l rs vs) : ressS P (VS.ss ⟨l, loc, cl, kB⟩ ids n H) rs = some vs := by
  induction h with
  | nil => rfl
  | @tmp t v rs vs h k ih =>
    have h1 : resS P (VS.ss ⟨l, loc, cl, kB⟩ ids n H) (.tmp t) = some v := by
      simp only [resS]
      rw [show (VS.ss ⟨l, loc, cl, kB⟩ ids n H).l = denE ids l from rfl, look_denE, h]; rfl
    simp only [ressS, h1, ih]
  | @cell a t b off cap sz cs v rs vs j h hj hv k hz ih =>
    have h1 : resS P (VS.ss ⟨l, loc, cl, kB⟩ ids n H) (.cell a t) = some v := by
      simp only [resS]
      rw [show (VS.ss ⟨l, loc, cl, kB⟩ ids n H).l = denE ids l from rfl, look_denE, h]
      exact fr.ldOwn hj hv hz
    simp only [ressS, h1, ih]
end
end Go.Det
