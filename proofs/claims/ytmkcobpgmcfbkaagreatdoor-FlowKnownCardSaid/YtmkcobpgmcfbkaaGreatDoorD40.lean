import Derived.Test.YtmkcobpgmcfbkaaGreatDoorD36
set_option linter.unusedSimpArgs false
set_option linter.unusedVariables false
namespace Go.Det
open Go Go.RowKit
structure Abv (n : Nat) (H H' : Hp) : Prop where
  next : H.next ≤ H'.next
  same : ∀ b m cs, n ≤ b → b < H.next → H.get b = some (.cells m cs) → H'.get b = some (.cells m cs)
theorem Abv.refl (n : Nat) (H : Hp) : Abv n H H := ⟨Nat.le_refl _, fun _ _ _ _ _ h => h⟩
theorem Abv.trans {n : Nat} {A B C : Hp} (h : Abv n A B) (k : Abv n B C) : Abv n A C :=
  ⟨Nat.le_trans h.next k.next, fun b m cs h1 h2 h3 => k.same b m cs h1 (Nat.lt_of_lt_of_le h2 h.next) (h.same b m cs h1 h2 h3)⟩
theorem Abv.le {n m : Nat} {A B : Hp} (h : Abv n A B) (hm : n ≤ m) : Abv m A B := ⟨h.next, fun b o cs h1 h2 h3 => h.same b o cs (Nat.le_trans hm h1) h2 h3⟩
structure OwnE where
  a : Option Addr
  cap : Nat
  sz : Nat
  cs : List Value
def OwnE.blk (e : OwnE) : Option Nat := e.a.map (·.block)
def OwnE.bld (H : Hp) (b : Nat) (e : OwnE) : Prop :=
  e.sz = 0 ∧ ((∃ U, e.cap = 2 * U ∧ e.cs ≠ [] ∧ H.get b = some (.cells (.more 1 (some U)) e.cs)) ∨
    ∃ T s pa, e.cap = 2 * T + 1 ∧ e.cs = [s] ∧ (pa = none ∨ pa = some ⟨b, 0, none⟩) ∧ H.get b = some (.cells (.var T) [.pointer pa, s]))
theorem OwnE.bld.keep {H H' : Hp} {b : Nat} {e : OwnE} (h : e.bld H b) (hs : ∀ x, H.get b = some x → H'.get b = some x) : e.bld H' b := by
  obtain ⟨z, ⟨U, g1, g2, g3⟩ | ⟨T, s, pa, g1, g2, g3, g4⟩⟩ := h
  · exact ⟨z, .inl ⟨U, g1, g2, hs _ g3⟩⟩
  · exact ⟨z, .inr ⟨T, s, pa, g1, g2, g3, hs _ g4⟩⟩
def OwnE.ok (lo : Nat) (H : Hp) (e : OwnE) : Prop :=
  (e.a = none ∧ e.cap = 0 ∧ e.cs = []) ∨
  ∃ b, e.a = some ⟨b, 0, none⟩ ∧ lo ≤ b ∧ b < H.next ∧ ((e.cap = LOOSE ∧ e.cs ≠ [] ∧ ∃ mt, H.get b = some (.cells (.more e.sz mt) e.cs)) ∨ (e.cap < LOOSE ∧ e.cap * e.sz = e.cs.length ∧ H.get b = some (.cells .fix e.cs)) ∨ e.bld H b)
theorem OwnE.ok.blk_lt {lo : Nat} {H : Hp} {e : OwnE} (h : e.ok lo H) {b : Nat} (hb : e.blk = some b) : lo ≤ b ∧ b < H.next := by
  rcases h with ⟨h, _, _⟩ | ⟨c, h, h1, h2, _⟩
  · simp [OwnE.blk, h] at hb
  · simp [OwnE.blk, h] at hb; subst hb; exact ⟨h1, h2⟩
theorem OwnE.ok.keep {lo lo' : Nat} {H H' : Hp} {e : OwnE} (h : e.ok lo H) (hl : lo' ≤ lo) (hn : H.next ≤ H'.next) (hs : ∀ b x, e.blk = some b → H.get b = some x → H'.get b = some x) : e.ok lo' H' := by
  rcases h with h | ⟨c, h, h1, h2, h3⟩
  · exact .inl h
  · have hb : e.blk = some c := by simp [OwnE.blk, h]
    refine .inr ⟨c, h, by omega, by omega, ?_⟩
    rcases h3 with ⟨g1, g2, mt, g3⟩ | ⟨g1, g2, g3⟩ | g
    · exact .inl ⟨g1, g2, mt, hs _ _ hb g3⟩
    · exact .inr (.inl ⟨g1, g2, hs _ _ hb g3⟩)
    · exact .inr (.inr (g.keep fun x => hs _ x hb))
structure WF (B0 B : Hp) (own : List OwnE) (loc : List (List Value)) (ids : Nat → Nat) (H : Hp) : Prop where
  ext0 : Ext B0 H
  nextB : B.next ≤ H.next
  trim : ∀ b x, B.get b = some x → b < B.next
  sub : ∀ b x, B.get b = some x → H.get b = some x
  here : ∀ k cs, loc[k]? = some cs → H.get (ids k) = some (.cells .fix cs) ∧ ids k < H.next ∧ B0.next ≤ ids k
  apart : ∀ k, k < loc.length → B.get (ids k) = none
  inj : ∀ j k, j < loc.length → k < loc.length → ids j = ids k → j = k
  mine : ∀ (j : Nat) (e : OwnE), own[j]? = some e → e.ok B0.next H
  mineB : ∀ (j : Nat) (e : OwnE) (b : Nat), own[j]? = some e → e.blk = some b → B.get b = none ∧ ∀ k, k < loc.length → ids k ≠ b
  mineI : ∀ (i j : Nat) (e f : OwnE) (b : Nat), own[i]? = some e → own[j]? = some f → e.blk = some b → f.blk = some b → i = j
section frames
variable {B0 B : Hp} {own : List OwnE} {loc : List (List Value)} {ids : Nat → Nat} {H : Hp}
theorem WF.fr (fr : WF B0 B own loc ids H) (cl : Bool) (hcl : cl = true → False) : Fr B0 noHp cl 0 loc ids H :=
  ⟨fr.ext0, Nat.zero_le _, fun h => (hcl h).elim, fr.here, fun _ _ _ => Nat.zero_le _, fr.inj⟩
theorem WF.fr0 (fr : WF B0 B own loc ids H) (cl : Bool) (kB : Nat) : Fr B0 noHp cl kB loc ids H :=
  ⟨fr.ext0, Nat.zero_le _, fun _ => noHp_ext H, fr.here, fun _ _ _ => Nat.zero_le _, fr.inj⟩
theorem lt_of_get {α : Type} {l : List α} {k : Nat} {x : α} (h : l[k]? = some x) : k < l.length := (List.getElem?_eq_some_iff.1 h).1
theorem WF.ids_lt (fr : WF B0 B own loc ids H) {k : Nat} (h : k < loc.length) : ids k < H.next := (fr.here k loc[k] (List.getElem?_eq_getElem h)).2.1
theorem WF.alloc (fr : WF B0 B own loc ids H) (cs : List Value) : WF B0 B own (loc ++ [cs]) (fun k => if k = loc.length then H.next else ids k) (H.alloc (.cells .fix cs)) := by
  have hB : B.get H.next = none := by
    cases h : B.get H.next with
    | none => rfl
    | some x => have := fr.trim _ _ h; have := fr.nextB; omega
  refine ⟨fr.ext0.alloc _, by rw [Hp.next_alloc]; have := fr.nextB; omega, fr.trim, ?_, ?_, ?_, ?_, ?_, ?_, fr.mineI⟩
  · intro b x h
    rw [Hp.get_alloc, if_neg (by have := fr.trim b x h; have := fr.nextB; omega)]; exact fr.sub b x h
  · intro k c h
    by_cases hk : k = loc.length
    · subst hk
      simp only [List.getElem?_append_right (Nat.le_refl _), Nat.sub_self, List.getElem?_cons_zero, Option.some.injEq] at h
      subst h
      simp only [if_true]
      rw [Hp.get_alloc, if_pos rfl]
      exact ⟨rfl, by rw [Hp.next_alloc]; omega, fr.ext0.next⟩
    · have hlt : k < loc.length := by
        have := lt_of_get h
        simp at this; omega
      rw [List.getElem?_append_left hlt] at h
      obtain ⟨h1, h2, h3⟩ := fr.here k c h
      simp only [if_neg hk]
      rw [Hp.get_alloc, if_neg (by omega)]
      exact ⟨h1, by rw [Hp.next_alloc]; omega, h3⟩
  · intro k hk
    simp only [List.length_append, List.length_cons, List.length_nil] at hk
    by_cases e : k = loc.length
    · simp only [if_pos e]; exact hB
    · simp only [if_neg e]; exact fr.apart k (by omega)
  · intro j k hj hk e
    simp only [List.length_append, List.length_cons, List.length_nil] at hj hk
    by_cases e1 : j = loc.length
    · by_cases e2 : k = loc.length
      · omega
      · simp only [if_pos e1, if_neg e2] at e
        have := fr.ids_lt (k := k) (by omega); omega
    · by_cases e2 : k = loc.length
      · simp only [if_neg e1, if_pos e2] at e
        have := fr.ids_lt (k := j) (by omega); omega
      · simp only [if_neg e1, if_neg e2] at e
        exact fr.inj j k (by omega) (by omega) e
  · intro j e h
    have hk := fr.mine j e h
    exact hk.keep (Nat.le_refl _) (Nat.le_succ _) fun b x hb hx => by
      have := (hk.blk_lt hb).2
      rw [Hp.get_alloc, if_neg (by omega)]; exact hx
  · intro j e b h hb
    obtain ⟨h1, h2⟩ := fr.mineB j e b h hb
    refine ⟨h1, fun k hk => ?_⟩
    simp only [List.length_append, List.length_cons, List.length_nil] at hk
    have := ((fr.mine j e h).blk_lt hb).2
    by_cases e1 : k = loc.length
    · simp only [if_pos e1]; omega
    · simp only [if_neg e1]; exact h2 k (by omega)
theorem WF.store (fr : WF B0 B own loc ids H) {k : Nat} {cs cs' : List Value} (hk : loc[k]? = some cs) : WF B0 B own (loc.set k cs') ids (H.put (ids k) (.cells .fix cs')) := by
  obtain ⟨h1, h2, h3⟩ := fr.here k cs hk
  have hlt := lt_of_get hk
  refine ⟨fr.ext0.put _ h3, fr.nextB, fr.trim, ?_, ?_, ?_, ?_, ?_, ?_, fr.mineI⟩
  · intro b x h
    rw [Hp.get_put, if_neg (fun q => by have := fr.apart k hlt; rw [← q, h] at this; cases this)]; exact fr.sub b x h
  · intro j c h
    rw [Hp.get_put]
    by_cases e : j = k
    · subst e
      rw [List.getElem?_set_self hlt] at h; cases h
      rw [if_pos rfl]; exact ⟨rfl, h2, h3⟩
    · rw [List.getElem?_set_ne (fun q => e q.symm)] at h
      obtain ⟨g1, g2, g3⟩ := fr.here j c h
      rw [if_neg (fun q => e (fr.inj j k (lt_of_get h) hlt q))]
      exact ⟨g1, g2, g3⟩
  · intro j hj; rw [List.length_set] at hj; exact fr.apart j hj
  · intro i j hi hj; rw [List.length_set] at hi hj; exact fr.inj i j hi hj
  · intro j e h
    have he := fr.mine j e h
    exact he.keep (Nat.le_refl _) (Nat.le_refl _) fun b x hb hx => by
      rw [Hp.get_put, if_neg (fun q => (fr.mineB j e b h hb).2 k hlt q.symm)]; exact hx
  · intro j e b h hb
    obtain ⟨g1, g2⟩ := fr.mineB j e b h hb
    exact ⟨g1, fun i hi => g2 i (by rw [List.length_set] at hi; exact hi)⟩
def Hp.only (H : Hp) (p : Nat → Bool) : Hp → Prop := fun B => B.next = H.next ∧ ∀ b, B.get b = if b < H.next ∧ p b = true then H.get b else none
def killL : List Nat → Hp → Hp
  | [], H => H
  | b :: l, H => killL l (H.kill b)
theorem killL_next : ∀ (l : List Nat) (H : Hp), (killL l H).next = H.next
  | [], _ => rfl
  | _ :: l, H => (killL_next l _).trans rfl
theorem killL_get : ∀ (l : List Nat) (H : Hp) (c : Nat), (killL l H).get c = if c ∈ l then none else H.get c
  | [], _, _ => by simp [killL]
  | b :: l, H, c => by
    rw [killL, killL_get l _ c, Hp.get_kill]
    by_cases h : c ∈ l
    · simp [h]
    · by_cases e : c = b <;> simp [h, e]
def T.keys {α : Type} : T α → Nat
  | .nil => 0
  | .node _ l r => max 1 (max (2 * T.keys l) (2 * (T.keys r) + 1))
theorem T.get_keys {α : Type} : ∀ (t : T α) (n : Nat), t.keys ≤ n → t.get n = none
  | .nil, _, _ => rfl
  | .node v l r, n, h => by
    simp only [T.keys] at h
    rw [T.get_node, if_neg (by omega)]
    split
    · exact T.get_keys l _ (by omega)
    · exact T.get_keys r _ (by omega)
def Hp.rest (H : Hp) (l : List Nat) : Hp := killL (l ++ (List.range' H.next H.t.keys)) H
theorem Hp.rest_next (H : Hp) (l : List Nat) : (H.rest l).next = H.next := killL_next _ _
theorem Hp.rest_get (H : Hp) (l : List Nat) (b : Nat) : (H.rest l).get b = if b < H.next ∧ b ∉ l then H.get b else none := by
  rw [Hp.rest, killL_get]
  by_cases h1 : b ∈ l
  · simp [h1]
  · by_cases h2 : b < H.next
    · rw [if_neg (by simp [h1]; omega), if_pos ⟨h2, h1⟩]
    · rw [if_neg (show ¬(b < H.next ∧ b ∉ l) from fun q => h2 q.1)]
      by_cases h3 : b < H.next + H.t.keys
      · rw [if_pos (by simp; omega)]
      · rw [if_neg (by simp [h1]; omega)]
        exact T.get_keys _ _ (by omega)
def blks (own : List OwnE) : List Nat := own.filterMap OwnE.blk
theorem mem_blks {own : List OwnE} {b : Nat} : b ∈ blks own ↔ ∃ (j : Nat) (e : OwnE), own[j]? = some e ∧ e.blk = some b := by
  simp only [blks, List.mem_filterMap]
  constructor
  · rintro ⟨e, h1, h2⟩
    obtain ⟨j, h3⟩ := List.getElem?_of_mem h1
    exact ⟨j, e, h3, h2⟩
  · rintro ⟨j, e, h1, h2⟩
    exact ⟨e, List.mem_of_getElem? h1, h2⟩
def ownBlks (own : List OwnE) (n : Nat) (ids : Nat → Nat) : List Nat := blks own ++ (List.range n).map ids
def Itv (B B' : Hp) : Prop := ∀ b x, B.get b = some x → B'.get b = some x
theorem WF.call (fr : WF B0 B own loc ids H) {H' : Hp} (e : Ext H H') : ∃ B', WF B0 B' own loc ids H' ∧ Abv 0 B B' ∧ Abv H.next H' B' ∧ H.next ≤ B'.next ∧ Itv B B' := by
  have key : ∀ b, b ∈ ownBlks own loc.length ids → b < H.next := by
    intro b hb
    simp only [ownBlks, List.mem_append, List.mem_map, List.mem_range, mem_blks] at hb
    rcases hb with ⟨j, f, h1, h2⟩ | ⟨k, h1, rfl⟩
    · exact ((fr.mine j f h1).blk_lt h2).2
    · exact fr.ids_lt h1
  refine ⟨H'.rest (ownBlks own loc.length ids), ⟨fr.ext0.trans e, ?_, ?_, ?_, ?_, ?_, fr.inj, ?_, ?_, fr.mineI⟩, ⟨?_, ?_⟩, ⟨?_, ?_⟩, ?_, ?_⟩
  · rw [Hp.rest_next]; exact Nat.le_refl _
  · intro b x h
    rw [Hp.rest_get] at h; rw [Hp.rest_next]
    split at h
    · rename_i q; exact q.1
    · cases h
  · intro b x h
    rw [Hp.rest_get] at h
    split at h
    · exact h
    · cases h
  · intro k cs h
    obtain ⟨h1, h2, h3⟩ := fr.here k cs h
    exact ⟨by rw [e.same _ h2]; exact h1, Nat.lt_of_lt_of_le h2 e.next, h3⟩
  · intro k hk
    rw [Hp.rest_get, if_neg]
    intro q
    exact q.2 (by simp only [ownBlks, List.mem_append, List.mem_map, List.mem_range]; exact .inr ⟨k, hk, rfl⟩)
  · intro j f h
    have hf := fr.mine j f h
    exact hf.keep (Nat.le_refl _) e.next fun b x hb hx => by rw [e.same b (hf.blk_lt hb).2]; exact hx
  · intro j f b h hb
    refine ⟨?_, (fr.mineB j f b h hb).2⟩
    rw [Hp.rest_get, if_neg]
    intro q
    exact q.2 (by simp only [ownBlks, List.mem_append, mem_blks]; exact .inl ⟨j, f, h, hb⟩)
  · rw [Hp.rest_next]; exact Nat.le_trans fr.nextB e.next
  · intro b m0 cs0 _ h2 h3
    have hlt := Nat.lt_of_lt_of_le h2 fr.nextB
    rw [Hp.rest_get, if_pos, e.same b hlt]
    · exact fr.sub b _ h3
    · refine ⟨Nat.lt_of_lt_of_le hlt e.next, fun q => ?_⟩
      simp only [ownBlks, List.mem_append, List.mem_map, List.mem_range, mem_blks] at q
      rcases q with ⟨j, f, g1, g2⟩ | ⟨k, g1, rfl⟩
      · have := (fr.mineB j f b g1 g2).1; rw [h3] at this; cases this
      · have := fr.apart k g1; rw [h3] at this; cases this
  · rw [Hp.rest_next]; exact Nat.le_refl _
  · intro b m0 cs0 h1 h2 h3
    rw [Hp.rest_get, if_pos ⟨h2, fun q => by have := key b q; omega⟩]; exact h3
  · rw [Hp.rest_next]; exact e.next
  · intro b x0 h3
    have hlt := Nat.lt_of_lt_of_le (fr.trim b _ h3) fr.nextB
    rw [Hp.rest_get, if_pos, e.same b hlt]
    · exact fr.sub b _ h3
    · refine ⟨Nat.lt_of_lt_of_le hlt e.next, fun q => ?_⟩
      simp only [ownBlks, List.mem_append, List.mem_map, List.mem_range, mem_blks] at q
      rcases q with ⟨j, f, g1, g2⟩ | ⟨k, g1, rfl⟩
      · have := (fr.mineB j f b g1 g2).1; rw [h3] at this; cases this
      · have := fr.apart k g1; rw [h3] at this; cases this
theorem WF.setOwn (fr : WF B0 B own loc ids H) {j : Nat} {e e' : OwnE} {H' : Hp} (hj : own[j]? = some e) (hn : H.next ≤ H'.next)
    (hk : ∀ b, b < H.next → e.blk ≠ some b → H'.get b = H.get b) (he : e'.ok B0.next H') (hb : ∀ b, e'.blk = some b → H.next ≤ b ∨ e.blk = some b) : WF B0 B (own.set j e') loc ids H' := by
  have hlt := lt_of_get hj
  have hne : ∀ b, b < H.next → (∀ c, e.blk = some c → b ≠ c) → H'.get b = H.get b := fun b h1 h2 => hk b h1 fun q => h2 b q rfl
  refine ⟨⟨Nat.le_trans fr.ext0.next hn, fun b h => ?_⟩, Nat.le_trans fr.nextB hn, fr.trim, ?_, ?_, fr.apart, fr.inj, ?_, ?_, ?_⟩
  · rw [hne b (Nat.lt_of_lt_of_le h fr.ext0.next) fun c hc q => by have := ((fr.mine j e hj).blk_lt hc).1; omega]
    exact fr.ext0.same b h
  · intro b x h
    rw [hne b (by have := fr.trim b x h; have := fr.nextB; omega) fun c hc q => by have := (fr.mineB j e c hj hc).1; rw [← q, h] at this; cases this]
    exact fr.sub b x h
  · intro k cs h
    obtain ⟨h1, h2, h3⟩ := fr.here k cs h
    exact ⟨by rw [hne _ h2 fun c hc q => (fr.mineB j e c hj hc).2 k (lt_of_get h) q]; exact h1, Nat.lt_of_lt_of_le h2 hn, h3⟩
  · intro i f h
    by_cases q : i = j
    · subst q; rw [List.getElem?_set_self hlt] at h; cases h; exact he
    · rw [List.getElem?_set_ne (fun r => q r.symm)] at h
      have hf := fr.mine i f h
      exact hf.keep (Nat.le_refl _) hn fun b x hb hx => by
        rw [hne b (hf.blk_lt hb).2 fun c hc r => q (fr.mineI i j f e b h hj hb (by rw [r]; exact hc))]; exact hx
  · intro i f b h hf
    by_cases q : i = j
    · subst q; rw [List.getElem?_set_self hlt] at h; cases h
      rcases hb b hf with r | r
      · refine ⟨?_, fun k hk' => by have := fr.ids_lt hk'; omega⟩
        cases hB : B.get b with
        | none => rfl
        | some x => have := fr.trim b x hB; have := fr.nextB; omega
      · exact fr.mineB i e b hj r
    · rw [List.getElem?_set_ne (fun r => q r.symm)] at h
      exact fr.mineB i f b h hf
  · intro i k f g b hi hk' hf hg
    have aux : ∀ i f, i ≠ j → (own.set j e')[i]? = some f → f.blk = some b → e'.blk = some b → False := by
      intro i f q h hf he'
      rw [List.getElem?_set_ne (fun r => q r.symm)] at h
      rcases hb b he' with r | r
      · have := ((fr.mine i f h).blk_lt hf).2; omega
      · exact q (fr.mineI i j f e b h hj hf r)
    by_cases q : i = j
    · by_cases r : k = j
      · omega
      · subst q; rw [List.getElem?_set_self hlt] at hi; cases hi
        exact (aux k g r hk' hg hf).elim
    · by_cases r : k = j
      · subst r; rw [List.getElem?_set_self hlt] at hk'; cases hk'
        exact (aux i f q hi hf hg).elim
      · rw [List.getElem?_set_ne (fun r => q r.symm)] at hi
        rw [List.getElem?_set_ne (fun s => r s.symm)] at hk'
        exact fr.mineI i k f g b hi hk' hf hg
theorem WF.addOwn (fr : WF B0 B own loc ids H) {e' : OwnE} {H' : Hp} (x : Ext H H') (he : e'.ok B0.next H') (hb : ∀ b, e'.blk = some b → H.next ≤ b) : WF B0 B (own ++ [e']) loc ids H' := by
  have get : ∀ i f, (own ++ [e'])[i]? = some f → (i < own.length ∧ own[i]? = some f) ∨ (i = own.length ∧ f = e') := by
    intro i f h
    by_cases q : i < own.length
    · rw [List.getElem?_append_left q] at h; exact .inl ⟨q, h⟩
    · have := lt_of_get h
      simp at this
      have q : i = own.length := by omega
      subst q
      simp at h
      exact .inr ⟨rfl, h.symm⟩
  refine ⟨fr.ext0.trans x, Nat.le_trans fr.nextB x.next, fr.trim, ?_, ?_, fr.apart, fr.inj, ?_, ?_, ?_⟩
  · intro b y h
    rw [x.same b (by have := fr.trim b y h; have := fr.nextB; omega)]; exact fr.sub b y h
  · intro k cs h
    obtain ⟨h1, h2, h3⟩ := fr.here k cs h
    exact ⟨by rw [x.same _ h2]; exact h1, Nat.lt_of_lt_of_le h2 x.next, h3⟩
  · intro i f h
    rcases get i f h with ⟨_, h⟩ | ⟨_, rfl⟩
    · have hf := fr.mine i f h
      exact hf.keep (Nat.le_refl _) x.next fun b y hb hy => by rw [x.same b (hf.blk_lt hb).2]; exact hy
    · exact he
  · intro i f b h hf
    rcases get i f h with ⟨_, h⟩ | ⟨_, rfl⟩
    · exact fr.mineB i f b h hf
    · refine ⟨?_, fun k hk' => by have := fr.ids_lt hk'; have := hb b hf; omega⟩
      cases hB : B.get b with
      | none => rfl
      | some x => have := fr.trim b x hB; have := fr.nextB; have := hb b hf; omega
  · intro i k f g b hi hk hf hg
    rcases get i f hi with ⟨_, h⟩ | ⟨h, rfl⟩ <;> rcases get k g hk with ⟨_, h'⟩ | ⟨h', rfl⟩
    · exact fr.mineI i k f g b h h' hf hg
    · have := ((fr.mine i f h).blk_lt hf).2; have := hb b hg; omega
    · have := ((fr.mine k g h').blk_lt hg).2; have := hb b hf; omega
    · omega
theorem WF.less (fr : WF B0 B own loc ids H) {loc' : List (List Value)} {own' : List OwnE} (σ : Nat → Nat) (hl : loc'.length ≤ loc.length) (h1 : ∀ k, k < loc'.length → loc'[k]? = loc[k]?) (h2 : ∀ j e, own'[j]? = some e → own[σ j]? = some e) (h3 : ∀ i j, i < own'.length → j < own'.length → σ i = σ j → i = j) : WF B0 B own' loc' ids H := by
  refine ⟨fr.ext0, fr.nextB, fr.trim, fr.sub, fun k cs h => fr.here k cs (by rw [← h1 k (lt_of_get h)]; exact h), fun k hk => fr.apart k (by omega), fun j k hj hk => fr.inj j k (by omega) (by omega), fun j e h => fr.mine _ e (h2 j e h), fun j e b h hb => ?_, fun i j e f b hi hj he hf => ?_⟩
  · obtain ⟨g1, g2⟩ := fr.mineB _ e b (h2 j e h) hb
    exact ⟨g1, fun k hk => g2 k (by omega)⟩
  · exact h3 i j (lt_of_get hi) (lt_of_get hj) (fr.mineI _ _ e f b (h2 i e hi) (h2 j f hj) he hf)
theorem WF.base (fr : WF B0 B own loc ids H) (B' : Hp) (hn : B'.next ≤ B.next) (ht : ∀ b x, B'.get b = some x → b < B'.next) (hs : ∀ b x, B'.get b = some x → B.get b = some x) : WF B0 B' own loc ids H := by
  have none_ : ∀ b, B.get b = none → B'.get b = none := fun b h => by
    cases q : B'.get b with
    | none => rfl
    | some x => rw [hs b x q] at h; cases h
  exact ⟨fr.ext0, Nat.le_trans hn fr.nextB, ht, fun b x h => fr.sub b x (hs b x h), fr.here, fun k hk => none_ _ (fr.apart k hk), fr.inj, fr.mine, fun j e b h hb => ⟨none_ _ (fr.mineB j e b h hb).1, (fr.mineB j e b h hb).2⟩, fr.mineI⟩
end frames
def Hp.trimmed (H : Hp) : Hp := H.rest []
theorem WF.start (H : Hp) (ids : Nat → Nat) : WF H H.trimmed [] [] ids H := by
  refine ⟨Ext.refl H, by rw [Hp.trimmed, Hp.rest_next]; exact Nat.le_refl _, ?_, ?_, fun k cs h => by simp at h, fun k h => by simp at h, fun j k h => by simp at h, fun j e h => by simp at h, fun j e b h => by simp at h, fun i j e f b h => by simp at h⟩
  · intro b x h
    rw [Hp.trimmed, Hp.rest_get] at h
    rw [Hp.trimmed, Hp.rest_next]
    split at h
    · rename_i q; exact q.1
    · cases h
  · intro b x h
    rw [Hp.trimmed, Hp.rest_get] at h
    split at h
    · exact h
    · cases h
theorem Abv.trimmed (H : Hp) : Abv 0 H H.trimmed := by
  refine ⟨by rw [Hp.trimmed, Hp.rest_next]; exact Nat.le_refl _, fun b m cs _ h1 h2 => ?_⟩
  rw [Hp.trimmed, Hp.rest_get, if_pos ⟨h1, by simp⟩]; exact h2
end Go.Det
