import Derived.Test.YtmkcobpgmcfbkaaGreatDoorD35
set_option linter.unusedSimpArgs false
set_option linter.unusedVariables false
namespace Go.Det
open Go Go.RowKit
def noHp : Hp := ⟨.nil, 0, 0⟩
theorem noHp_ext (H : Hp) : Ext noHp H := ⟨Nat.zero_le _, fun b h => absurd h (Nat.not_lt_zero _)⟩
section rules
variable {P : Program} {Q : Ex → SS → Prop} {n : NN} {B0 B : Hp} {k k' : KK} {x x' x'' : VS}
theorem SCall.w {f : FuncId} {fn : Func} {c : Code} {args : List Value} {H : Hp} {Q : En → Hp → Prop} (hf : P.funcs[f]? = some fn) (hb : fn.body = some c) {m : Nat} (hn : fn.ntmps = m) {g : Nat} (hg : args.length = g) (hl : Nat.ble g m = true)
    {res : List ResultVar} (hr : fn.results.toList = res) {l : VEnv} (he : ∀ ids, denE ids l = envOf args) (h : VJ P ⟨m, true⟩ noHp H [.code c] (bodyS P res Q) ⟨l, [], true, 0⟩) : SCall P f args H Q :=
  SCall.body hf hb hn (by rw [hg]; exact Nat.le_of_ble_eq_true hl) hr (by
    have := h (fun _ => 0) H ⟨noHp_ext H, Nat.le_refl _, fun _ => Ext.refl H, fun k cs h => by simp at h, fun k h => by simp at h, fun j k h => by simp at h⟩
    simp only [VS.ss, he] at this
    exact this)
end rules
end Go.Det

set_option linter.unusedSimpArgs false
set_option linter.unusedVariables false
namespace Go.Det
open Go Go.RowKit
theorem Sl.src {H : Hp} {sz : Nat} {a : Option Addr} {len cap : Nat} {cs : List Value} (h : Sl H sz a len cap cs) : srcD H sz (.slice a len cap) len = some cs := by
  obtain ⟨h1, h2⟩ := h
  rcases h2 with ⟨rfl, rfl, rfl⟩ | ⟨b, o, rfl, rfl | ⟨m, all, g1, g2, g3, g4⟩⟩
  · have : cs = [] := List.length_eq_zero_iff.1 (by simpa using h1)
    subst this; rfl
  · have : cs = [] := List.length_eq_zero_iff.1 (by simpa using h1)
    subst this; simp [srcD]
  · unfold srcD
    simp only
    by_cases h0 : len = 0
    · rw [if_pos h0]
      have : cs = [] := List.length_eq_zero_iff.1 (by simp [h1, h0])
      rw [this]
    · rw [if_neg h0]
      simp only [g1]
      rw [if_pos ⟨g3, Nat.le_refl _⟩, g4]
structure Elem (P : Program) (c : Call) (t e : TypeId) (sz by_ : Nat) : Prop where
  a0 : c.argTypes[0]? = some t
  a1 : ∃ u d, c.argTypes[1]? = some u ∧ P.underlying u = some d ∧ ∀ k, d ≠ .int k
  ut : P.underlying t = some (.slice e)
  size : sizeD P e = some sz
  byt : bytesD P e = some by_
  zero : ∃ z, zeroD P e = some z ∧ z.cells.size = sz
  pos : 0 < sz
theorem append_nil {P : Program} {H : Hp} {c : Call} {t e : TypeId} {sz by_ m : Nat} {x : Value} {new : List Value} (E : Elem P c t e sz by_) (hl : lenD x = some m) (hs : srcD H sz x m = some new) (h0 : 0 < m) (hb : m * by_ ≤ 140737488355328) (hm : m ≤ 140737488355328) :
    appendD P H c.argTypes (.slice none 0 0) x = some (.slice (some ⟨H.next, 0, none⟩) m LOOSE, H.alloc (.cells (.more sz (tyU P e)) new)) := by
  obtain ⟨u, d, hu, hd, hk⟩ := E.a1
  obtain ⟨z, hz, hzs⟩ := E.zero
  unfold appendD
  simp only [E.a0, hu, E.ut, hd]
  have hp := E.pos
  cases d <;> first | exact absurd rfl (hk _) | skip
  all_goals
    simp only [E.size, E.byt, hz, hl]
    rw [if_pos ⟨hp, hzs⟩]
    simp only [hs]
    rw [if_neg (by omega), if_pos ⟨hb, hm⟩]
theorem append_fix {P : Program} {H : Hp} {c : Call} {t e : TypeId} {sz by_ m b o len cap : Nat} {x : Value} {new cs : List Value} {mode : Mode} (E : Elem P c t e sz by_) (hl : lenD x = some m) (hs : srcD H sz x m = some new) (h0 : 0 < m) (hg : H.get b = some (.cells mode cs)) (hcap : cap < LOOSE) (hgrow : cap < len + m)
    (hb : (len + m) * by_ ≤ 140737488355328) (hm : len + m ≤ 140737488355328) (hlen : o + len * sz ≤ cs.length) :
    appendD P H c.argTypes (.slice (some ⟨b, o, none⟩) len cap) x = some (.slice (some ⟨H.next, 0, none⟩) (len + m) LOOSE, H.alloc (.cells (.more sz (tyU P e)) ((cs.drop o).take (len * sz) ++ new))) := by
  obtain ⟨u, d, hu, hd, hk⟩ := E.a1
  obtain ⟨z, hz, hzs⟩ := E.zero
  unfold appendD
  simp only [E.a0, hu, E.ut, hd]
  have hp := E.pos
  cases d <;> first | exact absurd rfl (hk _) | skip
  all_goals
    simp only [E.size, E.byt, hz, hl]
    rw [if_pos ⟨hp, hzs⟩]
    simp only [hs, hg]
    rw [if_neg (by omega), if_neg (by omega), if_pos ⟨hb, hm⟩, if_pos hcap, if_pos hlen]
theorem append_more {P : Program} {H : Hp} {c : Call} {t e : TypeId} {sz by_ m b o len : Nat} {x : Value} {new cs : List Value} {mt : Option TypeId} (E : Elem P c t e sz by_) (hl : lenD x = some m) (hs : srcD H sz x m = some new) (h0 : 0 < m) (hg : H.get b = some (.cells (.more sz mt) cs)) (hpos : 0 < len)
    (hb : (len + m) * by_ ≤ 140737488355328) (hm : len + m ≤ 140737488355328) (hlen : o + len * sz = cs.length) (h1 : (new.all fun v => v.oneCell') = true) :
    appendD P H c.argTypes (.slice (some ⟨b, o, none⟩) len LOOSE) x = some (.slice (some ⟨H.next, 0, none⟩) (len + m) LOOSE, (H.kill b).alloc (.cells (.more sz (tyJ o mt (tyU P e))) (cs.drop o ++ new))) := by
  obtain ⟨u, d, hu, hd, hk⟩ := E.a1
  obtain ⟨z, hz, hzs⟩ := E.zero
  unfold appendD
  simp only [E.a0, hu, E.ut, hd]
  have hp := E.pos
  cases d <;> first | exact absurd rfl (hk _) | skip
  all_goals
    simp only [E.size, E.byt, hz, hl]
    rw [if_pos ⟨hp, hzs⟩]
    simp only [hs, hg]
    have htk : (cs.drop o).take (len * sz) = cs.drop o := List.take_of_length_le (by rw [List.length_drop]; omega)
    rw [if_neg (by omega), if_neg (by simp), if_pos ⟨hb, hm⟩, if_neg (by simp), if_pos ⟨trivial, by simp [Mode.isMore], Nat.le_of_eq hlen, h1⟩, htk]
    rfl
end Go.Det

set_option linter.unusedSimpArgs false
set_option linter.unusedVariables false
namespace Go.Det
open Go Go.RowKit
section ops
variable {P : Program} {H : Hp} {ev : Ev} {o : Oper}
theorem opD_buildSlice {t : TypeId} {n : Nat} {parts : Array (Nat × Operand)} {l : List (Nat × Value)} {v : Value} {H' : Hp} (ho : o.op = .buildSlice t n parts) (hl : partsD ev parts.toList = some l) (h : buildSliceD P H t n l = some (v, H')) : opD P H ev o = some (.val v H') := by
  unfold opD; simp only [ho, hl, h]
end ops
end Go.Det

set_option linter.unusedSimpArgs false
set_option linter.unusedVariables false
namespace Go.Det
open Go Go.RowKit
section rules
variable {P : Program} {Q : Ex → SS → Prop} {n : NN} {B0 B D : Hp} {kD : Nat} {k : KK} {a : Array Oper} {fl : Bool}
theorem side_bin {i : Nat} {o : Oper} {s : SS} {x : VS} {ids : Nat → Nat} {H : Hp} (ho : a[i]? = some o) (hr : cls P o.op = some .pure) (h0 : s.H = D) (f : FrD B0 B D kD x.cl x.kB x.loc ids H) : side P a fl s.st i (x.ss ids n H).st := by
  intro hfl
  refine ⟨by show Ext s.H H; rw [h0]; exact f.extD, fun hf => ?_⟩
  unfold floating at hf
  rw [ho] at hf
  simp [isRead, hr] at hf
end rules
end Go.Det
