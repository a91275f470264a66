import Derived.Test.YtgmejigjajcbfaaDoorD59
set_option linter.unusedSimpArgs false
set_option linter.unusedVariables false
namespace Go.Det
open Go Go.RowKit

/-! ## 48. A block that a library function made: nothing is known of what it holds -/
theorem Rel.adoptNew {X : Cx} {w w' : World} {R : Ren} {H : Hp} (h : Rel X R H w) (k : Below w.heap.size w w') {N : Nat} (hN : w.heap.size ≤ N) {cs : Array Value} {e : TypeId} (hw : w'.heap[N]? = some (.cells cs e (0, 0))) :
    Rel X (R.add H.next ⟨N, 0, 1, cs.size, true⟩) (H.alloc (.cells (.more 1) [])) w' ∧ R.le (R.add H.next ⟨N, 0, 1, cs.size, true⟩) := by
  have hn : R H.next = none := h.free _ (Nat.le_refl _)
  have hle := Ren.le_add (R := R) ⟨N, 0, 1, cs.size, true⟩ hn
  have hNs : N < w'.heap.size := (Array.getElem?_eq_some_iff.1 hw).1
  have hlt : ∀ b j y, H.get b = some y → R b = some j → j.blk < w.heap.size := by
    intro b j y e r
    obtain ⟨j', r', br⟩ := h.blk b y e
    rw [r] at r'; cases r'
    rcases RI_own_of_BR br with ⟨k, _⟩ | ⟨_, k, _⟩
    · exact h.lt b j r k
    · have := h.size; omega
  have h' := h.later k
  refine ⟨⟨?_, ?_, ?_, ?_, h'.below, h'.size, ?_, by rw [Hp.next_alloc]; have := h.gle; omega, ?_⟩, hle⟩
  · intro b y e
    rw [Hp.get_alloc] at e
    by_cases q : b = H.next
    · subst q; rw [if_pos rfl] at e; cases e
      refine ⟨_, Ren.add_same _ _ _, .own (.more 1) [] cs _ (0, 0) (by decide) rfl (Nat.le_trans h.size hN) hw rfl (Nat.zero_le _) (fun q => by cases q) (Mode.okE.more (i := ⟨N, 0, 1, cs.size, true⟩)) (fun o _ q => by omega) (fun j v q => by simp at q)⟩
    · rw [if_neg q] at e
      obtain ⟨j, r, br⟩ := h'.blk b y e
      exact ⟨j, hle _ _ r, br.keep hle rfl⟩
  · intro b c j l y z eb ec rb rc ob oc e
    rw [Hp.get_alloc] at eb ec
    by_cases kb : b = H.next
    · by_cases kc : c = H.next
      · omega
      · rw [if_neg kc] at ec
        subst kb
        rw [Ren.add_same] at rb; cases rb
        have rc' : R c = some l := by simpa [Ren.add, kc] using rc
        have := hlt c l z ec rc'
        have e' : N = l.blk := e
        omega
    · rw [if_neg kb] at eb
      have rb' : R b = some j := by simpa [Ren.add, kb] using rb
      by_cases kc : c = H.next
      · subst kc
        rw [Ren.add_same] at rc; cases rc
        have := hlt b j y eb rb'
        have e' : j.blk = N := e
        omega
      · rw [if_neg kc] at ec
        have rc' : R c = some l := by simpa [Ren.add, kc] using rc
        exact h.inj b c j l y z eb ec rb' rc' ob oc e
  · intro b hb
    rw [Hp.next_alloc] at hb
    have : b ≠ H.next := by omega
    simp only [Ren.add, if_neg this]
    exact h.free b (by omega)
  · intro b i r ho
    by_cases q : b = H.next
    · subst q; rw [Ren.add_same] at r; cases r; exact hNs
    · have r' : R b = some i := by simpa [Ren.add, q] using r
      exact h'.lt b i r' ho
  · intro g hg
    obtain ⟨i, r, q⟩ := h.glob g hg
    exact ⟨i, hle _ _ r, q⟩
  · intro q o hq
    obtain ⟨h1, h2, h3⟩ := h'.kept q o hq
    refine ⟨h1, h2, fun b i r ho => ?_⟩
    by_cases qb : b = H.next
    · subst qb; rw [Ren.add_same] at r; cases r
      have := (h.kept q o hq).2.1
      have := (Array.getElem?_eq_some_iff.1 this).1
      simp only; omega
    · have r' : R b = some i := by simpa [Ren.add, qb] using r
      exact h3 b i r' ho
/-- A number, and an error that is new. -/
theorem SCall.ofErr {P : Program} {f : FuncId} {args : List Value} {v : Int} {T : TypeId} (h : ∀ w, Laid w w.heap.size → Calls P f ⟨args⟩ w fun e w' => ∃ N cs t, e = .returned (.tuple #[.int .i64 v, .iface T (.pointer (some ⟨N, 0, none⟩))]) ∧ w.heap.size ≤ N ∧ w'.heap[N]? = some (.cells cs t (0, 0)) ∧ Below w.heap.size w w') (ha : flats args = true) (H : Hp) :
    SCall P f args H (Ret fun v' H' => Ext H H' ∧ ∃ y, v' = .tuple ⟨[.int .i64 v, y]⟩ ∧ errR false y) := by
  refine ⟨.ret (.tuple ⟨[.int .i64 v, .iface T (.pointer (some ⟨H.next, 0, none⟩))]⟩), H.alloc (.cells (.more 1) []), ⟨_, rfl, (Ext.refl _).alloc _, _, rfl, _, _, rfl⟩, fun X R w args' hG hR hargs cs0 => ?_⟩
  have he := flats_eq hargs ha
  subst he
  obtain ⟨e, w', fr, ⟨N, cs, t, rfl, hN, hw, hb⟩, hc', hf, hl⟩ := h w (hG.now hR) cs0
  obtain ⟨hR', hle⟩ := hR.adoptNew hb hN hw
  exact ⟨_, _, .ret _, fr, hle, hR', .ret (.tuple (.cons (.int _ _) (.cons (.iface _ (.ptr ⟨rfl, rfl, _, Ren.add_same _ _ _, rfl, rfl⟩)) .nil))), hf, hc', hl⟩
theorem SCall.ofOk {P : Program} {f : FuncId} {args : List Value} {v : Int} (h : ∀ w, Laid w w.heap.size → Calls P f ⟨args⟩ w fun e w' => e = .returned (.tuple #[.int .i64 v, .nilIface]) ∧ Below w.heap.size w w') (ha : flats args = true) (H : Hp) :
    SCall P f args H (Ret fun v' H' => Ext H H' ∧ ∃ y, v' = .tuple ⟨[.int .i64 v, y]⟩ ∧ errR true y) :=
  (SCall.ofCallsL (v := .tuple ⟨[.int .i64 v, .nilIface]⟩) h ha rfl H).mono fun _ _ ⟨_, h1, h2, h3⟩ => by
    subst h2 h3
    exact ⟨_, h1, Ext.refl _, _, rfl, rfl⟩
end Go.Det
