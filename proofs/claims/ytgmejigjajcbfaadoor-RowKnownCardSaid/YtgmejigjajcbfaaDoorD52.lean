import Derived.Test.YtgmejigjajcbfaaDoorD51
import Derived.Lib.LaidTab
import Derived.Lib.LaidU8
set_option linter.unusedSimpArgs false
set_option linter.unusedVariables false
namespace Go.Det
open Go Go.RowKit

/-! ## 40. Package variables that a row lists -/
theorem laid_tab {P : Program} {W : World} {name : String} {k : IntKind} {zs : List Int} {g : Nat} {t e : TypeId} {n : Nat}
    (hg : P.globalNamed name = some g) (hty : (P.globals[g]?).map (·.type) = some t) (ht : P.underlying t = some (.array n e)) (he : P.underlying e = some (.int k)) (hce : P.cellsOf e = 1) (hct : P.cellsOf t = n)
    (h : Lib.VarReads P W name (Lib.tabData k zs)) : g < W.heap.size ∧ ∃ t fr, W.heap[g]? = some (.cells ⟨zs.map fun z => .int k z⟩ t fr) := by
  obtain ⟨g', t', cs, fuel, p, hg', hty', hv, hd⟩ := h
  rw [hg] at hg'; cases hg'
  rw [hty] at hty'; cases hty'
  have hc := Lib.cells_of_tab ht he hce hct hd
  have hcs : cs = ⟨zs.map fun z => .int k z⟩ := by rw [← hc]
  subst hcs
  unfold World.var? at hv
  rw [hg] at hv
  simp only [Option.bind_some] at hv
  split at hv
  · rename_i c1 t1 f1 hh
    cases hv
    exact ⟨(Array.getElem?_eq_some_iff.1 hh).1, _, _, hh⟩
  · cases hv

theorem Laid.tabIs {P : Program} {w : World} {B : Nat} (h : Laid w B) {g : Nat} {k : IntKind} {zs : List Int} (hm : (g, zs.map fun z => Value.int k z) ∈ seatCells) {name : String} (hg : P.globalNamed name = some g) : Lib.TabIs P w name k zs := by
  obtain ⟨_, t, fr, e⟩ := h.1 _ hm
  unfold Lib.TabIs World.var?
  rw [hg]
  simp only [Option.bind_some, e]
theorem Laid.cell {w : World} {B : Nat} (h : Laid w B) {g : Nat} {cs : List Value} (hm : (g, cs) ∈ seatCells) (j : Nat) (v : Value) (e : cs[j]? = some v) : w.cell? ⟨g, j, none⟩ = some v := by
  obtain ⟨_, t, fr, hh⟩ := h.1 _ hm
  simp [World.cell?, hh, e]
theorem GX.now {P : Program} {X : Cx} (h : GX P X) {R : Ren} {H : Hp} {w : World} (r : Rel X R H w) : Laid w w.heap.size := (h.laid.mono r.below).le r.size

/-- The kit's own contracts, where they ask for what the package's variables hold. -/
theorem SCall.ofCallsL {P : Program} {f : FuncId} {args : List Value} {v : Value} (h : ∀ w, Laid w w.heap.size → Calls P f ⟨args⟩ w fun e w' => e = .returned v ∧ Below w.heap.size w w') (ha : flats args = true) (hv : flat v = true) (H : Hp) :
    SCall P f args H (Ret fun v' H' => H' = H ∧ v' = v) := by
  refine ⟨.ret v, H, ⟨v, rfl, rfl, rfl⟩, fun X R w args' hG hR hargs cs => ?_⟩
  have he := flats_eq hargs ha
  subst he
  obtain ⟨e, w', fr, ⟨rfl, hb⟩, hc, hf, hl⟩ := h w (hG.now hR) cs
  exact ⟨R, w', .ret v, fr, Ren.le_refl R, hR.later hb, .ret (flat_refl hv), hf, hc, hl⟩
end Go.Det
