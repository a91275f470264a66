import Derived.Test.YtmkcobpgmcfbkaaGreatDoorD52
import Derived.Test.YtmkcobpgmcfbkaaGreatDoorRows
import Derived.Shelf.Vars
import Derived.Lib.LaidU8
import Derived.LaidMore
import Derived.LaidOnce
import Derived.LaidHandle
import Derived.Lay
import Derived.Stop.Joined
set_option linter.unusedVariables false
namespace Go.Proofs.YtmkcobpgmcfbkaaGreatDoor
open Go Go.Det Go.RowKit
/-! What the rows list: a table of functions (and a type's handle, which is not looked at) -/
theorem nil_of_trod {P : Program} {w : World} {base : Nat} {sp : Nat → Bool} {fuel : Nat} {t : TypeId} {ps rs : Array TypeId} {va : Bool} {v : Value} {q : List MemPlace}
    (ht : P.underlying t = some (.func ps rs va)) (h : DataW.trod (funcToken P) P w base sp true fuel t [v] = some (.nil, q)) : v = .nilFunc := by
  cases fuel with
  | zero => simp [DataW.trod] at h
  | succ n => cases v <;> simp [DataW.trod, ht] at h <;> rfl
theorem seven {l : List Value} (h : l.length = 7) : ∃ a b c d e f g, l = [a, b, c, d, e, f, g] := by
  match l, h with
  | [a, b, c, d, e, f, g], _ => exact ⟨a, b, c, d, e, f, g, rfl⟩
set_option maxRecDepth 100000 in
theorem knownF {W : World} {l : List (String × DataW Unit)} (hm : ("tipstaff/word.does", (Rows.laid_tipstaff_word_does : DataW Unit)) ∈ l) (h : laidMetH Tryz.prog l W) : Laid W W.heap.size := by
  obtain ⟨g, t, cs, fuel, p, hg, ht, hv, hd⟩ := h.funcs (n := "tipstaff/word.does") hm
  obtain rfl := Option.some.inj ((show Tryz.prog.globalNamed "tipstaff/word.does" = some 0 by kernel_rfl).symm.trans hg)
  obtain rfl := Option.some.inj ((show (Tryz.prog.globals[0]?).map (·.type) = some 145 by kernel_rfl).symm.trans ht)
  have hd' : DataW.trod (funcToken Tryz.prog) Tryz.prog W 0 (fun _ => true) true fuel 145 cs.toList = some (.agg [.nil, .held [116, 105, 112, 115, 116, 97, 102, 102, 47, 119, 111, 114, 100, 46, 100, 111, 101, 115, 36, 49], .held [116, 105, 112, 115, 116, 97, 102, 102, 47, 119, 111, 114, 100, 46, 100, 111, 101, 115, 36, 50], .held [116, 105, 112, 115, 116, 97, 102, 102, 47, 119, 111, 114, 100, 46, 102, 97, 117, 108, 116], .held [116, 105, 112, 115, 116, 97, 102, 102, 47, 119, 111, 114, 100, 46, 102, 97, 117, 108, 116], .held [116, 105, 112, 115, 116, 97, 102, 102, 47, 119, 111, 114, 100, 46, 102, 97, 117, 108, 116], .held [116, 105, 112, 115, 116, 97, 102, 102, 47, 119, 111, 114, 100, 46, 102, 97, 117, 108, 116]], p) := hd
  have hu : Tryz.prog.underlying 145 = some (.array 7 144) := by kernel_rfl
  have hc : Tryz.prog.cellsOf 144 = 1 := by kernel_rfl
  have hl : cs.toList.length = 7 := by
    cases fuel with
    | zero => simp [DataW.trod] at hd'
    | succ fuel =>
      simp only [DataW.trod, hu, hc] at hd'
      split at hd'
      · rename_i q; exact q.trans (by kernel_rfl)
      · cases hd'
  obtain ⟨v0, v1, v2, v3, v4, v5, v6, hcs⟩ := seven hl
  rw [hcs] at hd'
  obtain ⟨n0, d0, q0, i0, r0⟩ := Lib.array_elem hu hd' 0 (by decide)
  obtain ⟨n1, d1, q1, i1, r1⟩ := Lib.array_elem hu hd' 1 (by decide)
  obtain ⟨n2, d2, q2, i2, r2⟩ := Lib.array_elem hu hd' 2 (by decide)
  obtain ⟨n3, d3, q3, i3, r3⟩ := Lib.array_elem hu hd' 3 (by decide)
  obtain ⟨n4, d4, q4, i4, r4⟩ := Lib.array_elem hu hd' 4 (by decide)
  obtain ⟨n5, d5, q5, i5, r5⟩ := Lib.array_elem hu hd' 5 (by decide)
  obtain ⟨n6, d6, q6, i6, r6⟩ := Lib.array_elem hu hd' 6 (by decide)
  rw [hc] at r0 r1 r2 r3 r4 r5 r6
  cases i0
  cases i1
  cases i2
  cases i3
  cases i4
  cases i5
  cases i6
  obtain rfl := nil_of_trod Tryz.underlying144 r0
  obtain rfl := func_of_trod (f0 := 191) Tryz.underlying144 (by kernel_rfl) r1
  obtain rfl := func_of_trod (f0 := 192) Tryz.underlying144 (by kernel_rfl) r2
  obtain rfl := func_of_trod (f0 := 193) Tryz.underlying144 (by kernel_rfl) r3
  obtain rfl := func_of_trod (f0 := 193) Tryz.underlying144 (by kernel_rfl) r4
  obtain rfl := func_of_trod (f0 := 193) Tryz.underlying144 (by kernel_rfl) r5
  obtain rfl := func_of_trod (f0 := 193) Tryz.underlying144 (by kernel_rfl) r6
  refine ⟨fun p hp => ?_, fun g hg => by simp [seatInts] at hg, fun g hg => by simp [seatIfs] at hg⟩
  simp only [seatCells, List.mem_cons, List.mem_nil_iff, or_false] at hp
  subst hp
  unfold World.var? at hv
  rw [hg] at hv
  simp only [Option.bind_some] at hv
  split at hv
  · rename_i c1 t1 f1 hh
    cases hv
    refine ⟨(Array.getElem?_eq_some_iff.1 hh).1, t1, f1, ?_⟩
    rw [hh]
    congr 2
    apply Array.ext'
    rw [hcs]
    rfl
  · cases hv
end Go.Proofs.YtmkcobpgmcfbkaaGreatDoor
