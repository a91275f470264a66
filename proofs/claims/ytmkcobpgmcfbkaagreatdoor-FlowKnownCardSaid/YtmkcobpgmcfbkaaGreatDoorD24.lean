import Derived.Test.YtmkcobpgmcfbkaaGreatDoorD23
set_option linter.unusedSimpArgs false
set_option linter.unusedVariables false
namespace Go.Det
open Go Go.RowKit
theorem add_eq {a : Addr} (h : a.spot = none) (k : Nat) : a.add k = ⟨a.block, a.off + k, none⟩ := by
  cases a with
  | mk b o s =>
    simp only at h
    subst h
    unfold Addr.add
    by_cases hk : k = 0
    · subst hk; simp
    · rw [if_neg hk]
theorem cells_get {w : World} {a : Addr} {n : Nat} {cs : List Value} (h : w.cells? 0 a n = some cs) : cs.length = n ∧ ∀ i, i < n → w.cell? (a.add i) = cs[i]? := by
  unfold World.cells? at h
  rw [if_pos (Nat.zero_le _)] at h
  exact ⟨by simpa using mapM_some_length h, fun i hi => mapM_some_get h i i (by simp [hi])⟩
theorem spot_of_cell {w : World} {a : Addr} {v : Value} (h : w.cell? a = some v) : a.spot = none ∧ a.block < w.heap.size := by
  unfold World.cell? at h
  split at h
  · rename_i c _ _ hb
    have hlt : a.block < w.heap.size := (Array.getElem?_eq_some_iff.1 hb).1
    split at h
    · cases h
    · rename_i hs
      refine ⟨?_, hlt⟩
      cases hs' : a.spot with
      | none => rfl
      | some s => rw [hs'] at hs; simp at hs
  · cases h
theorem flatten_read {w : World} {b sz : Nat} : ∀ (k o : Nat) (c : Nat → List Value), (∀ i, i < k → (c i).length = sz ∧ ∀ j, j < sz → w.cell? ⟨b, o + i * sz + j, none⟩ = (c i)[j]?) →
    ∀ (j : Nat) (v : Value), ((List.range k).map c).flatten[j]? = some v → w.cell? ⟨b, o + j, none⟩ = some v
  | 0, o, c, _, j, v, h => by simp at h
  | k + 1, o, c, hc, j, v, h => by
    rw [List.range_succ_eq_map, List.map_cons, List.flatten_cons, List.map_map] at h
    obtain ⟨h1, h2⟩ := hc 0 (by omega)
    by_cases hj : j < sz
    · rw [List.getElem?_append_left (by omega)] at h
      have := h2 j hj
      rw [Nat.zero_mul, Nat.add_zero] at this
      rw [this, h]
    · rw [List.getElem?_append_right (by omega), h1] at h
      have := flatten_read (w := w) (b := b) k (o + sz) (c ∘ Nat.succ) (fun i hi => by
        obtain ⟨g1, g2⟩ := hc (i + 1) (by omega)
        refine ⟨g1, fun j hj => ?_⟩
        show _ = (c (i + 1))[j]?
        rw [← g2 j hj]
        congr 2
        rw [Nat.succ_mul]; omega) (j - sz) v h
      rw [← this]
      congr 2
      omega
section opening
variable {Ht : Type} {enc : TypeId × Value → Ht} {P : Program} {X : Cx} {w : World}
theorem open_value (hB : X.B = w.heap.size) : ∀ (n : Nat) (t : TypeId), plainT P n t = true → ∀ (fuel : Nat) (cs : List Value) (x : DataW Ht × List MemPlace), DataW.trod enc P w 0 (fun _ => true) true fuel t cs = some x → (x.1.weights P t).all (· ≤ reachBytes) = true →
    ∀ (R : Ren) (H : Hp), Rel X R H w → Opens P X w R H cs (fun H' acs => Rd P H' t acs)
  | 0, t, hp, _, _, _, _, _, _, _, _ => by cases hp
  | n + 1, t, hp, fuel, cs, x, h, hw, R, H, hr => by
    unfold plainT at hp
    split at hp
    · rename_i hu
      obtain ⟨b, rfl, rfl⟩ := DataW.trod_bool hu h
      exact ⟨R, H, [.bool b], Ren.le_refl R, Ext.refl H, hr, VRs.one (.bool b), .bool b hu⟩
    · rename_i k hu
      obtain ⟨i, rfl, rfl, hwf⟩ := DataW.trod_int hu h
      exact ⟨R, H, [.int k i], Ren.le_refl R, Ext.refl H, hr, VRs.one (.int k i), .int i hu hwf⟩
    · rename_i hu
      obtain ⟨s, rfl, rfl, hs⟩ := DataW.trod_string hu h
      refine ⟨R, H, [.string s], Ren.le_refl R, Ext.refl H, hr, VRs.one (.string s), .str s hu ?_⟩
      simpa [DataW.weights] using hw
    · rename_i e hu
      simp only [Bool.and_eq_true, decide_eq_true_eq] at hp
      obtain ⟨hpe, hsz⟩ := hp
      rcases DataW.trod_slice hu h with ⟨rfl, rfl⟩ | ⟨a, len, cap, elems, rest, m, rfl, rfl, rfl, _, hlc, hcm, hle, hel, _, _⟩
      · exact ⟨R, H, [.slice none 0 0], Ren.le_refl R, Ext.refl H, hr, VRs.one .nilSlice, .nilS hu⟩
      · rcases Nat.eq_zero_or_pos len with h0 | h0
        · subst h0
          exact ⟨R, H, [.slice (some ⟨0, 0, none⟩) 0 EMPTY], Ren.le_refl R, Ext.refl H, hr, VRs.one (.empty ⟨0, 0, none⟩ a cap), .empty hu⟩
        · have hpc : ∀ i, i < len → ∃ c x, w.cells? 0 (a.add (i * P.cellsOf e)) (P.cellsOf e) = some c ∧ elems[i]? = some x ∧ DataW.trod enc P w 0 (fun _ => true) true m e c = some x := by
            intro i hi
            have h1 := hel i hi
            obtain ⟨x, hx⟩ : ∃ x, elems[i]? = some x := ⟨elems[i]'(by omega), List.getElem?_eq_getElem (by omega)⟩
            rw [hx] at h1
            obtain ⟨c, hc1, hc2⟩ := Option.bind_eq_some_iff.1 h1
            exact ⟨c, x, hc1, hx, hc2⟩
          simp only [DataW.weights, hu, List.all_cons, List.all_append, Bool.and_eq_true, decide_eq_true_eq, List.length_map] at hw
          obtain ⟨hw1, hw2, hw3⟩ := hw
          let c : Nat → List Value := fun i => (w.cells? 0 (a.add (i * P.cellsOf e)) (P.cellsOf e)).getD []
          have hcd : ∀ i, i < len → w.cells? 0 (a.add (i * P.cellsOf e)) (P.cellsOf e) = some (c i) := by
            intro i hi
            obtain ⟨c', x, h1, _⟩ := hpc i hi
            simp only [c, h1, Option.getD_some]
          have hcell0 : ∃ v, w.cell? a = some v := by
            obtain ⟨g1, g2⟩ := cells_get (hcd 0 h0)
            have := g2 0 hsz
            rw [Nat.zero_mul] at this
            have ha : (a.add 0).add 0 = a := by simp [Addr.add]
            rw [ha] at this
            exact ⟨(c 0)[0]'(by omega), by rw [this]; exact List.getElem?_eq_getElem (by omega)⟩
          obtain ⟨v0, hv0⟩ := hcell0
          obtain ⟨hsp, hlt⟩ := spot_of_cell hv0
          obtain ⟨R1, H1, acs, l1, e1, r1, v1, q1⟩ := open_row (X := X) (P := P) (w := w) (enc := enc) (e := e) (n := m) (P.cellsOf e) (fun cs x hx hwx R H hr => open_value hB n e hpe m cs x hx hwx R H hr) len ((List.range len).map c) elems (by simp) hle
            (fun i hi => by
              obtain ⟨c', x, h1, h2, h3⟩ := hpc i hi
              refine ⟨c', x, ?_, h2, h3⟩
              simp only [List.getElem?_map, List.getElem?_range hi, Option.map_some, c, h1, Option.getD_some]) hw2 R H hr
          have hread := flatten_read (w := w) (b := a.block) (sz := P.cellsOf e) len a.off c (fun i hi => by
            obtain ⟨g1, g2⟩ := cells_get (hcd i hi)
            refine ⟨g1, fun j hj => ?_⟩
            rw [← g2 j hj, add_eq hsp, add_eq rfl])
          obtain ⟨r2, l2⟩ := r1.openOld a.block a.off acs (by rw [hB]; exact hlt) (fun j v hj => by
            obtain ⟨v', k1, k2⟩ := v1.get j v hj
            exact ⟨v', hread j v' k1, k2⟩)
          refine ⟨_, _, [.slice (some ⟨H1.next, 0, none⟩) len LOOSE], Ren.le_trans l1 l2, e1.trans (Ext.of_alloc _ _), r2, VRs.one (.slice _ _ _ ⟨rfl, hsp, _, Ren.add_same _ _ _, rfl, by simp⟩ (.inr ⟨rfl, hlc, _, Ren.add_same _ _ _, fun k => by cases k⟩)), ?_⟩
          refine .slice _ len acs hu h0 (by rw [Hp.get_alloc, if_pos rfl]) (by rw [Hp.next_alloc]; omega) (q1.mono (Ext.of_alloc _ _)) ?_ (by omega)
          have : len * P.bytesOf e ≤ (elems.length + rest.length) * P.bytesOf e := Nat.mul_le_mul_right _ (by omega)
          omega
    · rename_i fs hu
      simp only [Bool.and_eq_true, beq_iff_eq] at hp
      obtain ⟨hpf, hcon⟩ := hp
      obtain ⟨xs, m, rfl, rfl, hlen, hxl, hf⟩ := DataW.trod_struct hu h
      simp only [DataW.weights, hu] at hw
      obtain ⟨R1, H1, acs, l1, e1, r1, v1, q1⟩ := open_fields (X := X) (P := P) (w := w) (enc := enc) (n := m) cs (P.cellsOf t) hlen fs.toList xs 0
        (fun f hf' cs x hx hwx R H hr => open_value hB n f.type (List.all_eq_true.1 hpf f hf') m cs x hx hwx R H hr) hcon (by simpa using hxl)
        (fun i f hi => by
          have h1 := hf i f (by simpa using hi)
          have hil : i < fs.size := by
            rcases Nat.lt_or_ge i fs.size with q | q
            · exact q
            · rw [List.getElem?_eq_none (by simpa using q)] at hi; cases hi
          exact ⟨xs[i]'(by omega), List.getElem?_eq_getElem (by omega), by rw [h1]; exact List.getElem?_eq_getElem (by omega)⟩) hw R H hr
      exact ⟨R1, H1, acs, l1, e1, r1, by simpa using v1, .struct hu q1⟩
    · rename_i k e hu
      simp only [Bool.and_eq_true, beq_iff_eq] at hp
      obtain ⟨hpe, hcon⟩ := hp
      obtain ⟨xs, m, rfl, rfl, hlen, hxl, hf⟩ := trod_array hu h
      simp only [DataW.weights, hu] at hw
      obtain ⟨R1, H1, acs, l1, e1, r1, v1, q1⟩ := open_row (X := X) (P := P) (w := w) (enc := enc) (e := e) (n := m) (P.cellsOf e) (fun cs x hx hwx R H hr => open_value hB n e hpe m cs x hx hwx R H hr) k
        ((List.range k).map fun i => (cs.drop (i * P.cellsOf e)).take (P.cellsOf e)) xs (by simp) hxl
        (fun i hi => by
          have h1 := hf i hi
          refine ⟨(cs.drop (i * P.cellsOf e)).take (P.cellsOf e), xs[i]'(by omega), ?_, List.getElem?_eq_getElem (by omega), ?_⟩
          · simp only [List.getElem?_map, List.getElem?_range hi, Option.map_some]
          · rw [h1]; exact List.getElem?_eq_getElem (by omega)) hw R H hr
      rw [pieces_flatten k cs (by rw [hlen, hcon])] at v1
      exact ⟨R1, H1, acs, l1, e1, r1, v1, .array hu q1⟩
    · cases hp
inductive RdArgs (P : Program) (H : Hp) : List TypeId → List Value → Prop where
  | nil : RdArgs P H [] []
  | cons {t : TypeId} {ts : List TypeId} {v : Value} {vs : List Value} (h : Rd P H t v.cells.toList) (hv : match isAggD P t with | some true => ∃ cs, v = .agg cs | _ => v.cells.toList = [v]) (hs : RdArgs P H ts vs) : RdArgs P H (t :: ts) (v :: vs)
theorem RdArgs.mono {H H' : Hp} (x : Ext H H') : ∀ {ts : List TypeId} {vs : List Value}, RdArgs P H ts vs → RdArgs P H' ts vs
  | _, _, .nil => .nil
  | _, _, .cons h hv hs => .cons (h.mono x) hv (RdArgs.mono x hs)
theorem open_args (hB : X.B = w.heap.size) {n base : Nat} : ∀ (ts : List TypeId) (vs : List Value) (ds : List (DataW Ht)) (ps : List MemPlace), (ts.all (plainT P n)) = true → (∀ (j : Nat) t v, ts[j]? = some t → vs[j]? = some v → Value.okWide P w .any base t v) →
    DataW.TrodAll enc P w 0 (fun _ => true) true ts vs ds ps → (DataW.weightsEach P ts ds).all (· ≤ reachBytes) = true → ∀ (R : Ren) (H : Hp), Rel X R H w →
      ∃ R' H' avs, R.le R' ∧ Ext H H' ∧ Rel X R' H' w ∧ VRs R' avs vs ∧ RdArgs P H' ts avs
  | [], vs, ds, ps, _, _, h, _, R, H, hr => by
    match vs, ds, h with
    | [], [], h => exact ⟨R, H, [], Ren.le_refl R, Ext.refl H, hr, .nil, .nil⟩
  | t :: ts, vs, ds, ps, hp, hok, h, hw, R, H, hr => by
    match vs, ds, h with
    | v :: vs, d :: ds, h =>
      obtain ⟨p, q, ⟨fuel, h1⟩, h2, _⟩ := h
      simp only [List.all_cons, Bool.and_eq_true] at hp
      obtain ⟨w1, w2⟩ := weightsEach_cons hw
      obtain ⟨R1, H1, acs, l1, e1, r1, v1, q1⟩ := open_value (X := X) hB n t hp.1 fuel _ _ h1 w1 R H hr
      obtain ⟨R2, H2, avs, l2, e2, r2, v2, q2⟩ := open_args hB (n := n) (base := base) ts vs ds q hp.2 (fun j t v a b => hok (j + 1) t v (by simpa using a) (by simpa using b)) h2 w2 R1 H1 r1
      have hv := hok 0 t v rfl rfl
      have hpt := hp.1
      cases n with
      | zero => cases hpt
      | succ n =>
        unfold plainT at hpt
        unfold Value.okWide at hv
        have hlen := v1.length
        have key : ∀ av : Value, VR R1 av v → av.cells.toList = acs → (match isAggD P t with | some true => ∃ cs, av = .agg cs | _ => av.cells.toList = [av]) →
            ∃ R' H' avs, R.le R' ∧ Ext H H' ∧ Rel X R' H' w ∧ VRs R' avs (v :: vs) ∧ RdArgs P H' (t :: ts) avs := by
          intro av h1 h2 h3
          refine ⟨R2, H2, av :: avs, Ren.le_trans l1 l2, e1.trans e2, r2, .cons (h1.mono l2) v2, .cons ?_ h3 q2⟩
          rw [h2]; exact q1.mono e2
        have scal : ∀ (hna : v.cells.toList = [v]) (hnagg : isAggD P t = some false), (∀ av ∈ acs, av.cells.toList = [av]) → ∃ R' H' avs, R.le R' ∧ Ext H H' ∧ Rel X R' H' w ∧ VRs R' avs (v :: vs) ∧ RdArgs P H' (t :: ts) avs := by
          intro hna hnagg hone
          rw [hna] at v1
          cases v1 with
          | cons hv1 hn1 =>
            cases hn1
            refine key _ hv1 (hone _ (List.mem_cons_self ..)) ?_
            rw [hnagg]; exact hone _ (List.mem_cons_self ..)
        split at hpt
        · rename_i hu
          rw [hu] at hv
          simp only [Cell.okWide, Cell.ok, hu] at hv
          split at hv <;> first | (exact hv.elim) | skip
          all_goals
            refine scal rfl (by simp [isAggD, hu]) ?_
            cases q1 <;> simp_all [Value.cells]
        · rename_i k hu
          rw [hu] at hv
          simp only [Cell.okWide, Cell.ok, hu] at hv
          split at hv <;> first | (exact hv.elim) | skip
          all_goals
            refine scal rfl (by simp [isAggD, hu]) ?_
            cases q1 <;> simp_all [Value.cells]
        · rename_i hu
          rw [hu] at hv
          simp only [Cell.okWide, Cell.ok, hu] at hv
          split at hv <;> first | (exact hv.elim) | skip
          all_goals
            refine scal rfl (by simp [isAggD, hu]) ?_
            cases q1 <;> simp_all [Value.cells]
        · rename_i e hu
          rw [hu] at hv
          simp only [Cell.okWide, Cell.ok, hu] at hv
          split at hv <;> first | (exact hv.elim) | skip
          all_goals
            refine scal rfl (by simp [isAggD, hu]) ?_
            cases q1 <;> simp_all [Value.cells]
        · rename_i fs hu
          rw [hu] at hv
          obtain ⟨cs, rfl, _⟩ := hv
          refine key (.agg ⟨acs⟩) (.agg (by simpa [Value.cells] using v1)) rfl ?_
          simp [isAggD, hu]
        · rename_i k e hu
          rw [hu] at hv
          obtain ⟨cs, rfl, _⟩ := hv
          refine key (.agg ⟨acs⟩) (.agg (by simpa [Value.cells] using v1)) rfl ?_
          simp [isAggD, hu]
        · cases hpt
end opening
end Go.Det
