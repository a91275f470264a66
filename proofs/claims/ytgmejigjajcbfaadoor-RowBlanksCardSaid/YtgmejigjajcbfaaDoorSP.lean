import Derived.Test.YtgmejigjajcbfaaDoorSF
import Derived.Lib.Split
import Derived.Test.YtgmejigjajcbfaaDoorD52
import Derived.Test.YtgmejigjajcbfaaDoorRows
import Derived.Shelf.Vars
import Derived.Lay
import Derived.Stop.Joined
import Derived.Stop.LaidErr
set_option linter.unusedVariables false
set_option linter.unusedSimpArgs false
namespace Go.Proofs.YtgmejigjajcbfaaDoor
open Go Go.Det Go.RowKit
theorem rdn {α : Type} {l : List α} {i : Nat} : rd l (i : Int) = l[i]? := rd_nat
theorem wr64 {p n : Nat} (h : p + n < 1000000) : IntKind.i64.wrap ((p : Int) + (n : Int)) = ((p + n : Nat) : Int) := by
  rw [w64 (by omega) (by omega)]; omega
theorem next64 {i : Nat} (h : i < 100000) : IntKind.i64.wrap ((i : Int) + 1) = ((i + 1 : Nat) : Int) := wr64 (n := 1) (by omega)
theorem sc {a b : List UInt8} (h : a.length + b.length < 1000000) : scat a b = some (a ++ b) := if_pos (by omega)
/-! The lines -/
def W8 : List (List UInt8) := [([97] : List UInt8), ([48] : List UInt8), ([45, 55] : List UInt8), ([34, 35, 34] : List UInt8), ([34, 32, 34] : List UInt8), ([122, 45, 57] : List UInt8), ([34, 92, 34, 34] : List UInt8), ([49, 50] : List UInt8)]
def K4 : List (List UInt8) := [([32] : List UInt8), ([9, 35, 32, 120, 34] : List UInt8), ([32, 35] : List UInt8), ([32, 32] : List UInt8)]
def S8 : List (Int × List UInt8 × Int) := [(1, [97], 0), (2, [], 0), (2, [], -7), (3, [35], 0), (3, [32], 0), (1, [122, 45, 57], 0), (3, [34], 0), (2, [], 12)]
def A (c : Nat) : List UInt8 := W8.getD (c % 8) []
def K (c : Nat) : List UInt8 := K4.getD (c / 8 % 4) []
def B (c : Nat) : List UInt8 := [32, 9] ++ A c ++ K c
def S (c : Nat) : Int × List UInt8 × Int := S8.getD (c % 8) (0, [], 0)
def strip (w : RowWord) : Int × List UInt8 × Int := (w.Kind, w.Name, w.N)
def resS : Option (((List RowWord) × Int × (List UInt8)) ⊕ (Int × (List UInt8) × (List RowWord) × Int × Int)) → Option (List (Int × List UInt8 × Int))
  | some (.inl (ws, _, _)) => some (ws.map strip)
  | _ => none
theorem linesA (a : Int) : (List.range 8).map (fun c => resS (f7_l2 50 50 [] a (A c))) = (List.range 8).map (fun c => some [S c]) := by kernel_rfl
theorem linesB (a : Int) : (List.range 32).map (fun c => resS (f7_l2 50 50 [] a (B c))) = (List.range 32).map (fun c => some [S c]) := by kernel_rfl
theorem from_range {α : Type} {n : Nat} {f g : Nat → α} (h : (List.range n).map f = (List.range n).map g) {c : Nat} (hc : c < n) : f c = g c := by
  have := congrArg (fun l => l[c]?) h
  simpa [hc] using this
theorem mod32 (c : Nat) : A (c % 32) = A c ∧ K (c % 32) = K c ∧ S (c % 32) = S c := by
  have h1 : c % 32 % 8 = c % 8 := by omega
  have h2 : c % 32 / 8 % 4 = c / 8 % 4 := by omega
  unfold A K S
  rw [h1, h2]
  exact ⟨rfl, rfl, rfl⟩
theorem lineA (c : Nat) (a : Int) : resS (f7_l2 50 50 [] a (A c)) = some [S c] := by
  have := from_range (linesA a) (c := c % 8) (by omega)
  have e1 : A (c % 8) = A c := by unfold A; rw [Nat.mod_mod]
  have e2 : S (c % 8) = S c := by unfold S; rw [Nat.mod_mod]
  rw [e1, e2] at this; exact this
theorem lineB (c : Nat) (a : Int) : resS (f7_l2 50 50 [] a (B c)) = some [S c] := by
  have := from_range (linesB a) (c := c % 32) (by omega)
  obtain ⟨e1, e2, e3⟩ := mod32 c
  have e4 : B (c % 32) = B c := by unfold B; rw [e1, e2]
  rw [e4, e3] at this; exact this
def okL (l : List UInt8) : Bool := decide (l.length ≤ 20) && l.all fun x => decide (x ≠ 10)
theorem okAB (c : Nat) : okL (A c) = true ∧ okL (B c) = true := by
  have h : ((List.range 32).all fun c => okL (A c) && okL (B c)) = true := by kernel_rfl
  have := List.all_eq_true.1 h (c % 32) (List.mem_range.2 (by omega))
  obtain ⟨e1, e2, e3⟩ := mod32 c
  have e4 : B (c % 32) = B c := by unfold B; rw [e1, e2]
  simp only [e1, e4, Bool.and_eq_true] at this
  exact this
theorem okL_spec {l : List UInt8} (h : okL l = true) : l.length ≤ 20 ∧ ∀ x ∈ l, x ≠ 10 := by
  unfold okL at h
  rw [Bool.and_eq_true, decide_eq_true_eq, List.all_eq_true] at h
  exact ⟨h.1, fun x hx => of_decide_eq_true (h.2 x hx)⟩
theorem index1_miss (c : UInt8) : ∀ (p : List UInt8), (∀ x ∈ p, x ≠ c) → Lib.index p [c] = -1
  | [], _ => rfl
  | a :: p, h => by
    have ha := h a (List.mem_cons_self ..)
    rw [Lib.index, index1_miss c p fun x hx => h x (List.mem_cons_of_mem _ hx)]
    have : ([c] : List UInt8).isPrefixOf (a :: p) = false := by simp [List.isPrefixOf, Ne.symm ha]
    rw [this]; rfl
theorem index1_hit (c : UInt8) (q : List UInt8) : ∀ (p : List UInt8), (∀ x ∈ p, x ≠ c) → Lib.index (p ++ c :: q) [c] = (p.length : Int)
  | [], _ => by
    rw [List.nil_append, Lib.index]
    have : ([c] : List UInt8).isPrefixOf (c :: q) = true := by simp [List.isPrefixOf]
    rw [this]; rfl
  | a :: p, h => by
    have ha := h a (List.mem_cons_self ..)
    have ih := index1_hit c q p fun x hx => h x (List.mem_cons_of_mem _ hx)
    rw [List.cons_append, Lib.index, ih]
    have : ([c] : List UInt8).isPrefixOf (a :: (p ++ c :: q)) = false := by simp [List.isPrefixOf, Ne.symm ha]
    rw [this]
    have e : ((p.length : Int) == -1) = false := by rw [beq_eq_false_iff_ne]; omega
    rw [e]; simp
def joinN (p : List UInt8) : List (List UInt8) → List UInt8
  | [] => p
  | q :: qs => p ++ 10 :: joinN q qs
def noN (p : List UInt8) : Prop := ∀ x ∈ p, x ≠ 10
theorem count_noN {p : List UInt8} (h : noN p) : Lib.count p [10] = 0 := Lib.count_miss (index1_miss 10 p h)
theorem split_joinN : ∀ (p : List UInt8) (ps : List (List UInt8)), noN p → (∀ q ∈ ps, noN q) → Lib.splitK [10] 0 (Lib.count (joinN p ps) [10]) (joinN p ps) = p :: ps
  | p, [], hp, _ => by
    rw [joinN, count_noN hp]; rfl
  | p, q :: qs, hp, hq => by
    have hi := index1_hit 10 (joinN q qs) p hp
    have hd : List.drop (p.length + 1) (p ++ 10 :: joinN q qs) = joinN q qs := by
      rw [List.drop_append]; simp
    rw [joinN, Lib.count_hit (by simp) hi, show ([10] : List UInt8).length = 1 from rfl, hd, Nat.add_comm, Lib.splitK, hi]
    have e : ((p.length : Int) == -1) = false := by rw [beq_eq_false_iff_ne]; omega
    rw [e]
    have ih := split_joinN q qs (hq q (List.mem_cons_self ..)) fun r hr => hq r (List.mem_cons_of_mem _ hr)
    simp only [Bool.false_eq_true, if_false, Int.toNat_natCast, Nat.add_zero]
    rw [show ([10] : List UInt8).length = 1 from rfl, hd, ih]
    simp
theorem f14_eq {p : List UInt8} {ps : List (List UInt8)} (hp : noN p) (hps : ∀ q ∈ ps, noN q) (hl : (joinN p ps).length < 4294967281) : f14 (joinN p ps) [10] = some (p :: ps) := by
  unfold f14
  rw [if_pos ⟨hl, by simp⟩, Lib.splitB_data]
  have e : (bs (joinN p ps)).data.toList = joinN p ps := by simp [bs]
  have e2 : (bs [10]).data.toList = [10] := rfl
  show some (Lib.splitK (bs [10]).data.toList 0 (Lib.count (bs (joinN p ps)).data.toList (bs [10]).data.toList) (bs (joinN p ps)).data.toList) = _
  rw [e, e2, split_joinN p ps hp hps]
/-! Reading lines -/
def T (l : List (List UInt8)) : List UInt8 := l.flatMap fun r => r ++ [10]
theorem T_join : ∀ l : List (List UInt8), ∃ p ps, l ++ [[]] = p :: ps ∧ joinN p ps = T l
  | [] => ⟨[], [], rfl, rfl⟩
  | r :: l => by
    obtain ⟨p, ps, h1, h2⟩ := T_join l
    refine ⟨r, p :: ps, by rw [List.cons_append, h1], ?_⟩
    rw [joinN, h2]; simp [T]
theorem T_len : ∀ l : List (List UInt8), (∀ r ∈ l, r.length ≤ 20) → (T l).length ≤ 21 * l.length
  | [], _ => by simp [T]
  | r :: l, h => by
    have ih := T_len l fun x hx => h x (List.mem_cons_of_mem _ hx)
    have h0 := h r (List.mem_cons_self ..)
    have : (T (r :: l)).length = r.length + 1 + (T l).length := by simp [T]; omega
    rw [this, List.length_cons]; omega
def key (r : Row) : List (Int × List UInt8 × Int) := r.Words.map strip
theorem read_rows (L : Nat → List UInt8) (hL : ∀ c a, resS (f7_l2 50 50 [] a (L c)) = some [S c]) (h20 : ∀ c, (L c).length ≤ 20) (cs : List Nat) (hc : cs.length ≤ 8) : ∀ (n i : Nat) (rows : List Row) (a : Int), i ≤ cs.length → cs.length + 1 < n + i → rows.length ≤ i →
    ∃ rs', f7_l1 50 (cs.map L ++ [[]]) n rows a (i : Int) = some (.inl (rows ++ rs')) ∧ rs'.map key = (cs.drop i).map fun c => [S c]
  | 0, i, rows, a, h1, h2, h3 => by omega
  | n + 1, i, rows, a, h1, h2, h3 => by
    have hll : (cs.map L ++ [[]]).length = cs.length + 1 := by rw [List.length_append, List.length_map]; rfl
    have hdec : decide ((i : Int) < ((cs.map L ++ [[]]).length : Int)) = true := by rw [decide_eq_true_eq, hll]; omega
    rw [f7_l1]
    simp only [Option.bind_some, hdec, if_true]
    by_cases hi : i < cs.length
    · obtain ⟨c, hcc⟩ : ∃ c, cs[i]? = some c := ⟨cs[i], List.getElem?_eq_getElem hi⟩
      have hd : cs.drop i = c :: cs.drop (i + 1) := by
        obtain ⟨hl, e⟩ := List.getElem?_eq_some_iff.1 hcc
        rw [List.drop_eq_getElem_cons hl, e]
      have hget : (cs.map L ++ [[]])[i]? = some (L c) := by
        rw [List.getElem?_append_left (by rw [List.length_map]; exact hi), List.getElem?_map, hcc]; rfl
      have hr := hL c a
      have h2c := h20 c
      obtain ⟨ws, v0, v1, g1, g2⟩ : ∃ ws v0 v1, f7_l2 50 50 [] a (L c) = some (.inl (ws, v0, v1)) ∧ ws.map strip = [S c] := by
        revert hr
        generalize f7_l2 50 50 [] a (L c) = o
        intro hr
        match o, hr with
        | some (.inl (ws, v0, v1)), hr => exact ⟨ws, v0, v1, rfl, Option.some.inj hr⟩
      have hwl : ws.length = 1 := by
        have := congrArg List.length g2
        rw [List.length_map] at this; exact this
      have nb : ¬ (((L c).length : Nat) : Int) > 1000 := by omega
      have hw : ((ws.length : Nat) : Int) > 0 := by omega
      have ha : ∀ z : Row, apd 32 rows [z] = some (rows ++ [z]) := fun z => if_pos (by simp only [List.length_cons, List.length_nil]; omega)
      simp only [rdn, hget, Option.bind_some, nb, if_false, g1, if_true, hw, ha]
      rw [next64 (i := i) (by omega), hd]
      obtain ⟨rs', k1, k2⟩ := read_rows L hL h20 cs hc n (i + 1) (rows ++ [Row.mk a ws]) (IntKind.i64.wrap (a + IntKind.i64.wrap (((L c).length : Int) + 1))) (by omega) (by omega) (by simp only [List.length_append, List.length_cons, List.length_nil]; omega)
      rw [k1]
      refine ⟨Row.mk a ws :: rs', by rw [List.append_assoc]; rfl, ?_⟩
      rw [List.map_cons, List.map_cons, k2]
      show ws.map strip :: _ = _
      rw [g2]
    · have he : i = cs.length := by omega
      have hget : (cs.map L ++ [[]])[i]? = some [] := by
        rw [List.getElem?_append_right (by rw [List.length_map]; omega), List.length_map, he, Nat.sub_self]; rfl
      have n0 : ¬ ((([] : List UInt8).length : Nat) : Int) > 1000 := by decide
      have n1 : ¬ ((([] : List RowWord).length : Nat) : Int) > 0 := by decide
      have h92 : f7_l2 50 50 [] a [] = some (.inl ([], a, [])) := by rw [f7_l2, if_pos rfl]
      simp only [rdn, hget, Option.bind_some, n0, if_false, h92, if_true, n1]
      obtain ⟨m, rfl⟩ : ∃ m, n = m + 1 := ⟨n - 1, by omega⟩
      rw [next64 (i := i) (by omega), f7_l1]
      have hd : decide (((i + 1 : Nat) : Int) < ((cs.map L ++ [[]]).length : Int)) = false := by rw [decide_eq_false_iff_not, hll]; omega
      simp only [Option.bind_some, hd, Bool.false_eq_true, if_false]
      exact ⟨[], by rw [List.append_nil], by rw [List.drop_eq_nil_of_le (by omega)]; rfl⟩
theorem read_T (L : Nat → List UInt8) (hL : ∀ c a, resS (f7_l2 50 50 [] a (L c)) = some [S c]) (hok : ∀ c, okL (L c) = true) (cs : List Nat) (hc : cs.length ≤ 8) :
    ∃ rs, f7 50 (T (cs.map L)) = some (rs, Fault.mk 0 0) ∧ rs.map key = cs.map fun c => [S c] := by
  have h20 : ∀ c, (L c).length ≤ 20 := fun c => (okL_spec (hok c)).1
  obtain ⟨p, ps, h1, h2⟩ := T_join (cs.map L)
  have hno : ∀ q ∈ cs.map L ++ [[]], noN q := by
    intro q hq
    rcases List.mem_append.1 hq with hq | hq
    · obtain ⟨c, hr, rfl⟩ := List.mem_map.1 hq
      exact (okL_spec (hok c)).2
    · simp only [List.mem_singleton] at hq
      subst hq; intro x hx; cases hx
  rw [h1] at hno
  have hT := T_len (cs.map L) (fun r hr => by obtain ⟨c, _, rfl⟩ := List.mem_map.1 hr; exact h20 c)
  rw [List.length_map] at hT
  have h28 : f14 (T (cs.map L)) [10] = some (cs.map L ++ [[]]) := by
    rw [h1, ← h2]
    exact f14_eq (hno p (List.mem_cons_self ..)) (fun q hq => hno q (List.mem_cons_of_mem _ hq)) (by rw [h2]; omega)
  obtain ⟨rs', g1, g2⟩ := read_rows L hL h20 cs hc 50 0 [] 0 (by omega) (by omega) (by simp)
  rw [show ((0 : Nat) : Int) = 0 from rfl, List.nil_append] at g1
  rw [List.drop_zero] at g2
  refine ⟨rs', ?_, g2⟩
  unfold f7
  rw [if_neg (by omega), h28]
  simp only [Option.bind_some, g1]
/-! The same rows -/
theorem same_w (a b : List Row) (i : Nat) (x y : Row) (hx : a[i]? = some x) (hy : b[i]? = some y) (h : key x = key y) (hl : x.Words.length ≤ 1) : ∀ (n j : Nat), j ≤ x.Words.length → x.Words.length < n + j → f8_l2 a b false (i : Int) n (j : Int) = some (.inr ())
  | 0, j, h1, h2 => by omega
  | n + 1, j, h1, h2 => by
    rw [f8_l2, rdn, hx, rdn, hy]
    simp only [Option.bind_some]
    by_cases hj : j < x.Words.length
    · have hlen : x.Words.length = y.Words.length := by
        have := congrArg List.length h
        unfold key at this
        rwa [List.length_map, List.length_map] at this
      obtain ⟨w, hw⟩ : ∃ w, x.Words[j]? = some w := ⟨x.Words[j], List.getElem?_eq_getElem hj⟩
      obtain ⟨v, hv⟩ : ∃ v, y.Words[j]? = some v := ⟨y.Words[j], List.getElem?_eq_getElem (by omega)⟩
      have hs : strip w = strip v := by
        have := congrArg (fun l => l[j]?) h
        unfold key at this
        simp only [List.getElem?_map, hw, hv, Option.map_some, Option.some.injEq] at this
        exact this
      unfold strip at hs
      simp only [Prod.mk.injEq] at hs
      obtain ⟨k1, k2, k3⟩ := hs
      rw [if_pos (by omega), rdn, hw, rdn, hv]
      simp only [Option.bind_some, Bool.false_eq_true, if_false, k1, k2, k3, if_true]
      rw [next64 (by omega)]
      exact same_w a b i x y hx hy h hl n (j + 1) (by omega) (by omega)
    · rw [if_neg (by omega)]
theorem same_r (a b : List Row) (cs : List Nat) (hc : cs.length ≤ 8) (ha : a.map key = cs.map fun c => [S c]) (hb : b.map key = cs.map fun c => [S c]) : ∀ (n i : Nat), i ≤ a.length → a.length < n + i → f8_l1 50 a b false n (i : Int) = some (.inr ())
  | 0, i, h1, h2 => by omega
  | n + 1, i, h1, h2 => by
    have hla : a.length = cs.length := by have := congrArg List.length ha; rwa [List.length_map, List.length_map] at this
    have hlb : b.length = cs.length := by have := congrArg List.length hb; rwa [List.length_map, List.length_map] at this
    rw [f8_l1]
    by_cases hi : i < a.length
    · obtain ⟨x, hx⟩ : ∃ x, a[i]? = some x := ⟨a[i], List.getElem?_eq_getElem hi⟩
      obtain ⟨y, hy⟩ : ∃ y, b[i]? = some y := ⟨b[i], List.getElem?_eq_getElem (by omega)⟩
      obtain ⟨c, hcc⟩ : ∃ c, cs[i]? = some c := ⟨cs[i], List.getElem?_eq_getElem (by omega)⟩
      have kx : key x = [S c] := by
        have := congrArg (fun l => l[i]?) ha
        simpa [List.getElem?_map, hx, hcc] using this
      have ky : key y = [S c] := by
        have := congrArg (fun l => l[i]?) hb
        simpa [List.getElem?_map, hy, hcc] using this
      have lx : x.Words.length = 1 := by have := congrArg List.length kx; unfold key at this; rwa [List.length_map] at this
      have ly : y.Words.length = 1 := by have := congrArg List.length ky; unfold key at this; rwa [List.length_map] at this
      have e := same_w a b i x y hx hy (kx.trans ky.symm) (by omega) 50 0 (by omega) (by omega)
      rw [show ((0 : Nat) : Int) = 0 from rfl] at e
      have hcl : ((x.Words.length : Nat) : Int) = ((y.Words.length : Nat) : Int) := by omega
      rw [if_pos (by omega), rdn, hx, rdn, hy]
      simp only [Option.bind_some, Bool.false_eq_true, if_false, hcl, if_true, e]
      rw [next64 (by omega)]
      exact same_r a b cs hc ha hb n (i + 1) (by omega) (by omega)
    · rw [if_neg (by omega)]
/-! The codes -/
theorem f6_eq (x : Int) : ∃ u : Nat, f6 x 1048576 = some (u : Int) ∧ u < 1048576 := by
  unfold f6
  rw [if_neg (by decide), if_pos (by decide)]
  have h1 := Int.tmod_lt_of_pos x (show (0 : Int) < 1048576 by decide)
  have h2 : -1048576 < x.tmod 1048576 := by
    have := Int.lt_tmod_of_pos x (show (0 : Int) < 1048576 by decide)
    exact this
  by_cases h : x.tmod 1048576 < 0
  · rw [if_pos h, w64 (by omega) (by omega)]
    exact ⟨(x.tmod 1048576 + 1048576).toNat, by simp only [Option.bind_some]; congr 1; omega, by omega⟩
  · rw [if_neg h]
    exact ⟨(x.tmod 1048576).toNat, by simp only [Option.bind_some]; congr 1; omega, by omega⟩
theorem T_snoc (l : List (List UInt8)) (r : List UInt8) : T (l ++ [r]) = T l ++ (r ++ [10]) := by simp [T]
theorem f3_loop (xs : List Int) : ∀ (n i : Nat) (cs : List Nat), cs.length = i → i ≤ 8 → i ≤ xs.length → 8 < n + i →
    ∃ cs' : List Nat, f3_l1 xs n (T (cs.map A)) (T (cs.map B)) (i : Int) = some (T (cs'.map A), T (cs'.map B)) ∧ cs'.length = min xs.length 8
  | 0, i, cs, h1, h2, h3, h4 => by omega
  | n + 1, i, cs, h1, h2, h3, h4 => by
    rw [f3_l1]
    by_cases hi : i < xs.length
    · rw [if_pos (by omega)]
      by_cases h8 : i < 8
      · obtain ⟨x, hx⟩ : ∃ x, xs[i]? = some x := ⟨xs[i], List.getElem?_eq_getElem hi⟩
        obtain ⟨u, hu, hu2⟩ := f6_eq x
        have m1 : ((u : Int).tmod 8) = ((u % 8 : Nat) : Int) := by rw [Int.tmod_eq_emod_of_nonneg (by omega)]; omega
        have m2 : ((u : Int).tdiv 8) = ((u / 8 : Nat) : Int) := by rw [Int.tdiv_eq_ediv_of_nonneg (by omega)]; omega
        have m3 : (IntKind.i64.wrap ((u / 8 : Nat) : Int)).tmod 4 = ((u / 8 % 4 : Nat) : Int) := by
          rw [w64 (by omega) (by omega), Int.tmod_eq_emod_of_nonneg (by omega)]; omega
        have e1 : rd W8 ((u % 8 : Nat) : Int) = some (A u) := by
          rw [rdn]
          have hlt : u % 8 < W8.length := by show _ < 8; omega
          unfold A
          rw [List.getElem?_eq_getElem hlt, List.getD, List.getElem?_eq_getElem hlt]; rfl
        have e2 : rd K4 ((u / 8 % 4 : Nat) : Int) = some (K u) := by
          rw [rdn]
          have hlt : u / 8 % 4 < K4.length := by show _ < 4; omega
          unfold K
          rw [List.getElem?_eq_getElem hlt, List.getD, List.getElem?_eq_getElem hlt]; rfl
        have tA := T_len (cs.map A) (fun r hr => by obtain ⟨c, _, rfl⟩ := List.mem_map.1 hr; exact (okL_spec (okAB c).1).1)
        have tB := T_len (cs.map B) (fun r hr => by obtain ⟨c, _, rfl⟩ := List.mem_map.1 hr; exact (okL_spec (okAB c).2).1)
        rw [List.length_map] at tA tB
        have lA := (okL_spec (okAB u).1).1
        have lB := (okL_spec (okAB u).2).1
        have lK : (K u).length ≤ 20 := by unfold B at lB; simp only [List.length_append] at lB; omega
        unfold W8 at e1
        unfold K4 at e2
        rw [if_pos (by omega), rdn, hx]
        simp only [Option.bind_some, hu, m1, m2, m3, e1, e2]
        rw [sc (by omega)]
        simp only [Option.bind_some]
        rw [sc (by simp only [List.length_append, List.length_cons, List.length_nil]; omega), sc (by simp only [List.length_cons, List.length_nil]; omega)]
        simp only [Option.bind_some]
        rw [sc (by simp only [List.length_append, List.length_cons, List.length_nil]; omega)]
        simp only [Option.bind_some]
        rw [sc (by simp only [List.length_append, List.length_cons, List.length_nil]; omega)]
        simp only [Option.bind_some]
        rw [sc (by simp only [List.length_append, List.length_cons, List.length_nil]; omega)]
        simp only [Option.bind_some]
        rw [next64 (by omega)]
        have q1 : T (cs.map A) ++ A u ++ [10] = T ((cs ++ [u]).map A) := by rw [List.map_append, List.map_singleton, T_snoc]; simp
        have q2 : T (cs.map B) ++ [32, 9] ++ A u ++ K u ++ [10] = T ((cs ++ [u]).map B) := by rw [List.map_append, List.map_singleton, T_snoc]; simp [B]
        rw [q1, q2]
        exact f3_loop xs n (i + 1) (cs ++ [u]) (by simp; omega) (by omega) (by omega) (by omega)
      · rw [if_neg (by omega)]
        exact ⟨cs, rfl, by omega⟩
    · rw [if_neg (by omega)]
      exact ⟨cs, rfl, by omega⟩
theorem pure3 : Pure3 := by
  intro x0 _
  refine ⟨50, ?_⟩
  obtain ⟨cs, h1, h2⟩ := f3_loop x0 50 0 [] rfl (by omega) (by omega) (by omega)
  rw [show ((0 : Nat) : Int) = 0 from rfl] at h1
  have h1 : f3_l1 x0 50 ([] : List UInt8) ([] : List UInt8) 0 = some (T (cs.map A), T (cs.map B)) := h1
  have hc : cs.length ≤ 8 := by omega
  obtain ⟨ra, a1, a2⟩ := read_T A lineA (fun c => (okAB c).1) cs hc
  obtain ⟨rb, b1, b2⟩ := read_T B lineB (fun c => (okAB c).2) cs hc
  have hla : ra.length = cs.length := by have := congrArg List.length a2; rwa [List.length_map, List.length_map] at this
  have hlb : rb.length = cs.length := by have := congrArg List.length b2; rwa [List.length_map, List.length_map] at this
  have e8 : f8 50 ra rb false = some true := by
    have := same_r ra rb cs hc a2 b2 50 0 (by omega) (by omega)
    rw [show ((0 : Nat) : Int) = 0 from rfl] at this
    unfold f8
    rw [if_pos (by omega), this]; rfl
  have hm : ((ra.length : Nat) : Int) = gmin (x0.length : Int) 8 := by
    unfold gmin
    split <;> omega
  have h9 : f9 = some true := rfl
  unfold f3
  rw [h1]
  simp only [Option.bind_some, a1, b1, if_true, hm, e8, h9]
end Go.Proofs.YtgmejigjajcbfaaDoor

set_option linter.unusedVariables false
namespace Go.Proofs.YtgmejigjajcbfaaDoor
open Go Go.Det Go.RowKit
theorem star : "*" ++ "errors.errorString" = "*errors.errorString" := by decide
theorem row124 (u : TypeId) (h : Tryd.prog.typeName? 3 u = some "*errors.errorString") : u = 124 :=
  typeName_ptr_named (nm := "errors.errorString") (by rw [star]; kernel_rfl) (by kernel_rfl) (by decide) u (by rw [star]; exact h)
theorem cells126 : Tryd.prog.cellsOf 126 = 1 := by kernel_rfl
theorem cells9 : Tryd.prog.cellsOf 9 = 1 := by kernel_rfl
theorem lt_cell {w : World} {g : Nat} {v : Value} (h : w.cell? ⟨g, 0, none⟩ = some v) : g < w.heap.size := by
  unfold World.cell? at h
  split at h
  · rename_i hh; exact (Array.getElem?_eq_some_iff.1 hh).1
  · cases h
theorem chunks : ∀ (n s : Nat) (l : List Value), l.length = 2 * n → (∀ i, i < n → (l.drop (i * 2)).take 2 = [.int .u8 (Lib.accLo (s + i) : Int), .int .u8 (Lib.accHi (s + i) : Int)]) → l = accCells (List.range' s n)
  | 0, s, l, h, _ => by
    have : l = [] := List.length_eq_zero_iff.1 (by simpa using h)
    subst this; rfl
  | n + 1, s, l, h, k => by
    rcases l with _ | ⟨a, _ | ⟨b, r⟩⟩
    · simp at h
    · simp at h; omega
    · have k0 := k 0 (by omega)
      simp only [Nat.zero_mul, List.drop_zero, List.take_succ_cons, List.take_zero, Nat.add_zero, List.cons.injEq, and_true] at k0
      obtain ⟨rfl, rfl⟩ := k0
      rw [List.range'_succ, accCells, ← chunks n (s + 1) r (by simp at h; omega) (fun i hi => by
        have := k (i + 1) (by omega)
        rw [show s + (i + 1) = s + 1 + i by omega, Nat.succ_mul] at this
        simpa using this)]
set_option maxRecDepth 100000 in
theorem laid_acc {W : World} (h4 : Lib.VarReads Tryd.prog W "unicode/utf8.acceptRanges" Lib.acceptData) : 1 < W.heap.size ∧ ∃ t fr, W.heap[1]? = some (.cells ⟨accCells (List.range 16)⟩ t fr) := by
  obtain ⟨g, t, cs, fuel, p, hg, hty, hv, hd⟩ := h4
  have hg1 : g = 1 := Option.some.inj (hg.symm.trans (by kernel_rfl))
  subst hg1
  have ht1 : t = 90 := Option.some.inj (hty.symm.trans (by kernel_rfl))
  subst ht1
  have hu : Tryd.prog.underlying 90 = some (.array 16 89) := by kernel_rfl
  have hc : Tryd.prog.cellsOf 89 = 2 := by kernel_rfl
  have hct : Tryd.prog.cellsOf 90 = 32 := by kernel_rfl
  have hl : cs.toList.length = 32 := by
    cases fuel with
    | zero => simp [DataW.trod] at hd
    | succ fuel =>
      simp only [DataW.trod, hu, hc] at hd
      split at hd
      · rename_i q; exact q.trans hct
      · cases hd
  have hcs := chunks 16 0 cs.toList (by rw [hl]) (fun i hi => by
    obtain ⟨fuel', d, q, hdi, he⟩ := Lib.array_elem hu hd i hi
    simp only [Lib.acceptData, List.getElem?_map, List.getElem?_range hi, Option.map_some, Option.some.injEq] at hdi
    subst hdi
    rw [hc] at he
    have := Lib.ints_of_struct (fs := (match Tryd.prog.underlying 89 with | some (.struct fs) => fs | _ => #[])) (k := .u8) (by kernel_rfl) (fun j f hj => by
      match j, hj with
      | 0, hj => cases hj; exact ⟨by kernel_rfl, by kernel_rfl, by kernel_rfl⟩
      | 1, hj => cases hj; exact ⟨by kernel_rfl, by kernel_rfl, by kernel_rfl⟩
      | j + 2, hj => have : (match Tryd.prog.underlying 89 with | some (.struct fs) => fs | _ => #[]).size = 2 := by kernel_rfl
                     rw [Array.getElem?_eq_none (by rw [this]; omega)] at hj; cases hj) (by kernel_rfl) he
    rw [this, Nat.zero_add]; rfl)
  rw [← List.range_eq_range'] at hcs
  unfold World.var? at hv
  rw [hg] at hv
  simp only [Option.bind_some] at hv
  split at hv
  · rename_i c1 t1 f1 hh
    cases hv
    refine ⟨(Array.getElem?_eq_some_iff.1 hh).1, t1, f1, ?_⟩
    rw [hh, ← hcs]
  · cases hv
/-- What the row lists is what the walks ask for. -/
theorem known {W : World} {a b : String × DataW Unit} (h : laidMet Tryd.prog [a, b, ("internal/strconv.uint64pow10", Rows.laid_internal_strconv_uint64pow10), ("unicode/utf8.acceptRanges", Rows.laid_unicode_utf8_acceptRanges), ("strconv.ErrRange", Rows.laid_strconv_ErrRange), ("strconv.ErrSyntax", Rows.laid_strconv_ErrSyntax), ("unicode/utf8.first", Rows.laid_unicode_utf8_first)] W) (hs : W.ShapedOpen Tryd.prog) : Laid W W.heap.size := by
  have e0 : (Rows.laid_unicode_utf8_first : DataW Unit) = Lib.tabData .u8 Lib.firstTab := by kernel_rfl
  have e1 : (Rows.laid_unicode_utf8_acceptRanges : DataW Unit) = Lib.acceptData := by kernel_rfl
  have e2 : (Rows.laid_internal_strconv_uint64pow10 : DataW Unit) = Lib.tabData .u64 Lib.pow10Tab := by kernel_rfl
  have k0 := laid_tab (g := 0) (n := 256) (by kernel_rfl) (t := 87) (e := 5) (by kernel_rfl) (by kernel_rfl) (by kernel_rfl) (by kernel_rfl) (by kernel_rfl) (e0 ▸ Lib.laidMet.reads h (n := "unicode/utf8.first") (d := Rows.laid_unicode_utf8_first) (by simp))
  have k1 := laid_acc (e1 ▸ Lib.laidMet.reads h (n := "unicode/utf8.acceptRanges") (d := Rows.laid_unicode_utf8_acceptRanges) (by simp))
  have k2 := laid_tab (g := 5) (n := 20) (by kernel_rfl) (t := 134) (e := 116) (by kernel_rfl) (by kernel_rfl) (by kernel_rfl) (by kernel_rfl) (by kernel_rfl) (e2 ▸ Lib.laidMet.reads h (n := "internal/strconv.uint64pow10") (d := Rows.laid_internal_strconv_uint64pow10) (by simp))
  have h3 := h.tail.tail.tail.tail
  have h4 := h3.tail
  obtain ⟨a4, s4, v4, _⟩ := laid_sentinel (g := 3) (ti := 58) (tp := 124) (te := 126) (ts := 9) h4 (by kernel_rfl) (by kernel_rfl) Tryd.underlying58 row124 Tryd.underlying124 Tryd.underlying126 rfl rfl Tryd.underlying9 cells126 cells9
  obtain ⟨a3, s3, v3, _⟩ := laid_sentinel (g := 4) (ti := 58) (tp := 124) (te := 126) (ts := 9) h3 (by kernel_rfl) (by kernel_rfl) Tryd.underlying58 row124 Tryd.underlying124 Tryd.underlying126 rfl rfl Tryd.underlying9 cells126 cells9
  have c4 : W.cell? ⟨3, 0, none⟩ = some (.iface 124 (.pointer (some a4))) := by simpa using World.var?_cell (g := 3) (by kernel_rfl) v4 0
  have c3 : W.cell? ⟨4, 0, none⟩ = some (.iface 124 (.pointer (some a3))) := by simpa using World.var?_cell (g := 4) (by kernel_rfl) v3 0
  refine ⟨fun p hp => ?_, fun g hg => ?_, fun g hg => ?_⟩
  · simp only [seatCells, List.mem_cons, List.mem_nil_iff, or_false] at hp
    rcases hp with rfl | rfl | rfl
    · exact k0
    · exact k1
    · exact k2
  · simp only [seatInts, List.mem_cons, List.mem_nil_iff, or_false] at hg
    subst hg
    obtain ⟨m, hm⟩ := cell_of_shapedOpen_int (P := Tryd.prog) (g := 2) (t := 3) (zero := #[.int .i64 0]) hs (of_decide_eq_true (by kernel_rfl)) (by kernel_rfl) rfl (by kernel_rfl) (by kernel_rfl) (by kernel_rfl)
    exact ⟨lt_cell hm, m, hm⟩
  · simp only [seatIfs, List.mem_cons, List.mem_nil_iff, or_false] at hg
    rcases hg with rfl | rfl
    · exact ⟨lt_cell c4, _, _, c4⟩
    · exact ⟨lt_cell c3, _, _, c3⟩
end Go.Proofs.YtgmejigjajcbfaaDoor
