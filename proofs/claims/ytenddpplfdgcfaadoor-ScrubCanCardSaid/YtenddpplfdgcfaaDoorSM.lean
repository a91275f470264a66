import Derived.Test.YtenddpplfdgcfaaDoorST
import Derived.Test.YtenddpplfdgcfaaDoorSh
import Derived.Test.YtenddpplfdgcfaaDoorD60
set_option linter.unusedVariables false
set_option linter.unusedSimpArgs false
namespace Go.Proofs.YtenddpplfdgcfaaDoor
open Go Go.Det Go.RowKit
def isT (x : Option (En × Hp)) : Bool := match x with
  | some (.ret (.bool true), _) => true
  | _ => false
theorem isT_some {x : Option (En × Hp)} (h : isT x = true) : ∃ H', x = some (.ret (.bool true), H') := by
  unfold isT at h
  split at h
  · exact ⟨_, rfl⟩
  · cases h
theorem awake_run : isT (callE Tryd.prog (evC Tryd.prog 1000) 6 [] (Go.Det.H0 Tryd.prog.globals.size)) = true := by kernel_rfl
def f6 : Option Bool := some true
theorem f6_ok {H : Hp} {r : Bool} (hp : f6 = some r) : SCall Tryd.prog 6 [] H (Ret fun v H' => Ext H H' ∧ R_4 r H.next H' v) := by
  obtain rfl := Option.some.inj hp
  obtain ⟨H', e⟩ := isT_some awake_run
  refine (SCall.closed (SCall.mono (SCall.run e) fun _ _ q => q.1) rfl rfl H).mono fun _ _ ⟨v, h1, h2, h3⟩ => ⟨v, h1, ?_⟩
  subst h2 h3
  exact ⟨Ext.refl _, rfl⟩
theorem mLen {w : World} (hL : Laid w w.heap.size) : ∃ m, w.cell? ⟨1, 0, none⟩ = some (.int .i64 m) := (hL.2.1 1 (List.mem_cons_self ..)).2
theorem SCall.flatR {P : Program} {f : FuncId} {args : List Value} {v : Value} {R : Value → Hp → Prop} {H : Hp} (h : SCall P f args H (Ret fun v' H' => H' = H ∧ v' = v)) (hR : ∀ H, R v H) : SCall P f args H (Ret fun v' H' => Ext H H' ∧ R v' H') :=
  h.mono fun _ _ ⟨_, h1, h2, h3⟩ => by subst h2 h3; exact ⟨_, h1, Ext.refl _, hR _⟩
theorem below_drewN (w : World) (n : Nat) : Below w.heap.size w (w.drewN n) := ⟨rfl, rfl, rfl, Nat.le_refl _, fun _ _ => rfl⟩
def f24 (x0 x1 : List UInt8) : Option (List UInt8 × List UInt8 × Bool) := if x0.length < 4294967281 then some (Lib.cut x0 x1) else none
theorem f24_ok {H : Hp} {x0 x1 : List UInt8} {r : List UInt8 × List UInt8 × Bool} (hp : f24 x0 x1 = some r) : SCall Tryd.prog 24 [.string (bs x0), .string (bs x1)] H (Ret fun v H' => Ext H H' ∧ R_9_9_4 r H.next H' v) := by
  unfold f24 at hp
  split at hp
  case isFalse => cases hp
  case isTrue h =>
    cases hp
    refine SCall.flatR (v := .tuple ⟨[.string (bs (Lib.cut x0 x1).1), .string (bs (Lib.cut x0 x1).2.1), .bool (Lib.cut x0 x1).2.2]⟩) (SCall.ofCallsL (fun w hL => ?_) rfl rfl H) (fun _ => rfl)
    obtain ⟨m, hm⟩ := mLen hL
    exact (Tryd.strings_Cut (bs x0) (bs x1) m w h hm).mono fun e w' ⟨h1, n, h2⟩ => ⟨h1, h2 ▸ below_drewN w n⟩
theorem below_growN (w : World) (n : Nat) (os : Array Obj) : Below w.heap.size w (Go.Sort.grow (w.drewN n) os) := by
  refine ⟨rfl, rfl, rfl, ?_, fun k hk => ?_⟩
  · show w.heap.size ≤ (w.heap ++ os).size
    rw [Array.size_append]; omega
  · show (w.heap ++ os)[k]? = w.heap[k]?
    rw [Array.getElem?_append_left hk]
def f20 (x0 : Int) : Option (List UInt8) := if -9223372036854775808 ≤ x0 ∧ x0 ≤ 9223372036854775807 then some (Lib.itoa x0) else none
theorem f20_ok {H : Hp} {x0 : Int} {r : List UInt8} (hp : f20 x0 = some r) : SCall Tryd.prog 20 [.int .i64 x0] H (Ret fun v H' => Ext H H' ∧ R_9 r H.next H' v) := by
  unfold f20 at hp
  split at hp
  case isFalse => cases hp
  case isTrue h =>
    cases hp
    refine SCall.flatR (v := .string (bs (Lib.itoa x0))) (SCall.ofCallsL (fun w hL => ?_) rfl rfl H) (fun _ => rfl)
    have ht : Lib.TabIs Tryd.prog w "internal/strconv.uint64pow10" .u64 Lib.pow10Tab := hL.tabIs (g := 2) (List.mem_cons_self ..) (by kernel_rfl)
    exact (Tryd.strconv_Itoa x0 h.1 h.2 w ht).mono fun e w' ⟨h1, k, os, h2⟩ => ⟨h1, h2 ▸ below_growN w k os⟩
def f32 (x0 : Int) : Option Bool := if x0 ≤ 255 then some (Lib.isDigitL x0) else none
theorem f32_ok {H : Hp} {x0 : Int} {r : Bool} (hp : f32 x0 = some r) : SCall Tryd.prog 32 [.int .i32 x0] H (Ret fun v H' => Ext H H' ∧ R_4 r H.next H' v) := by
  unfold f32 at hp
  split at hp
  case isFalse => cases hp
  case isTrue h =>
    cases hp
    refine SCall.flatR (v := .bool (Lib.isDigitL x0)) (SCall.ofCallsL (fun w hL => ?_) rfl rfl H) (fun _ => rfl)
    exact (Tryd.unicode_IsDigit x0 w h).mono fun e w' ⟨h1, h2⟩ => ⟨h1, h2 ▸ Below.refl _ _⟩
theorem below_bytes (w : World) (s : ByteArray) (t : TypeId) : True := trivial
def f33 (x0 : List UInt8) : Option (Int × Bool) := if x0.length ≤ 281474976710656 then some (match Lib.atoiAll x0 with | .ok v => (v, true) | Lib.NumEnd.syntax => (0, false) | .range => (Lib.atoiSat x0, false)) else none
theorem errAt {w : World} {g : Nat} (hg : g ∈ seatIfs) (hL : Laid w w.heap.size) : ∃ ev, w.cell? ⟨g, 0, none⟩ = some ev ∧ (ev = .nilIface ∨ ∃ te pe, ev = .iface te pe) := by
  obtain ⟨-, t, z, h⟩ := hL.2.2 g hg
  exact ⟨_, h, .inr ⟨_, _, rfl⟩⟩
theorem f33_ok {H : Hp} {x0 : List UInt8} {r : Int × Bool} (hp : f33 x0 = some r) : SCall Tryd.prog 33 [.string (bs x0)] H (Ret fun v H' => Ext H H' ∧ R_3_60 r H.next H' v) := by
  unfold f33 at hp
  split at hp
  case isFalse => cases hp
  case isTrue h =>
    cases hp
    rcases ha : Lib.atoiAll x0 with v | _ | _
    · skip
      refine SCall.ofOk (fun w hL => ?_) rfl H
      exact (Any.strconv_Atoi_ok Tryd.laysC172 (bs x0) (by show x0.length ≤ _; omega) v ha w).mono fun e w' ⟨h1, h2⟩ => ⟨h1, by
        rcases h2 with rfl | ⟨t, rfl⟩
        · exact Below.refl _ _
        · exact Lib.bytesWorld_below _ _ _⟩
    · skip
      refine SCall.ofErr (T := Tryd.lays172_ren.t 168) (fun w hL => ?_) rfl H
      obtain ⟨ev, h1, h2⟩ := errAt (g := 3) (by simp [seatIfs]) hL
      exact (Any.strconv_Atoi_syntax Tryd.laysC172 (bs x0) (by show x0.length ≤ _; exact h) ha ev w h1 h2).mono fun e w' ⟨N, k1, k2, k3, k4⟩ => ⟨N, _, _, k1, k2, k3, k4⟩
    · skip
      refine SCall.ofErr (T := Tryd.lays172_ren.t 168) (fun w hL => ?_) rfl H
      obtain ⟨ev, h1, h2⟩ := errAt (g := 4) (by simp [seatIfs]) hL
      exact (Any.strconv_Atoi_range Tryd.laysC172 (bs x0) (by show x0.length ≤ _; exact h) ha ev w h1 h2).mono fun e w' ⟨N, k1, k2, k3, k4⟩ => ⟨N, _, _, k1, k2, k3, k4⟩
end Go.Proofs.YtenddpplfdgcfaaDoor
