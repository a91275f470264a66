import Derived.Test.YtbdndhodggdhkaaDoorST
import Derived.Test.YtbdndhodggdhkaaDoorSK
import Derived.Test.YtbdndhodggdhkaaDoorSh
import Derived.Test.YtbdndhodggdhkaaDoorD52
set_option linter.unusedVariables false
set_option linter.unusedSimpArgs false
namespace Go.Proofs.YtbdndhodggdhkaaDoor
open Go Go.Det Go.RowKit
def f5 : Option Bool := some true
theorem f5_ok {H : Hp} {r : Bool} (hp : f5 = some r) : SCall Tryd.prog 5 [] H (Ret fun v H' => Ext H H' ∧ R_4 r H.next H' v) := by
  obtain rfl := Option.some.inj hp
  exact (known5 H).mono fun _ _ ⟨v, h1, h2, h3⟩ => ⟨v, h1, by subst h2 h3; exact ⟨Ext.refl _, rfl⟩⟩
theorem awake_run : (callE Tryd.prog (evC2 Tryd.prog 2000) 10 [] (HG Tryd.prog.globals.size)).map (fun p => p.1) = some (.ret (.bool true)) := by kernel_rfl
def f10 : Option Bool := some true
theorem f10_ok {H : Hp} {r : Bool} (hp : f10 = some r) : SCall Tryd.prog 10 [] H (Ret fun v H' => Ext H H' ∧ R_4 r H.next H' v) := by
  obtain rfl := Option.some.inj hp
  exact (SCall.closed2 2000 seatFl seatOk awake_run rfl rfl H).mono fun _ _ ⟨v, h1, h2, h3⟩ => ⟨v, h1, by subst h2 h3; exact ⟨Ext.refl _, rfl⟩⟩
theorem below_drewN (w : World) (n : Nat) : Below w.heap.size w (w.drewN n) := ⟨rfl, rfl, rfl, Nat.le_refl _, fun _ _ => rfl⟩
theorem SCall.flatR {P : Program} {f : FuncId} {args : List Value} {v : Value} {R : Value → Hp → Prop} {H : Hp} (h : SCall P f args H (Ret fun v' H' => H' = H ∧ v' = v)) (hR : ∀ H, R v H) : SCall P f args H (Ret fun v' H' => Ext H H' ∧ R v' H') :=
  h.mono fun _ _ ⟨_, h1, h2, h3⟩ => by subst h2 h3; exact ⟨_, h1, Ext.refl _, hR _⟩
theorem below_growN (w : World) (n : Nat) (os : Array Obj) : Below w.heap.size w (Go.Sort.grow (w.drewN n) os) := by
  refine ⟨rfl, rfl, rfl, ?_, fun k hk => ?_⟩
  · show w.heap.size ≤ (w.heap ++ os).size
    rw [Array.size_append]; omega
  · show (w.heap ++ os)[k]? = w.heap[k]?
    rw [Array.getElem?_append_left hk]
def f50 (x0 : Int) : Option (List UInt8) := if -9223372036854775808 ≤ x0 ∧ x0 ≤ 9223372036854775807 then some (Lib.itoa x0) else none
theorem f50_ok {H : Hp} {x0 : Int} {r : List UInt8} (hp : f50 x0 = some r) : SCall Tryd.prog 50 [.int .i64 x0] H (Ret fun v H' => Ext H H' ∧ R_9 r H.next H' v) := by
  unfold f50 at hp
  split at hp
  case isFalse => cases hp
  case isTrue h =>
    cases hp
    refine SCall.flatR (v := .string (bs (Lib.itoa x0))) (SCall.ofCallsL (fun w hL => ?_) rfl rfl H) (fun _ => rfl)
    have ht : Lib.TabIs Tryd.prog w "internal/strconv.uint64pow10" .u64 Lib.pow10Tab := hL.tabIs (g := 2) (List.mem_cons_self ..) (by kernel_rfl)
    exact (Tryd.strconv_Itoa x0 h.1 h.2 w ht).mono fun e w' ⟨h1, k, os, h2⟩ => ⟨h1, h2 ▸ below_growN w k os⟩
theorem below_bytes (w : World) (s : ByteArray) (t : TypeId) : True := trivial
def f49 (x0 : List UInt8) : Option (Int × Bool) := if x0.length ≤ 281474976710656 then some (match Lib.atoiAll x0 with | .ok v => (v, true) | Lib.NumEnd.syntax => (0, false) | .range => (Lib.atoiSat x0, false)) else none
theorem errAt {w : World} {g : Nat} (hg : g ∈ seatIfs) (hL : Laid w w.heap.size) : ∃ ev, w.cell? ⟨g, 0, none⟩ = some ev ∧ (ev = .nilIface ∨ ∃ te pe, ev = .iface te pe) := by
  obtain ⟨-, t, z, h⟩ := hL.2.2 g hg
  exact ⟨_, h, .inr ⟨_, _, rfl⟩⟩
theorem f49_ok {H : Hp} {x0 : List UInt8} {r : Int × Bool} (hp : f49 x0 = some r) : SCall Tryd.prog 49 [.string (bs x0)] H (Ret fun v H' => Ext H H' ∧ R_3_73 r H.next H' v) := by
  unfold f49 at hp
  split at hp
  case isFalse => cases hp
  case isTrue h =>
    cases hp
    rcases ha : Lib.atoiAll x0 with v | _ | _
    · skip
      refine SCall.ofOk (fun w hL => ?_) rfl H
      exact (Any.strconv_Atoi_ok Tryd.laysC172 (bs x0) (by show x0.length ≤ _; omega) v ha w).mono fun e w' ⟨h1, h2⟩ => ⟨h1, by
        rcases h2 with rfl | ⟨t, rfl⟩
        · exact Below.refl _ _
        · exact Lib.bytesWorld_below _ _ _⟩
    · skip
      refine SCall.ofErr (T := Tryd.lays172_ren.t 168) (fun w hL => ?_) rfl H
      obtain ⟨ev, h1, h2⟩ := errAt (g := 0) (by simp [seatIfs]) hL
      exact (Any.strconv_Atoi_syntax Tryd.laysC172 (bs x0) (by show x0.length ≤ _; exact h) ha ev w h1 h2).mono fun e w' ⟨N, k1, k2, k3, k4⟩ => ⟨N, _, _, k1, k2, k3, k4⟩
    · skip
      refine SCall.ofErr (T := Tryd.lays172_ren.t 168) (fun w hL => ?_) rfl H
      obtain ⟨ev, h1, h2⟩ := errAt (g := 1) (by simp [seatIfs]) hL
      exact (Any.strconv_Atoi_range Tryd.laysC172 (bs x0) (by show x0.length ≤ _; exact h) ha ev w h1 h2).mono fun e w' ⟨N, k1, k2, k3, k4⟩ => ⟨N, _, _, k1, k2, k3, k4⟩
end Go.Proofs.YtbdndhodggdhkaaDoor
