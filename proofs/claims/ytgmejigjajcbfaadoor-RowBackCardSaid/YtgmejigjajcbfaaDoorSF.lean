import Derived.Test.YtgmejigjajcbfaaDoorSM
import Derived.Test.YtgmejigjajcbfaaDoorST
import Derived.Test.YtgmejigjajcbfaaDoorD51
set_option linter.unusedVariables false
set_option linter.unusedSimpArgs false
namespace Go.Proofs.YtgmejigjajcbfaaDoor
open Go Go.Det Go.RowKit
noncomputable section
/-! 18 unicode/utf8.RuneLen -/
def f18 (x0 : Int) : Option Int :=
  if x0 < 0 then
    some (-1)
  else
    if x0 ≤ 127 then
      some 1
    else
      if x0 ≤ 2047 then
        some 2
      else
        (if 55296 ≤ x0 then
          if x0 ≤ 57343 then
            some (Sum.inl ((-1) : Int))
          else
            if x0 ≤ 65535 then
              some (Sum.inl (3 : Int))
            else
              if x0 ≤ 1114111 then
                some (Sum.inl (4 : Int))
              else
                some (Sum.inr ())
        else
          if x0 ≤ 65535 then
            some (Sum.inl (3 : Int))
          else
            if x0 ≤ 1114111 then
              some (Sum.inl (4 : Int))
            else
              some (Sum.inr ())).bind fun s => match s with
          | .inl st => some st
          | .inr _ => 
            some (-1)
set_option maxRecDepth 20000 in
theorem f18_ok {H : Hp} {x0 : Int} {r : Int} (hp : f18 x0 = some r) :
    SCall Tryd.prog 18 [.int .i32 x0] H (Ret fun v H' => Ext H H' ∧ R_3 r H.next H' v) := by
  unfold f18 at hp
  replace hp := topS hp
  refine SCall.g Tryd.func18 rfl rfl rfl rfl rfl (l := [(0, .v (.int .i32 x0))]) (fun _ => rfl) (fun B abB => ?_)
  refine WJ.ci 209 hp rfl rfl rfl rfl rfl rfl rfl rfl rfl (fun hc5 hp => ?_) (fun hc5 hp => ?_)
  · obtain rfl := endS (show some _ = some r from hp)
    exact WJ.rt 207 rfl rfl rfl (fun ids H' fr => ⟨fr.ext0, rfl⟩)
  · refine WJ.ci 206 hp rfl rfl rfl rfl rfl rfl rfl rfl rfl (fun hc8 hp => ?_) (fun hc8 hp => ?_)
    · obtain rfl := endS (show some _ = some r from hp)
      exact WJ.rt 207 rfl rfl rfl (fun ids H' fr => ⟨fr.ext0, rfl⟩)
    · refine WJ.ci 206 hp rfl rfl rfl rfl rfl rfl rfl rfl rfl (fun hc11 hp => ?_) (fun hc11 hp => ?_)
      · obtain rfl := endS (show some _ = some r from hp)
        exact WJ.rt 207 rfl rfl rfl (fun ids H' fr => ⟨fr.ext0, rfl⟩)
      · refine WJ.adv 4 rfl ?_
        obtain ⟨K1, hK1, hp⟩ : ∃ K, K = _ ∧ Option.bind _ K = some r := ⟨_, rfl, cutS hp⟩
        refine WJ.cut 3 (α := Unit) (fun y => []) (fun y => []) (fun y => []) (fun y => B) (fun y => K1 ((Sum.inr ())) = some r) ?_ (fun j1 => ?_)
        · rintro u hp
          subst hK1
          show WJ _ _ _ B [] _ _ ⟨[], [], true, 0⟩
          obtain rfl := endS (show some _ = some r from hp)
          exact WJ.rt 204 rfl rfl rfl (fun ids H' fr => ⟨fr.ext0, rfl⟩)
        · refine WJ.ci 202 hp rfl rfl rfl rfl rfl rfl rfl rfl rfl (fun hc14 hp => ?_) (fun hc14 hp => ?_)
          · refine WJ.ci 202 hp rfl rfl rfl rfl rfl rfl rfl rfl rfl (fun hc17 hp => ?_) (fun hc17 hp => ?_)
            · subst hK1
              obtain rfl := endS (show some _ = some r from hp)
              exact WJ.rt 208 rfl rfl rfl (fun ids H' fr => ⟨fr.ext0, rfl⟩)
            · refine WJ.ci 207 hp rfl rfl rfl rfl rfl rfl rfl rfl rfl (fun hc21 hp => ?_) (fun hc21 hp => ?_)
              · subst hK1
                obtain rfl := endS (show some _ = some r from hp)
                exact WJ.rt 207 rfl rfl rfl (fun ids H' fr => ⟨fr.ext0, rfl⟩)
              · refine WJ.ci 206 hp rfl rfl rfl rfl rfl rfl rfl rfl rfl (fun hc24 hp => ?_) (fun hc24 hp => ?_)
                · subst hK1
                  obtain rfl := endS (show some _ = some r from hp)
                  exact WJ.rt 207 rfl rfl rfl (fun ids H' fr => ⟨fr.ext0, rfl⟩)
                · exact WJ.goto 5 (j1 () hp) rfl rfl (by exact trivial) rfl rfl rfl
          · refine WJ.ci 210 hp rfl rfl rfl rfl rfl rfl rfl rfl rfl (fun hc21 hp => ?_) (fun hc21 hp => ?_)
            · subst hK1
              obtain rfl := endS (show some _ = some r from hp)
              exact WJ.rt 207 rfl rfl rfl (fun ids H' fr => ⟨fr.ext0, rfl⟩)
            · refine WJ.ci 206 hp rfl rfl rfl rfl rfl rfl rfl rfl rfl (fun hc24 hp => ?_) (fun hc24 hp => ?_)
              · subst hK1
                obtain rfl := endS (show some _ = some r from hp)
                exact WJ.rt 207 rfl rfl rfl (fun ids H' fr => ⟨fr.ext0, rfl⟩)
              · exact WJ.goto 5 (j1 () hp) rfl rfl (by exact trivial) rfl rfl rfl
/-! 21 tipstaff/row.plain -/
def f21 (x0 : Int) (x1 : Int) : Option Bool :=
  if x0 = 34 then
    some false
  else
    if x0 = 92 then
      some false
    else
      if x1 = 1 then
        if x0 ≥ 32 then
          (some (decide (x0 ≤ 126))).bind fun t19 =>
          some t19
        else
          some false
      else
        (some (decide (x0 ≥ 160))).bind fun t22 =>
        some t22
set_option maxRecDepth 20000 in
theorem f21_ok {H : Hp} {x0 : Int} {x1 : Int} {r : Bool} (hp : f21 x0 x1 = some r) :
    SCall Tryd.prog 21 [.int .i32 x0, .int .i64 x1] H (Ret fun v H' => Ext H H' ∧ R_4 r H.next H' v) := by
  unfold f21 at hp
  replace hp := topS hp
  refine SCall.g Tryd.func21 rfl rfl rfl rfl rfl (l := [(0, .v (.int .i32 x0)), (1, .v (.int .i64 x1))]) (fun _ => rfl) (fun B abB => ?_)
  refine WJ.ci 209 hp rfl rfl rfl rfl rfl rfl rfl rfl rfl (fun hc7 hp => ?_) (fun hc7 hp => ?_)
  · obtain rfl := endS (show some _ = some r from hp)
    exact WJ.rt 211 rfl rfl rfl (fun ids H' fr => ⟨fr.ext0, rfl⟩)
  · refine WJ.ci 202 hp rfl rfl rfl rfl rfl rfl rfl rfl rfl (fun hc10 hp => ?_) (fun hc10 hp => ?_)
    · obtain rfl := endS (show some _ = some r from hp)
      exact WJ.rt 208 rfl rfl rfl (fun ids H' fr => ⟨fr.ext0, rfl⟩)
    · refine WJ.ci 207 hp rfl rfl rfl rfl rfl rfl rfl rfl rfl (fun hc14 hp => ?_) (fun hc14 hp => ?_)
      · refine WJ.ci 206 hp rfl rfl rfl rfl rfl rfl rfl rfl rfl (fun hc16 hp => ?_) (fun hc16 hp => ?_)
        · obtain ⟨t19, e19, hp⟩ := bindS hp
          refine WJ.cv 202 (b := t19) (H0 := ⟨.nil, 0, 0⟩) rfl rfl rfl rfl rfl rfl (by rw [← endS e19]; exact rfl) rfl ?_
          obtain rfl := endS (show some _ = some r from hp)
          exact WJ.rt 203 rfl rfl rfl (fun ids H' fr => ⟨fr.ext0, rfl⟩)
        · obtain rfl := endS (show some _ = some r from hp)
          exact WJ.rt 206 rfl rfl rfl (fun ids H' fr => ⟨fr.ext0, rfl⟩)
      · obtain ⟨t22, e22, hp⟩ := bindS hp
        refine WJ.cv 208 (b := t22) (H0 := ⟨.nil, 0, 0⟩) rfl rfl rfl rfl rfl rfl (by rw [← endS e22]; exact rfl) rfl ?_
        obtain rfl := endS (show some _ = some r from hp)
        exact WJ.rt 202 rfl rfl rfl (fun ids H' fr => ⟨fr.ext0, rfl⟩)
/-! 13 tipstaff/row.Quote -/
def f13_l2 (l33 : List Int) : Nat → (List UInt8) → Int → Nat → Option ((List UInt8) × Nat)
  | 0, _, _, _ => none
  | n + 1, l1_h7, x35_h7, p0_h7 =>
    (some (decide (x35_h7 < (l33.length : Int)))).bind fun t36u1 =>
    if t36u1 then
      (rd l33 x35_h7).bind fun t37u1 =>
      (sub ([48, 49, 50, 51, 52, 53, 54, 55, 56, 57, 97, 98, 99, 100, 101, 102] : List UInt8) (gshr .u8 t37u1 4) (IntKind.u8.wrap ((gshr .u8 t37u1 4) + 1))).bind fun s44u1 =>
      (scat ([92, 120] : List UInt8) s44u1).bind fun s45u1 =>
      (sub ([48, 49, 50, 51, 52, 53, 54, 55, 56, 57, 97, 98, 99, 100, 101, 102] : List UInt8) (bits .and .u8 t37u1 15) (IntKind.u8.wrap ((bits .and .u8 t37u1 15) + 1))).bind fun s51u1 =>
      (scat s45u1 s51u1).bind fun s52u1 =>
      (apd 1 l1_h7 s52u1).bind fun lB53u1 =>
      f13_l2 l33 n lB53u1 (IntKind.i64.wrap (x35_h7 + 1)) p0_h7
    else
      some ((l1_h7, p0_h7))

def f13_l1 (k : Nat) (x0 : List UInt8) : Nat → (List UInt8) → Nat → Option ((List UInt8))
  | 0, _, _ => none
  | n + 1, l1_h4, p0_h4 =>
    if p0_h4 < x0.length then
      (f18 (decL x0 p0_h4)).bind fun t17u1 =>
      (if (decL x0 p0_h4) = 65533 then
        (sub x0 ((p0_h4 : Nat) : Int) (x0.length : Int)).bind fun s23u1 =>
        (f19 s23u1).bind fun (t24u1_0, t24u1_1) =>
        some ((t24u1_1, (p0_h4 + decN x0 p0_h4)))
      else
        some ((t17u1, (p0_h4 + decN x0 p0_h4)))).bind fun (x6_5, p0_5) =>
        if (decL x0 p0_h4) = 34 then
          (c8 92).bind fun uB62u1 =>
          (apd 1 l1_h4 ([uB62u1])).bind fun lB62u1 =>
          (c7 (decL x0 p0_h4)).bind fun uB64u1 =>
          (apd 1 lB62u1 ([uB64u1])).bind fun lB64u1 =>
          f13_l1 k x0 n lB64u1 p0_5
        else
          if (decL x0 p0_h4) = 92 then
            (c8 92).bind fun uB62u2 =>
            (apd 1 l1_h4 ([uB62u2])).bind fun lB62u2 =>
            (c7 (decL x0 p0_h4)).bind fun uB64u2 =>
            (apd 1 lB62u2 ([uB64u2])).bind fun lB64u2 =>
            f13_l1 k x0 n lB64u2 p0_5
          else
            (f21 (decL x0 p0_h4) x6_5).bind fun t68 =>
            if t68 then
              (sub x0 ((p0_h4 : Nat) : Int) (IntKind.i64.wrap (((p0_h4 : Nat) : Int) + x6_5))).bind fun s74 =>
              (apd 1 l1_h4 s74).bind fun lB75 =>
              f13_l1 k x0 n lB75 p0_5
            else
              (sub x0 ((p0_h4 : Nat) : Int) (IntKind.i64.wrap (((p0_h4 : Nat) : Int) + x6_5))).bind fun s32 =>
              (ne8 s32).bind fun l33 =>
              (f13_l2 l33 k l1_h4 0 p0_5).bind fun st =>
                f13_l1 k x0 n st.1 st.2
    else
      some (l1_h4)

def f13 (k : Nat) (x0 : List UInt8) : Option (List UInt8) :=
  (c8 34).bind fun uB9 =>
  (apd 1 ([] : List UInt8) ([uB9])).bind fun lB9 =>
  (f13_l1 k x0 k lB9 0).bind fun l1_4 =>
    (c8 34).bind fun uB76 =>
    (apd 1 l1_4 ([uB76])).bind fun lB76 =>
    (apd 1 lB76 ([] : List UInt8)).bind fun lB77 =>
    some lB76
set_option maxHeartbeats 3200000 in
set_option maxRecDepth 20000 in
theorem f13_ok {k : Nat} {H : Hp} {x0 : List UInt8} {r : List UInt8} (hp : f13 k x0 = some r) :
    SCall Tryd.prog 13 [.string (bs x0)] H (Ret fun v H' => Ext H H' ∧ R_9 r H.next H' v) := by
  unfold f13 at hp
  replace hp := topS hp
  refine SCall.g Tryd.func13 rfl rfl rfl rfl rfl (l := [(0, .v (.string (bs x0)))]) (fun _ => rfl) (fun B abB => ?_)
  refine WJ.nb (U := 5) 206 rfl rfl rfl rfl rfl bzero bis rfl rfl ?_
  intro bw3
  refine ⟨_, rfl, ?_⟩
  obtain ⟨uB9, euB9, hp⟩ := bindS hp
  obtain ⟨lB9, eB9, hp⟩ := bindS hp
  obtain ⟨bdB9, rfl⟩ := apd_some eB9
  refine WJ.bw 203 (s := [uB9]) 0 rfl (wb_ok euB9) (fun _ => rfl) rfl rfl rfl bdB9 ?_
  intro aB9
  refine ⟨_, rfl, ?_⟩
  refine WJ.rg 205 rfl rfl rfl rfl rfl us9 rfl ?_
  rintro b11 B1 ⟨abB1, ivB1⟩ h011 it11
  refine ⟨_, rfl, ?_⟩
  refine WJ.adv 2 rfl ?_
  obtain ⟨K4, hK4, hp⟩ : ∃ K, K = _ ∧ Option.bind _ K = some r := ⟨_, rfl, cutS hp⟩
  refine WJ.cut 2 (α := (List UInt8) × (Option Addr) × Nat × Hp) (fun y => [(3, .v (.pointer (some ⟨bw3, 0, none⟩)))]) (fun y => []) (fun y => [bldS 56 bw3 y.2.1 y.1, bldB 5 y.2.1 y.1]) (fun y => y.2.2.2) (fun y => K4 (y.1) = some r) ?_ (fun j4 => ?_)
  · rintro ⟨l1_4, a1_4, c1_4, B9⟩ hp
    subst hK4
    show WJ _ _ _ B9 [bldS 56 bw3 a1_4 l1_4, bldB 5 a1_4 l1_4] _ _ ⟨[(3, .v (.pointer (some ⟨bw3, 0, none⟩)))], [], true, 0⟩
    obtain ⟨uB76, euB76, hp⟩ := bindS hp
    obtain ⟨lB76, eB76, hp⟩ := bindS hp
    obtain ⟨bdB76, rfl⟩ := apd_some eB76
    refine WJ.bw 202 (s := [uB76]) 0 rfl (wb_ok euB76) (fun _ => rfl) rfl rfl rfl bdB76 ?_
    intro aB76
    refine ⟨_, rfl, ?_⟩
    obtain ⟨lB77, eB77, hp⟩ := bindS hp
    obtain ⟨bdB77, rfl⟩ := apd_some eB77
    refine WJ.bg 203 0 rfl st_ok (fun _ => rfl) rfl rfl rfl (by simpa using bdB77) ?_
    refine ⟨_, rfl, ?_⟩
    obtain rfl := endS (show some _ = some r from hp)
    exact WJ.rt 202 rfl rfl rfl (fun ids H' fr => ⟨fr.ext0, rfl⟩)
  · refine WJ.lp 200 (α := Nat × (List UInt8) × Nat × (Option Addr) × Nat × Hp) (fun y => [(0, .v (.string (bs x0))), (3, .v (.pointer (some ⟨bw3, 0, none⟩))), (11, .v (.pointer (some ⟨b11, 0, none⟩)))]) (fun y => []) (fun y => [bldS 56 bw3 y.2.2.2.1 y.2.1, bldB 5 y.2.2.2.1 y.2.1]) (fun y => y.2.2.2.2.2) (fun y => y.1) (fun y => Option.bind (f13_l1 k x0 y.1 y.2.1 y.2.2.1) K4 = some r ∧ y.2.2.2.2.2.get b11 = some (.iter (bs x0) y.2.2.1)) (k, (([] : List UInt8) ++ ([uB9])), 0, aB9, 0, B1) rfl ⟨hp, it11⟩ (by exact ⟨rfl, rfl, rfl, trivial⟩) rfl rfl rfl ?_
    rintro ⟨n, l1_h4, p0_h4, a1_h4, c1_h4, B2⟩ ⟨hp, it11⟩ ih4
    show WJ _ _ _ B2 [bldS 56 bw3 a1_h4 l1_h4, bldB 5 a1_h4 l1_h4] _ _ ⟨[(0, .v (.string (bs x0))), (3, .v (.pointer (some ⟨bw3, 0, none⟩))), (11, .v (.pointer (some ⟨b11, 0, none⟩)))], [], true, 0⟩
    replace hp : Option.bind (f13_l1 k x0 n l1_h4 p0_h4) K4 = some r := hp
    cases n with
    | zero => rw [f13_l1] at hp; exact (noS hp).elim
    | succ n =>
      rw [f13_l1] at hp
      refine WJ.nx 202 hp rfl rfl rfl rfl rfl rfl it11 h011 rfl rfl (fun hp B3 abB3 neB3 it_new => ?_) (fun hp => ?_)
      · replace it11 := it_new
        obtain ⟨t17u1, e17u1, hp⟩ := bindS hp
        refine WJ.cl 216 (R := R_3 t17u1) (fun hm h k => R_3.mono hm h k) rfl (fun ids H' fr => f18_ok e17u1) ?_
        rintro v B4 ⟨abB4, ivB4⟩ rfl
        refine ⟨_, rfl, ?_⟩
        replace it11 := ivB4 _ _ it11
        refine WJ.adv 4 rfl ?_
        obtain ⟨K5, hK5, hp⟩ : ∃ K, K = _ ∧ Option.bind _ K = some r := ⟨_, rfl, cutS hp⟩
        refine WJ.cut 2 (α := Int × Nat × Hp) (fun y => [(0, .v (.string (bs x0))), (3, .v (.pointer (some ⟨bw3, 0, none⟩))), (4, .v (.int .i64 ((p0_h4 : Nat) : Int))), (5, .v (.int .i32 (decL x0 p0_h4))), (6, .v (.int .i64 y.1)), (11, .v (.pointer (some ⟨b11, 0, none⟩)))]) (fun y => []) (fun y => [bldS 56 bw3 a1_h4 l1_h4, bldB 5 a1_h4 l1_h4]) (fun y => y.2.2) (fun y => K5 (((y.1, y.2.1))) = some r ∧ y.2.2.get b11 = some (.iter (bs x0) y.2.1)) ?_ (fun j5 => ?_)
        · rintro ⟨x6_5, p0_5, B6⟩ ⟨hp, it11⟩
          subst hK5
          show WJ _ _ _ B6 [bldS 56 bw3 a1_h4 l1_h4, bldB 5 a1_h4 l1_h4] _ _ ⟨[(0, .v (.string (bs x0))), (3, .v (.pointer (some ⟨bw3, 0, none⟩))), (4, .v (.int .i64 ((p0_h4 : Nat) : Int))), (5, .v (.int .i32 (decL x0 p0_h4))), (6, .v (.int .i64 x6_5)), (11, .v (.pointer (some ⟨b11, 0, none⟩)))], [], true, 0⟩
          refine WJ.ci 204 hp rfl rfl rfl rfl rfl rfl rfl rfl rfl (fun hc57u1 hp => ?_) (fun hc57u1 hp => ?_)
          · obtain ⟨uB62u1, euB62u1, hp⟩ := bindS hp
            obtain ⟨lB62u1, eB62u1, hp⟩ := bindS hp
            obtain ⟨bdB62u1, rfl⟩ := apd_some eB62u1
            refine WJ.bw 209 (s := [uB62u1]) 0 rfl (wb_ok euB62u1) (fun _ => rfl) rfl rfl rfl bdB62u1 ?_
            intro aB62u1
            refine ⟨_, rfl, ?_⟩
            obtain ⟨uB64u1, euB64u1, hp⟩ := bindS hp
            obtain ⟨lB64u1, eB64u1, hp⟩ := bindS hp
            obtain ⟨bdB64u1, rfl⟩ := apd_some eB64u1
            refine WJ.bw 203 (s := [uB64u1]) 0 rfl (wr_ok euB64u1) (fun _ => rfl) rfl rfl rfl bdB64u1 ?_
            intro aB64u1
            refine ⟨_, rfl, ?_⟩
            exact WJ.ag 203 rfl (by exact ⟨rfl, rfl, rfl, trivial⟩) rfl rfl rfl (ih4 (n, ((l1_h4 ++ ([uB62u1])) ++ ([uB64u1])), p0_5, aB64u1, 0, B6) ⟨hp, it11⟩ (Nat.lt_succ_self _))
          · refine WJ.ci 202 hp rfl rfl rfl rfl rfl rfl rfl rfl rfl (fun hc60 hp => ?_) (fun hc60 hp => ?_)
            · obtain ⟨uB62u2, euB62u2, hp⟩ := bindS hp
              obtain ⟨lB62u2, eB62u2, hp⟩ := bindS hp
              obtain ⟨bdB62u2, rfl⟩ := apd_some eB62u2
              refine WJ.bw 206 (s := [uB62u2]) 0 rfl (wb_ok euB62u2) (fun _ => rfl) rfl rfl rfl bdB62u2 ?_
              intro aB62u2
              refine ⟨_, rfl, ?_⟩
              obtain ⟨uB64u2, euB64u2, hp⟩ := bindS hp
              obtain ⟨lB64u2, eB64u2, hp⟩ := bindS hp
              obtain ⟨bdB64u2, rfl⟩ := apd_some eB64u2
              refine WJ.bw 203 (s := [uB64u2]) 0 rfl (wr_ok euB64u2) (fun _ => rfl) rfl rfl rfl bdB64u2 ?_
              intro aB64u2
              refine ⟨_, rfl, ?_⟩
              exact WJ.ag 203 rfl (by exact ⟨rfl, rfl, rfl, trivial⟩) rfl rfl rfl (ih4 (n, ((l1_h4 ++ ([uB62u2])) ++ ([uB64u2])), p0_5, aB64u2, 0, B6) ⟨hp, it11⟩ (Nat.lt_succ_self _))
            · obtain ⟨t68, e68, hp⟩ := bindS hp
              refine WJ.cl 208 (R := R_4 t68) (fun hm h k => R_4.mono hm h k) rfl (fun ids H' fr => f21_ok e68) ?_
              rintro v B7 ⟨abB7, ivB7⟩ rfl
              refine ⟨_, rfl, ?_⟩
              replace it11 := ivB7 _ _ it11
              cases t68
              · replace hp := (itS hp).2 Bool.false_ne_true
                obtain ⟨s32, e32, hp⟩ := bindS hp
                refine WJ.hd (v := .string (bs s32)) 210 rfl rfl rfl rfl (fun ids H' fr => opD_slh rfl (evV_eq _ _ _ _ _ rfl) (evV_eq _ _ _ _ _ rfl) (evV_eq _ _ _ _ _ rfl) (sliceD_lh us9 e32)) rfl ?_
                obtain ⟨l33, e33, hp⟩ := bindS hp
                refine WJ.cb 200 (L := l33) rfl rfl rfl rfl rfl rfl us9 u54 u8_5 e33 ?_
                intro b33
                refine ⟨_, rfl, ?_⟩
                refine WJ.adv 4 rfl ?_
                obtain ⟨K7, hK7, hp⟩ : ∃ K, K = _ ∧ Option.bind _ K = some r := ⟨_, rfl, cutS hp⟩
                refine WJ.lp 200 (α := Nat × (List UInt8) × Int × Nat × (Option Addr) × Nat × Hp) (fun y => [(0, .v (.string (bs x0))), (3, .v (.pointer (some ⟨bw3, 0, none⟩))), (11, .v (.pointer (some ⟨b11, 0, none⟩))), (33, .v (.slice (some ⟨b33, 0, none⟩) l33.length LOOSE)), (34, .v (.int .i64 ((l33.length : Nat) : Int))), (35, .v (.int .i64 y.2.2.1))]) (fun y => []) (fun y => [bldS 56 bw3 y.2.2.2.2.1 y.2.1, bldB 5 y.2.2.2.2.1 y.2.1, ⟨(some ⟨b33, 0, none⟩), LOOSE, 1, encL (kE .u8) l33⟩]) (fun y => y.2.2.2.2.2.2) (fun y => y.1) (fun y => Option.bind (f13_l2 l33 y.1 y.2.1 y.2.2.1 y.2.2.2.1) K7 = some r ∧ y.2.2.2.2.2.2.get b11 = some (.iter (bs x0) y.2.2.2.1)) (k, l1_h4, 0, p0_5, a1_h4, 0, B7) rfl ⟨hp, it11⟩ (by exact ⟨rfl, rfl, rfl, rfl, rfl, rfl, trivial⟩) rfl rfl rfl ?_
                rintro ⟨n7, l1_h7, x35_h7, p0_h7, a1_h7, c1_h7, B8⟩ ⟨hp, it11⟩ ih7
                show WJ _ _ _ B8 [bldS 56 bw3 a1_h7 l1_h7, bldB 5 a1_h7 l1_h7, ⟨(some ⟨b33, 0, none⟩), LOOSE, 1, encL (kE .u8) l33⟩] _ _ ⟨[(0, .v (.string (bs x0))), (3, .v (.pointer (some ⟨bw3, 0, none⟩))), (11, .v (.pointer (some ⟨b11, 0, none⟩))), (33, .v (.slice (some ⟨b33, 0, none⟩) l33.length LOOSE)), (34, .v (.int .i64 ((l33.length : Nat) : Int))), (35, .v (.int .i64 x35_h7))], [], true, 0⟩
                replace hp : Option.bind (f13_l2 l33 n7 l1_h7 x35_h7 p0_h7) K7 = some r := hp
                cases n7 with
                | zero => rw [f13_l2] at hp; exact (noS hp).elim
                | succ n7 =>
                  rw [f13_l2] at hp
                  obtain ⟨t36u1, e36u1, hp⟩ := bindS hp
                  refine WJ.cv 202 (b := t36u1) (H0 := ⟨.nil, 0, 0⟩) rfl rfl rfl rfl rfl rfl (by rw [← endS e36u1]; exact rfl) rfl ?_
                  cases t36u1
                  · replace hp := (itS hp).2 Bool.false_ne_true
                    subst hK7
                    exact WJ.ag 206 rfl (by exact ⟨rfl, rfl, rfl, trivial⟩) rfl rfl rfl (ih4 (n, l1_h7, p0_h7, a1_h7, 0, B8) ⟨hp, it11⟩ (Nat.lt_succ_self _))
                  · replace hp := (itS hp).1 rfl
                    obtain ⟨t37u1, e37u1, hp⟩ := bindS hp
                    refine WJ.ownAddr (enc := (kE .u8)) (sz := 1) 2 (fun _ => rfl) rfl rfl e37u1 (fun b37u1 hb37u1 => ?_)
                    refine WJ.hd (v := .pointer (some ⟨b37u1, (x35_h7 : Int).toNat * 1, none⟩)) 208 rfl rfl rfl rfl (fun ids H' fr => opD_indexAddr rfl (evV_eq _ _ _ _ _ rfl) (evV_eq _ _ _ _ _ rfl) (ownIdx hb37u1 e37u1 u54 sz5)) rfl ?_
                    refine WJ.hd (v := .int .u8 t37u1) 200 rfl rfl rfl rfl (fun ids H' fr => opD_load rfl (evV_eq _ _ _ _ _ rfl) ((fr.ownEl (enc := (kE .u8)) (sz := 1) (j := 2) (fun _ => rfl) rfl hb37u1 e37u1).load (d := 0) ag5 rfl)) rfl ?_
                    refine WJ.dr 202 rfl gmix (by kernel_rfl) (by kernel_rfl) rfl ?_
                    refine WD.hd (v := .int .u8 (gshr .u8 t37u1 4)) rfl rfl rfl rfl (fun _ _ _ _ _ => side_no) (fun ids H' fr => opD_bin rfl (evV_eq _ _ _ _ _ rfl) (evV_eq _ _ _ _ _ rfl) (bin_shr (by decide))) rfl ?_
                    refine WD.hd (v := .int .u8 (gshr .u8 t37u1 4)) rfl rfl rfl rfl (fun _ _ _ _ _ => side_no) (fun ids H' fr => opD_bin rfl (evV_eq _ _ _ _ _ rfl) (evV_eq _ _ _ _ _ rfl) (bin_shr (by decide))) rfl ?_
                    obtain ⟨s44u1, e44u1, hp⟩ := bindS hp
                    refine WD.hd (v := .string (bs s44u1)) rfl rfl rfl rfl (fun _ _ _ _ _ => side_no) (fun ids H' fr => opD_slh rfl (evV_eq _ _ _ _ _ rfl) (evV_eq _ _ _ _ _ rfl) (evV_eq _ _ _ _ _ rfl) (sliceD_lh us9 e44u1)) rfl ?_
                    obtain ⟨s45u1, e45u1, hp⟩ := bindS hp
                    refine WD.hd (v := .string (bs s45u1)) rfl rfl rfl rfl (fun _ _ _ _ _ => side_no) (fun ids H' fr => opD_bin rfl (evV_eq _ _ _ _ _ rfl) (evV_eq _ _ _ _ _ rfl) (bin_sadd e45u1)) rfl ?_
                    obtain ⟨s51u1, e51u1, hp⟩ := bindS hp
                    refine WD.hd (v := .string (bs s51u1)) rfl rfl rfl rfl (fun _ _ _ _ _ => side_no) (fun ids H' fr => opD_slh rfl (evV_eq _ _ _ _ _ rfl) (evV_eq _ _ _ _ _ rfl) (evV_eq _ _ _ _ _ rfl) (sliceD_lh us9 e51u1)) rfl ?_
                    obtain ⟨s52u1, e52u1, hp⟩ := bindS hp
                    refine WD.hd (v := .string (bs s52u1)) rfl rfl rfl rfl (fun _ _ _ _ _ => side_no) (fun ids H' fr => opD_bin rfl (evV_eq _ _ _ _ _ rfl) (evV_eq _ _ _ _ _ rfl) (bin_sadd e52u1)) rfl ?_
                    obtain ⟨lB53u1, eB53u1, hp⟩ := bindS hp
                    obtain ⟨bdB53u1, rfl⟩ := apd_some eB53u1
                    refine WD.bw (s := s52u1) 0 rfl (ws_ok s52u1) (fun _ => rfl) rfl rfl rfl bdB53u1 ?_
                    intro aB53u1
                    refine ⟨_, rfl, ?_⟩
                    refine WD.done rfl ?_
                    exact WJ.ag 205 rfl (by exact ⟨rfl, rfl, rfl, rfl, rfl, rfl, trivial⟩) rfl rfl rfl (ih7 (n7, (l1_h7 ++ s52u1), IntKind.i64.wrap (x35_h7 + 1), p0_h7, aB53u1, 0, B8) ⟨hp, it11⟩ (Nat.lt_succ_self _))
              · replace hp := (itS hp).1 rfl
                obtain ⟨s74, e74, hp⟩ := bindS hp
                refine WJ.hd (v := .string (bs s74)) 209 rfl rfl rfl rfl (fun ids H' fr => opD_slh rfl (evV_eq _ _ _ _ _ rfl) (evV_eq _ _ _ _ _ rfl) (evV_eq _ _ _ _ _ rfl) (sliceD_lh us9 e74)) rfl ?_
                obtain ⟨lB75, eB75, hp⟩ := bindS hp
                obtain ⟨bdB75, rfl⟩ := apd_some eB75
                refine WJ.bw 200 (s := s74) 0 rfl (ws_ok s74) (fun _ => rfl) rfl rfl rfl bdB75 ?_
                intro aB75
                refine ⟨_, rfl, ?_⟩
                exact WJ.ag 203 rfl (by exact ⟨rfl, rfl, rfl, trivial⟩) rfl rfl rfl (ih4 (n, (l1_h4 ++ s74), p0_5, aB75, 0, B7) ⟨hp, it11⟩ (Nat.lt_succ_self _))
        · refine WJ.ci 202 hp rfl rfl rfl rfl rfl rfl rfl rfl rfl (fun hc19u1 hp => ?_) (fun hc19u1 hp => ?_)
          · obtain ⟨s23u1, e23u1, hp⟩ := bindS hp
            refine WJ.hd (v := .string (bs s23u1)) 205 rfl rfl rfl rfl (fun ids H' fr => opD_sl rfl (evV_eq _ _ _ _ _ rfl) (evV_eq _ _ _ _ _ rfl) (sliceD_l us9 e23u1)) rfl ?_
            obtain ⟨⟨t24u1_0, t24u1_1⟩, e24u1, hp⟩ := bindS hp
            refine WJ.cl 200 (R := R_21_3 ⟨t24u1_0, t24u1_1⟩) (fun hm h k => R_21_3.mono hm h k) rfl (fun ids H' fr => f19_ok e24u1) ?_
            rintro v B5 ⟨abB5, ivB5⟩ rfl
            refine ⟨_, rfl, ?_⟩
            replace it11 := ivB5 _ _ it11
            exact WJ.goto 5 (j5 (t24u1_1, (p0_h4 + decN x0 p0_h4), B5) ⟨hp, it11⟩) rfl rfl (by exact ⟨rfl, rfl, rfl, rfl, rfl, rfl, trivial⟩) rfl rfl rfl
          · exact WJ.goto 3 (j5 (t17u1, (p0_h4 + decN x0 p0_h4), B4) ⟨hp, it11⟩) rfl rfl (by exact ⟨rfl, rfl, rfl, rfl, rfl, rfl, trivial⟩) rfl rfl rfl
      · exact WJ.goto 5 (j4 (l1_h4, a1_h4, 0, B2) hp) rfl rfl (by exact ⟨rfl, trivial⟩) rfl rfl rfl
/-! 48 tipstaff/row.letter -/
def f48 (x0 : Int) : Option Bool :=
  if x0 ≥ 97 then
    if x0 ≤ 122 then
      some true
    else
      if x0 ≥ 65 then
        (some (decide (x0 ≤ 90))).bind fun t14 =>
        some t14
      else
        some false
  else
    if x0 ≥ 65 then
      (some (decide (x0 ≤ 90))).bind fun t14 =>
      some t14
    else
      some false
set_option maxRecDepth 20000 in
theorem f48_ok {H : Hp} {x0 : Int} {r : Bool} (hp : f48 x0 = some r) :
    SCall Tryd.prog 48 [.int .i32 x0] H (Ret fun v H' => Ext H H' ∧ R_4 r H.next H' v) := by
  unfold f48 at hp
  replace hp := topS hp
  refine SCall.g Tryd.func48 rfl rfl rfl rfl rfl (l := [(0, .v (.int .i32 x0))]) (fun _ => rfl) (fun B abB => ?_)
  refine WJ.ci 207 hp rfl rfl rfl rfl rfl rfl rfl rfl rfl (fun hc4 hp => ?_) (fun hc4 hp => ?_)
  · refine WJ.ci 202 hp rfl rfl rfl rfl rfl rfl rfl rfl rfl (fun hc7 hp => ?_) (fun hc7 hp => ?_)
    · obtain rfl := endS (show some _ = some r from hp)
      exact WJ.rt 211 rfl rfl rfl (fun ids H' fr => ⟨fr.ext0, rfl⟩)
    · refine WJ.ci 203 hp rfl rfl rfl rfl rfl rfl rfl rfl rfl (fun hc11 hp => ?_) (fun hc11 hp => ?_)
      · obtain ⟨t14, e14, hp⟩ := bindS hp
        refine WJ.cv 202 (b := t14) (H0 := ⟨.nil, 0, 0⟩) rfl rfl rfl rfl rfl rfl (by rw [← endS e14]; exact rfl) rfl ?_
        obtain rfl := endS (show some _ = some r from hp)
        exact WJ.rt 204 rfl rfl rfl (fun ids H' fr => ⟨fr.ext0, rfl⟩)
      · obtain rfl := endS (show some _ = some r from hp)
        exact WJ.rt 207 rfl rfl rfl (fun ids H' fr => ⟨fr.ext0, rfl⟩)
  · refine WJ.ci 206 hp rfl rfl rfl rfl rfl rfl rfl rfl rfl (fun hc11 hp => ?_) (fun hc11 hp => ?_)
    · obtain ⟨t14, e14, hp⟩ := bindS hp
      refine WJ.cv 202 (b := t14) (H0 := ⟨.nil, 0, 0⟩) rfl rfl rfl rfl rfl rfl (by rw [← endS e14]; exact rfl) rfl ?_
      obtain rfl := endS (show some _ = some r from hp)
      exact WJ.rt 204 rfl rfl rfl (fun ids H' fr => ⟨fr.ext0, rfl⟩)
    · obtain rfl := endS (show some _ = some r from hp)
      exact WJ.rt 207 rfl rfl rfl (fun ids H' fr => ⟨fr.ext0, rfl⟩)
/-! 38 tipstaff/row.digit -/
def f38 (x0 : Int) : Option (Int × Bool) :=
  (f52 ([48, 49, 50, 51, 52, 53, 54, 55, 56, 57, 97, 98, 99, 100, 101, 102] : List UInt8) (bits .or .u8 x0 32)).bind fun t7 =>
  (if x0 ≥ 48 then
    if x0 ≤ 57 then
      (f52 ([48, 49, 50, 51, 52, 53, 54, 55, 56, 57, 97, 98, 99, 100, 101, 102] : List UInt8) x0).bind fun t15 =>
      some (t15)
    else
      some (t7)
  else
    some (t7)).bind fun x4_8 =>
    if x4_8 ≥ 0 then
      if x0 ≥ 48 then
        if x0 ≤ 57 then
          some (IntKind.u8.wrap (gmax x4_8 0), true)
        else
          (f48 (IntKind.i32.wrap x0)).bind fun t31 =>
          some (IntKind.u8.wrap (gmax x4_8 0), t31)
      else
        (f48 (IntKind.i32.wrap x0)).bind fun t31 =>
        some (IntKind.u8.wrap (gmax x4_8 0), t31)
    else
      some (IntKind.u8.wrap (gmax x4_8 0), false)
set_option maxRecDepth 20000 in
theorem f38_ok {H : Hp} {x0 : Int} {r : Int × Bool} (hp : f38 x0 = some r) :
    SCall Tryd.prog 38 [.int .u8 x0] H (Ret fun v H' => Ext H H' ∧ R_5_4 r H.next H' v) := by
  unfold f38 at hp
  replace hp := topS hp
  refine SCall.g Tryd.func38 rfl rfl rfl rfl rfl (l := [(0, .v (.int .u8 x0))]) (fun _ => rfl) (fun B abB => ?_)
  obtain ⟨t7, e7, hp⟩ := bindS hp
  refine WJ.cl 209 (R := R_3 t7) (fun hm h k => R_3.mono hm h k) rfl (fun ids H' fr => f52_ok e7) ?_
  rintro v B1 ⟨abB1, ivB1⟩ rfl
  refine ⟨_, rfl, ?_⟩
  refine WJ.adv 4 rfl ?_
  obtain ⟨K8, hK8, hp⟩ : ∃ K, K = _ ∧ Option.bind _ K = some r := ⟨_, rfl, cutS hp⟩
  refine WJ.cut 2 (α := Int × Hp) (fun y => [(0, .v (.int .u8 x0)), (4, .v (.int .i64 y.1))]) (fun y => []) (fun y => []) (fun y => y.2) (fun y => K8 ((y.1)) = some r) ?_ (fun j8 => ?_)
  · rintro ⟨x4_8, B3⟩ hp
    subst hK8
    show WJ _ _ _ B3 [] _ _ ⟨[(0, .v (.int .u8 x0)), (4, .v (.int .i64 x4_8))], [], true, 0⟩
    refine WJ.hd (v := .int .i64 (gmax x4_8 0)) 203 rfl rfl rfl rfl (fun ids H' fr => opD_max rfl rfl rfl (evV_eq (v := .v (.int .i64 x4_8)) _ _ _ _ _ rfl) (evV_eq (v := .v (.int .i64 0)) _ _ _ _ _ rfl)) rfl ?_
    refine WJ.ci 202 hp rfl rfl rfl rfl rfl rfl rfl rfl rfl (fun hc20 hp => ?_) (fun hc20 hp => ?_)
    · refine WJ.ci 202 hp rfl rfl rfl rfl rfl rfl rfl rfl rfl (fun hc23 hp => ?_) (fun hc23 hp => ?_)
      · refine WJ.ci 202 hp rfl rfl rfl rfl rfl rfl rfl rfl rfl (fun hc26 hp => ?_) (fun hc26 hp => ?_)
        · obtain rfl := endS (show some _ = some r from hp)
          exact WJ.rt 210 rfl rfl rfl (fun ids H' fr => ⟨fr.ext0, rfl⟩)
        · obtain ⟨t31, e31, hp⟩ := bindS hp
          refine WJ.cl 204 (R := R_4 t31) (fun hm h k => R_4.mono hm h k) rfl (fun ids H' fr => f48_ok e31) ?_
          rintro v B4 ⟨abB4, ivB4⟩ rfl
          refine ⟨_, rfl, ?_⟩
          obtain rfl := endS (show some _ = some r from hp)
          exact WJ.rt 205 rfl rfl rfl (fun ids H' fr => ⟨fr.ext0, rfl⟩)
      · obtain ⟨t31, e31, hp⟩ := bindS hp
        refine WJ.cl 207 (R := R_4 t31) (fun hm h k => R_4.mono hm h k) rfl (fun ids H' fr => f48_ok e31) ?_
        rintro v B5 ⟨abB5, ivB5⟩ rfl
        refine ⟨_, rfl, ?_⟩
        obtain rfl := endS (show some _ = some r from hp)
        exact WJ.rt 205 rfl rfl rfl (fun ids H' fr => ⟨fr.ext0, rfl⟩)
    · obtain rfl := endS (show some _ = some r from hp)
      exact WJ.rt 216 rfl rfl rfl (fun ids H' fr => ⟨fr.ext0, rfl⟩)
  · refine WJ.ci 202 hp rfl rfl rfl rfl rfl rfl rfl rfl rfl (fun hc9 hp => ?_) (fun hc9 hp => ?_)
    · refine WJ.ci 202 hp rfl rfl rfl rfl rfl rfl rfl rfl rfl (fun hc12 hp => ?_) (fun hc12 hp => ?_)
      · obtain ⟨t15, e15, hp⟩ := bindS hp
        refine WJ.cl 205 (R := R_3 t15) (fun hm h k => R_3.mono hm h k) rfl (fun ids H' fr => f52_ok e15) ?_
        rintro v B2 ⟨abB2, ivB2⟩ rfl
        refine ⟨_, rfl, ?_⟩
        exact WJ.goto 2 (j8 (t15, B2) hp) rfl rfl (by exact ⟨rfl, rfl, trivial⟩) rfl rfl rfl
      · exact WJ.goto 4 (j8 (t7, B1) hp) rfl rfl (by exact ⟨rfl, rfl, trivial⟩) rfl rfl rfl
    · exact WJ.goto 7 (j8 (t7, B1) hp) rfl rfl (by exact ⟨rfl, rfl, trivial⟩) rfl rfl rfl
/-! 28 tipstaff/row.escape -/
def f28 (x0 : List UInt8) : Option (Int × Int) :=
  if x0 = ([] : List UInt8) then
    some (0, 0)
  else
    (rd x0 0).bind fun b13 =>
    if ((b13.toNat : Nat) : Int) = 34 then
      (rd x0 0).bind fun b21 =>
      some (((b21.toNat : Nat) : Int), 1)
    else
      (rd x0 0).bind fun b17 =>
      if ((b17.toNat : Nat) : Int) = 92 then
        (rd x0 0).bind fun b21 =>
        some (((b21.toNat : Nat) : Int), 1)
      else
        (rd x0 0).bind fun b24 =>
        if ((b24.toNat : Nat) : Int) = 120 then
          if (x0.length : Int) < 3 then
            some (0, 0)
          else
            (rd x0 1).bind fun b33 =>
            (f38 ((b33.toNat : Nat) : Int)).bind fun (t34_0, t34_1) =>
            (rd x0 2).bind fun b39 =>
            (f38 ((b39.toNat : Nat) : Int)).bind fun (t40_0, t40_1) =>
            if t34_1 then
              if t40_1 then
                some (bits .or .u8 (gshl .u8 t34_0 4) t40_0, 3)
              else
                some (0, 0)
            else
              some (0, 0)
        else
          some (0, 0)
set_option maxRecDepth 20000 in
theorem f28_ok {H : Hp} {x0 : List UInt8} {r : Int × Int} (hp : f28 x0 = some r) :
    SCall Tryd.prog 28 [.string (bs x0)] H (Ret fun v H' => Ext H H' ∧ R_5_3 r H.next H' v) := by
  unfold f28 at hp
  replace hp := topS hp
  refine SCall.g Tryd.func28 rfl rfl rfl rfl rfl (l := [(0, .v (.string (bs x0)))]) (fun _ => rfl) (fun B abB => ?_)
  refine WJ.ci 210 hp rfl rfl rfl rfl rfl rfl (opD_streq rfl rfl rfl) rfl rfl (fun hc10 hp => ?_) (fun hc10 hp => ?_)
  · obtain rfl := endS (show some _ = some r from hp)
    exact WJ.rt 208 rfl rfl rfl (fun ids H' fr => ⟨fr.ext0, rfl⟩)
  · obtain ⟨b13, e13, hp⟩ := bindS hp
    refine WJ.hd (v := .int .u8 ((b13.toNat : Nat) : Int)) 206 rfl rfl rfl rfl (fun ids H' fr => opD_index rfl (evV_eq _ _ _ _ _ rfl) (evV_eq _ _ _ _ _ rfl) (sidx us9 e13)) rfl ?_
    refine WJ.ci 200 hp rfl rfl rfl rfl rfl rfl rfl rfl rfl (fun hc14 hp => ?_) (fun hc14 hp => ?_)
    · obtain ⟨b21, e21, hp⟩ := bindS hp
      refine WJ.hd (v := .int .u8 ((b21.toNat : Nat) : Int)) 211 rfl rfl rfl rfl (fun ids H' fr => opD_index rfl (evV_eq _ _ _ _ _ rfl) (evV_eq _ _ _ _ _ rfl) (sidx us9 e21)) rfl ?_
      obtain rfl := endS (show some _ = some r from hp)
      exact WJ.rt 203 rfl rfl rfl (fun ids H' fr => ⟨fr.ext0, rfl⟩)
    · obtain ⟨b17, e17, hp⟩ := bindS hp
      refine WJ.hd (v := .int .u8 ((b17.toNat : Nat) : Int)) 202 rfl rfl rfl rfl (fun ids H' fr => opD_index rfl (evV_eq _ _ _ _ _ rfl) (evV_eq _ _ _ _ _ rfl) (sidx us9 e17)) rfl ?_
      refine WJ.ci 200 hp rfl rfl rfl rfl rfl rfl rfl rfl rfl (fun hc18 hp => ?_) (fun hc18 hp => ?_)
      · obtain ⟨b21, e21, hp⟩ := bindS hp
        refine WJ.hd (v := .int .u8 ((b21.toNat : Nat) : Int)) 207 rfl rfl rfl rfl (fun ids H' fr => opD_index rfl (evV_eq _ _ _ _ _ rfl) (evV_eq _ _ _ _ _ rfl) (sidx us9 e21)) rfl ?_
        obtain rfl := endS (show some _ = some r from hp)
        exact WJ.rt 203 rfl rfl rfl (fun ids H' fr => ⟨fr.ext0, rfl⟩)
      · obtain ⟨b24, e24, hp⟩ := bindS hp
        refine WJ.hd (v := .int .u8 ((b24.toNat : Nat) : Int)) 207 rfl rfl rfl rfl (fun ids H' fr => opD_index rfl (evV_eq _ _ _ _ _ rfl) (evV_eq _ _ _ _ _ rfl) (sidx us9 e24)) rfl ?_
        refine WJ.cn 200 hp rfl rfl rfl rfl rfl rfl rfl rfl rfl (fun hc25 hp => ?_) (fun hc25 hp => ?_)
        · obtain rfl := endS (show some _ = some r from hp)
          exact WJ.rt 213 rfl rfl rfl (fun ids H' fr => ⟨fr.ext0, rfl⟩)
        · refine WJ.ci 203 hp rfl rfl rfl rfl rfl rfl rfl rfl rfl (fun hc29 hp => ?_) (fun hc29 hp => ?_)
          · obtain rfl := endS (show some _ = some r from hp)
            exact WJ.rt 209 rfl rfl rfl (fun ids H' fr => ⟨fr.ext0, rfl⟩)
          · obtain ⟨b33, e33, hp⟩ := bindS hp
            refine WJ.hd (v := .int .u8 ((b33.toNat : Nat) : Int)) 209 rfl rfl rfl rfl (fun ids H' fr => opD_index rfl (evV_eq _ _ _ _ _ rfl) (evV_eq _ _ _ _ _ rfl) (sidx us9 e33)) rfl ?_
            obtain ⟨⟨t34_0, t34_1⟩, e34, hp⟩ := bindS hp
            refine WJ.cl 200 (R := R_5_4 ⟨t34_0, t34_1⟩) (fun hm h k => R_5_4.mono hm h k) rfl (fun ids H' fr => f38_ok e34) ?_
            rintro v B1 ⟨abB1, ivB1⟩ rfl
            refine ⟨_, rfl, ?_⟩
            obtain ⟨b39, e39, hp⟩ := bindS hp
            refine WJ.hd (v := .int .u8 ((b39.toNat : Nat) : Int)) 209 rfl rfl rfl rfl (fun ids H' fr => opD_index rfl (evV_eq _ _ _ _ _ rfl) (evV_eq _ _ _ _ _ rfl) (sidx us9 e39)) rfl ?_
            obtain ⟨⟨t40_0, t40_1⟩, e40, hp⟩ := bindS hp
            refine WJ.cl 200 (R := R_5_4 ⟨t40_0, t40_1⟩) (fun hm h k => R_5_4.mono hm h k) rfl (fun ids H' fr => f38_ok e40) ?_
            rintro v B2 ⟨abB2, ivB2⟩ rfl
            refine ⟨_, rfl, ?_⟩
            cases t34_1
            · replace hp := (itS hp).2 Bool.false_ne_true
              obtain rfl := endS (show some _ = some r from hp)
              exact WJ.rt 222 rfl rfl rfl (fun ids H' fr => ⟨fr.ext0, rfl⟩)
            · replace hp := (itS hp).1 rfl
              cases t40_1
              · replace hp := (itS hp).2 Bool.false_ne_true
                obtain rfl := endS (show some _ = some r from hp)
                exact WJ.rt 222 rfl rfl rfl (fun ids H' fr => ⟨fr.ext0, rfl⟩)
              · replace hp := (itS hp).1 rfl
                refine WJ.hd (v := .int .u8 (gshl .u8 t34_0 4)) 221 rfl rfl rfl rfl (fun ids H' fr => opD_bin rfl (evV_eq _ _ _ _ _ rfl) (evV_eq _ _ _ _ _ rfl) (bin_shl (by decide))) rfl ?_
                obtain rfl := endS (show some _ = some r from hp)
                exact WJ.rt 205 rfl rfl rfl (fun ids H' fr => ⟨fr.ext0, rfl⟩)
/-! 16 tipstaff/row.unquote -/
def f16_l1 (x0 : List UInt8) : Nat → (List UInt8) → Int → Option (((List UInt8) × Int) ⊕ ((List UInt8)))
  | 0, _, _ => none
  | n + 1, l1_h10, x5_h10 =>
    if x5_h10 < (x0.length : Int) then
      (sub x0 x5_h10 (x0.length : Int)).bind fun s24u1 =>
      (f19 s24u1).bind fun (t25u1_0, t25u1_1) =>
      if t25u1_0 = 34 then
        (apd 1 l1_h10 ([] : List UInt8)).bind fun lB31u1 =>
        some (Sum.inl ((l1_h10, IntKind.i64.wrap (x5_h10 + 1)) : (List UInt8) × Int))
      else
        if t25u1_0 = 92 then
          (sub x0 (IntKind.i64.wrap (x5_h10 + 1)) (x0.length : Int)).bind fun s41u1 =>
          (f28 s41u1).bind fun (t42u1_0, t42u1_1) =>
          if t42u1_1 = 0 then
            some (Sum.inr l1_h10)
          else
            (c8 t42u1_0).bind fun uB48u1 =>
            (apd 1 l1_h10 ([uB48u1])).bind fun lB48u1 =>
            f16_l1 x0 n lB48u1 (IntKind.i64.wrap (x5_h10 + (IntKind.i64.wrap (1 + t42u1_1))))
        else
          (f21 t25u1_0 t25u1_1).bind fun t56 =>
          if t56 then
            (sub x0 x5_h10 (IntKind.i64.wrap (x5_h10 + t25u1_1))).bind fun s63 =>
            (apd 1 l1_h10 s63).bind fun lB64 =>
            f16_l1 x0 n lB64 (IntKind.i64.wrap (x5_h10 + t25u1_1))
          else
            some (Sum.inr l1_h10)
    else
      some (Sum.inr l1_h10)

def f16 (k : Nat) (x0 : List UInt8) : Option ((List UInt8) × Int) :=
  if x0 = ([] : List UInt8) then
    some (([] : List UInt8), 0)
  else
    (rd x0 0).bind fun b14 =>
    if ((b14.toNat : Nat) : Int) = 34 then
      (f16_l1 x0 k ([]) 1).bind fun s => match s with
        | .inl st => some st
        | .inr l1_10 => 
          some (([] : List UInt8), 0)
    else
      some (([] : List UInt8), 0)
set_option maxHeartbeats 3200000 in
set_option maxRecDepth 20000 in
theorem f16_ok {k : Nat} {H : Hp} {x0 : List UInt8} {r : (List UInt8) × Int} (hp : f16 k x0 = some r) :
    SCall Tryd.prog 16 [.string (bs x0)] H (Ret fun v H' => Ext H H' ∧ R_9_3 r H.next H' v) := by
  unfold f16 at hp
  replace hp := topS hp
  refine SCall.g Tryd.func16 rfl rfl rfl rfl rfl (l := [(0, .v (.string (bs x0)))]) (fun _ => rfl) (fun B abB => ?_)
  refine WJ.nb (U := 5) 208 rfl rfl rfl rfl rfl bzero bis rfl rfl ?_
  intro bw4
  refine ⟨_, rfl, ?_⟩
  refine WJ.ci 205 hp rfl rfl rfl rfl rfl rfl (opD_streq rfl rfl rfl) rfl rfl (fun hc11 hp => ?_) (fun hc11 hp => ?_)
  · obtain rfl := endS (show some _ = some r from hp)
    exact WJ.rt 212 rfl rfl rfl (fun ids H' fr => ⟨fr.ext0, rfl⟩)
  · obtain ⟨b14, e14, hp⟩ := bindS hp
    refine WJ.hd (v := .int .u8 ((b14.toNat : Nat) : Int)) 202 rfl rfl rfl rfl (fun ids H' fr => opD_index rfl (evV_eq _ _ _ _ _ rfl) (evV_eq _ _ _ _ _ rfl) (sidx us9 e14)) rfl ?_
    refine WJ.cn 200 hp rfl rfl rfl rfl rfl rfl rfl rfl rfl (fun hc15 hp => ?_) (fun hc15 hp => ?_)
    · obtain rfl := endS (show some _ = some r from hp)
      exact WJ.rt 208 rfl rfl rfl (fun ids H' fr => ⟨fr.ext0, rfl⟩)
    · refine WJ.adv 12 rfl ?_
      obtain ⟨K10, hK10, hp⟩ : ∃ K, K = _ ∧ Option.bind _ K = some r := ⟨_, rfl, cutS hp⟩
      refine WJ.cut 2 (α := (List UInt8) × (Option Addr) × Nat × Hp) (fun y => []) (fun y => []) (fun y => [bldS 56 bw4 y.2.1 y.1, bldB 5 y.2.1 y.1]) (fun y => y.2.2.2) (fun y => K10 (Sum.inr y.1) = some r) ?_ (fun j10 => ?_)
      · rintro ⟨l1_10, a1_10, c1_10, B5⟩ hp
        subst hK10
        show WJ _ _ _ B5 [bldS 56 bw4 a1_10 l1_10, bldB 5 a1_10 l1_10] _ _ ⟨[], [], true, 0⟩
        obtain rfl := endS (show some _ = some r from hp)
        exact WJ.rt 205 rfl rfl rfl (fun ids H' fr => ⟨fr.ext0, rfl⟩)
      · refine WJ.lp 200 (α := Nat × (List UInt8) × Int × (Option Addr) × Nat × Hp) (fun y => [(0, .v (.string (bs x0))), (4, .v (.pointer (some ⟨bw4, 0, none⟩))), (5, .v (.int .i64 y.2.2.1))]) (fun y => []) (fun y => [bldS 56 bw4 y.2.2.2.1 y.2.1, bldB 5 y.2.2.2.1 y.2.1]) (fun y => y.2.2.2.2.2) (fun y => y.1) (fun y => Option.bind (f16_l1 x0 y.1 y.2.1 y.2.2.1) K10 = some r) (k, ([] : List UInt8), 1, none, 0, B) rfl hp (by exact ⟨rfl, rfl, rfl, trivial⟩) rfl rfl rfl ?_
        rintro ⟨n, l1_h10, x5_h10, a1_h10, c1_h10, B1⟩ hp ih10
        show WJ _ _ _ B1 [bldS 56 bw4 a1_h10 l1_h10, bldB 5 a1_h10 l1_h10] _ _ ⟨[(0, .v (.string (bs x0))), (4, .v (.pointer (some ⟨bw4, 0, none⟩))), (5, .v (.int .i64 x5_h10))], [], true, 0⟩
        replace hp : Option.bind (f16_l1 x0 n l1_h10 x5_h10) K10 = some r := hp
        cases n with
        | zero => rw [f16_l1] at hp; exact (noS hp).elim
        | succ n =>
          rw [f16_l1] at hp
          refine WJ.ci 206 hp rfl rfl rfl rfl rfl rfl rfl rfl rfl (fun hc20u1 hp => ?_) (fun hc20u1 hp => ?_)
          · obtain ⟨s24u1, e24u1, hp⟩ := bindS hp
            refine WJ.hd (v := .string (bs s24u1)) 208 rfl rfl rfl rfl (fun ids H' fr => opD_sl rfl (evV_eq _ _ _ _ _ rfl) (evV_eq _ _ _ _ _ rfl) (sliceD_l us9 e24u1)) rfl ?_
            obtain ⟨⟨t25u1_0, t25u1_1⟩, e25u1, hp⟩ := bindS hp
            refine WJ.cl 200 (R := R_21_3 ⟨t25u1_0, t25u1_1⟩) (fun hm h k => R_21_3.mono hm h k) rfl (fun ids H' fr => f19_ok e25u1) ?_
            rintro v B2 ⟨abB2, ivB2⟩ rfl
            refine ⟨_, rfl, ?_⟩
            refine WJ.ci 211 hp rfl rfl rfl rfl rfl rfl rfl rfl rfl (fun hc30u1 hp => ?_) (fun hc30u1 hp => ?_)
            · obtain ⟨lB31u1, eB31u1, hp⟩ := bindS hp
              obtain ⟨bdB31u1, rfl⟩ := apd_some eB31u1
              refine WJ.bg 205 0 rfl st_ok (fun _ => rfl) rfl rfl rfl (by simpa using bdB31u1) ?_
              refine ⟨_, rfl, ?_⟩
              subst hK10
              obtain rfl := endS (show some _ = some r from hp)
              exact WJ.rt 205 rfl rfl rfl (fun ids H' fr => ⟨fr.ext0, rfl⟩)
            · refine WJ.ci 206 hp rfl rfl rfl rfl rfl rfl rfl rfl rfl (fun hc36u1 hp => ?_) (fun hc36u1 hp => ?_)
              · obtain ⟨s41u1, e41u1, hp⟩ := bindS hp
                refine WJ.hd (v := .string (bs s41u1)) 208 rfl rfl rfl rfl (fun ids H' fr => opD_sl rfl (evV_eq _ _ _ _ _ rfl) (evV_eq _ _ _ _ _ rfl) (sliceD_l us9 e41u1)) rfl ?_
                obtain ⟨⟨t42u1_0, t42u1_1⟩, e42u1, hp⟩ := bindS hp
                refine WJ.cl 200 (R := R_5_3 ⟨t42u1_0, t42u1_1⟩) (fun hm h k => R_5_3.mono hm h k) rfl (fun ids H' fr => f28_ok e42u1) ?_
                rintro v B3 ⟨abB3, ivB3⟩ rfl
                refine ⟨_, rfl, ?_⟩
                refine WJ.ci 210 hp rfl rfl rfl rfl rfl rfl rfl rfl rfl (fun hc46u1 hp => ?_) (fun hc46u1 hp => ?_)
                · exact WJ.goto 3 (j10 (l1_h10, a1_h10, 0, B3) hp) rfl rfl (by exact trivial) rfl rfl rfl
                · obtain ⟨uB48u1, euB48u1, hp⟩ := bindS hp
                  obtain ⟨lB48u1, eB48u1, hp⟩ := bindS hp
                  obtain ⟨bdB48u1, rfl⟩ := apd_some eB48u1
                  refine WJ.bw 206 (s := [uB48u1]) 0 rfl (wb_ok euB48u1) (fun _ => rfl) rfl rfl rfl bdB48u1 ?_
                  intro aB48u1
                  refine ⟨_, rfl, ?_⟩
                  exact WJ.ag 210 rfl (by exact ⟨rfl, rfl, rfl, trivial⟩) rfl rfl rfl (ih10 (n, (l1_h10 ++ ([uB48u1])), IntKind.i64.wrap (x5_h10 + (IntKind.i64.wrap (1 + t42u1_1))), aB48u1, 0, B3) hp (Nat.lt_succ_self _))
              · obtain ⟨t56, e56, hp⟩ := bindS hp
                refine WJ.cl 207 (R := R_4 t56) (fun hm h k => R_4.mono hm h k) rfl (fun ids H' fr => f21_ok e56) ?_
                rintro v B4 ⟨abB4, ivB4⟩ rfl
                refine ⟨_, rfl, ?_⟩
                cases t56
                · replace hp := (itS hp).2 Bool.false_ne_true
                  exact WJ.goto 5 (j10 (l1_h10, a1_h10, 0, B4) hp) rfl rfl (by exact trivial) rfl rfl rfl
                · replace hp := (itS hp).1 rfl
                  obtain ⟨s63, e63, hp⟩ := bindS hp
                  refine WJ.hd (v := .string (bs s63)) 213 rfl rfl rfl rfl (fun ids H' fr => opD_slh rfl (evV_eq _ _ _ _ _ rfl) (evV_eq _ _ _ _ _ rfl) (evV_eq _ _ _ _ _ rfl) (sliceD_lh us9 e63)) rfl ?_
                  obtain ⟨lB64, eB64, hp⟩ := bindS hp
                  obtain ⟨bdB64, rfl⟩ := apd_some eB64
                  refine WJ.bw 200 (s := s63) 0 rfl (ws_ok s63) (fun _ => rfl) rfl rfl rfl bdB64 ?_
                  intro aB64
                  refine ⟨_, rfl, ?_⟩
                  exact WJ.ag 208 rfl (by exact ⟨rfl, rfl, rfl, trivial⟩) rfl rfl rfl (ih10 (n, (l1_h10 ++ s63), IntKind.i64.wrap (x5_h10 + t25u1_1), aB64, 0, B4) hp (Nat.lt_succ_self _))
          · exact WJ.goto 3 (j10 (l1_h10, a1_h10, 0, B1) hp) rfl rfl (by exact trivial) rfl rfl rfl
/-! 12 tipstaff/row.Unquote -/
def f12 (k : Nat) (x0 : List UInt8) : Option ((List UInt8) × Int) :=
  (f16 k x0).bind fun (t8_0, t8_1) =>
  if t8_1 = 0 then
    some (([] : List UInt8), 3)
  else
    if t8_1 = (x0.length : Int) then
      some (t8_0, 0)
    else
      some (([] : List UInt8), 3)
set_option maxRecDepth 20000 in
theorem f12_ok {k : Nat} {H : Hp} {x0 : List UInt8} {r : (List UInt8) × Int} (hp : f12 k x0 = some r) :
    SCall Tryd.prog 12 [.string (bs x0)] H (Ret fun v H' => Ext H H' ∧ R_9_26 r H.next H' v) := by
  unfold f12 at hp
  replace hp := topS hp
  refine SCall.g Tryd.func12 rfl rfl rfl rfl rfl (l := [(0, .v (.string (bs x0)))]) (fun _ => rfl) (fun B abB => ?_)
  obtain ⟨⟨t8_0, t8_1⟩, e8, hp⟩ := bindS hp
  refine WJ.cl 208 (R := R_9_3 ⟨t8_0, t8_1⟩) (fun hm h k => R_9_3.mono hm h k) rfl (fun ids H' fr => f16_ok e8) ?_
  rintro v B1 ⟨abB1, ivB1⟩ rfl
  refine ⟨_, rfl, ?_⟩
  refine WJ.ci 210 hp rfl rfl rfl rfl rfl rfl rfl rfl rfl (fun hc12 hp => ?_) (fun hc12 hp => ?_)
  · obtain rfl := endS (show some _ = some r from hp)
    exact WJ.rt 213 rfl rfl rfl (fun ids H' fr => ⟨fr.ext0, rfl⟩)
  · refine WJ.cn 204 hp rfl rfl rfl rfl rfl rfl rfl rfl rfl (fun hc17 hp => ?_) (fun hc17 hp => ?_)
    · obtain rfl := endS (show some _ = some r from hp)
      exact WJ.rt 208 rfl rfl rfl (fun ids H' fr => ⟨fr.ext0, rfl⟩)
    · obtain rfl := endS (show some _ = some r from hp)
      exact WJ.rt 210 rfl rfl rfl (fun ids H' fr => ⟨fr.ext0, rfl⟩)
/-! 5 tipstaff/tipstafflaw03.RowBack -/
def f5_l1 (t19 : List UInt8) : Nat → Int → Option ((Bool) ⊕ (Unit))
  | 0, _ => none
  | n + 1, x8 =>
    if x8 < (t19.length : Int) then
      (rd t19 x8).bind fun b33 =>
      if ((b33.toNat : Nat) : Int) < 32 then
        some (Sum.inl (false : Bool))
      else
        (rd t19 x8).bind fun b38 =>
        if ((b38.toNat : Nat) : Int) = 127 then
          some (Sum.inl (false : Bool))
        else
          f5_l1 t19 n (IntKind.i64.wrap (x8 + 1))
    else
      some (Sum.inr ())

def f5 (k : Nat) (x0 : List UInt8) (x1 : List UInt8) : Option Bool :=
  if (x0.length : Int) > 200 then
    (f9).bind fun t17 =>
    some t17
  else
    if (x1.length : Int) > 200 then
      (f9).bind fun t17 =>
      some t17
    else
      (f13 k x0).bind fun t19 =>
      (f12 k t19).bind fun (t22_0, t22_1) =>
      (f5_l1 t19 k 0).bind fun s => match s with
        | .inl st => some st
        | .inr _ => 
          if t22_1 = 0 then
            if t22_0 = x0 then
              (f13 k x1).bind fun t51 =>
              (some (decide (t19 = t51))).bind fun t52 =>
              (some (decide (x0 = x1))).bind fun t55 =>
              (some (t52 == t55)).bind fun t56 =>
              if t56 then
                (f9).bind fun t59 =>
                some t59
              else
                some false
            else
              some false
          else
            some false
set_option maxRecDepth 20000 in
theorem f5_ok {k : Nat} {H : Hp} {x0 : List UInt8} {x1 : List UInt8} {r : Bool} (hp : f5 k x0 x1 = some r) :
    SCall Tryd.prog 5 [.string (bs x0), .string (bs x1)] H (Ret fun v H' => Ext H H' ∧ R_4 r H.next H' v) := by
  unfold f5 at hp
  replace hp := topS hp
  refine SCall.g Tryd.func5 rfl rfl rfl rfl rfl (l := [(0, .v (.string (bs x0))), (1, .v (.string (bs x1)))]) (fun _ => rfl) (fun B abB => ?_)
  refine WJ.ci 209 hp rfl rfl rfl rfl rfl rfl rfl rfl rfl (fun hc11 hp => ?_) (fun hc11 hp => ?_)
  · obtain ⟨t17, e17, hp⟩ := bindS hp
    refine WJ.cl 209 (R := R_4 t17) (fun hm h k => R_4.mono hm h k) rfl (fun ids H' fr => f9_ok e17) ?_
    rintro v B1 ⟨abB1, ivB1⟩ rfl
    refine ⟨_, rfl, ?_⟩
    obtain rfl := endS (show some _ = some r from hp)
    exact WJ.rt 202 rfl rfl rfl (fun ids H' fr => ⟨fr.ext0, rfl⟩)
  · refine WJ.ci 203 hp rfl rfl rfl rfl rfl rfl rfl rfl rfl (fun hc15 hp => ?_) (fun hc15 hp => ?_)
    · obtain ⟨t17, e17, hp⟩ := bindS hp
      refine WJ.cl 205 (R := R_4 t17) (fun hm h k => R_4.mono hm h k) rfl (fun ids H' fr => f9_ok e17) ?_
      rintro v B2 ⟨abB2, ivB2⟩ rfl
      refine ⟨_, rfl, ?_⟩
      obtain rfl := endS (show some _ = some r from hp)
      exact WJ.rt 202 rfl rfl rfl (fun ids H' fr => ⟨fr.ext0, rfl⟩)
    · obtain ⟨t19, e19, hp⟩ := bindS hp
      refine WJ.cl 207 (R := R_9 t19) (fun hm h k => R_9.mono hm h k) rfl (fun ids H' fr => f13_ok e19) ?_
      rintro v B3 ⟨abB3, ivB3⟩ rfl
      refine ⟨_, rfl, ?_⟩
      obtain ⟨⟨t22_0, t22_1⟩, e22, hp⟩ := bindS hp
      refine WJ.cl 205 (R := R_9_26 ⟨t22_0, t22_1⟩) (fun hm h k => R_9_26.mono hm h k) rfl (fun ids H' fr => f12_ok e22) ?_
      rintro v B4 ⟨abB4, ivB4⟩ rfl
      refine ⟨_, rfl, ?_⟩
      refine WJ.adv 12 rfl ?_
      obtain ⟨K11, hK11, hp⟩ : ∃ K, K = _ ∧ Option.bind _ K = some r := ⟨_, rfl, cutS hp⟩
      refine WJ.cut 2 (α := Unit) (fun y => [(0, .v (.string (bs x0))), (1, .v (.string (bs x1))), (5, .v (.string (bs t19))), (6, .v (.string (bs t22_0))), (7, .v (.int .i64 t22_1))]) (fun y => []) (fun y => []) (fun y => B4) (fun y => K11 (Sum.inr ()) = some r) ?_ (fun j11 => ?_)
      · rintro u hp
        subst hK11
        show WJ _ _ _ B4 [] _ _ ⟨[(0, .v (.string (bs x0))), (1, .v (.string (bs x1))), (5, .v (.string (bs t19))), (6, .v (.string (bs t22_0))), (7, .v (.int .i64 t22_1))], [], true, 0⟩
        refine WJ.ci 203 hp rfl rfl rfl rfl rfl rfl rfl rfl rfl (fun hc42 hp => ?_) (fun hc42 hp => ?_)
        · refine WJ.ci 203 hp rfl rfl rfl rfl rfl rfl (opD_streq rfl rfl rfl) rfl rfl (fun hc46 hp => ?_) (fun hc46 hp => ?_)
          · obtain ⟨t51, e51, hp⟩ := bindS hp
            refine WJ.cl 204 (R := R_9 t51) (fun hm h k => R_9.mono hm h k) rfl (fun ids H' fr => f13_ok e51) ?_
            rintro v B5 ⟨abB5, ivB5⟩ rfl
            refine ⟨_, rfl, ?_⟩
            obtain ⟨t52, e52, hp⟩ := bindS hp
            refine WJ.cv 200 (b := t52) (H0 := ⟨.nil, 0, 0⟩) rfl rfl rfl rfl rfl rfl (by rw [← endS e52]; exact (opD_streq rfl rfl rfl)) rfl ?_
            obtain ⟨t55, e55, hp⟩ := bindS hp
            refine WJ.cv 202 (b := t55) (H0 := ⟨.nil, 0, 0⟩) rfl rfl rfl rfl rfl rfl (by rw [← endS e55]; exact (opD_streq rfl rfl rfl)) rfl ?_
            obtain ⟨t56, e56, hp⟩ := bindS hp
            refine WJ.cv 200 (b := t56) (H0 := ⟨.nil, 0, 0⟩) rfl rfl rfl rfl rfl rfl (by rw [← endS e56]; exact rfl) rfl ?_
            cases t56
            · replace hp := (itS hp).2 Bool.false_ne_true
              obtain rfl := endS (show some _ = some r from hp)
              exact WJ.rt 206 rfl rfl rfl (fun ids H' fr => ⟨fr.ext0, rfl⟩)
            · replace hp := (itS hp).1 rfl
              obtain ⟨t59, e59, hp⟩ := bindS hp
              refine WJ.cl 202 (R := R_4 t59) (fun hm h k => R_4.mono hm h k) rfl (fun ids H' fr => f9_ok e59) ?_
              rintro v B6 ⟨abB6, ivB6⟩ rfl
              refine ⟨_, rfl, ?_⟩
              obtain rfl := endS (show some _ = some r from hp)
              exact WJ.rt 203 rfl rfl rfl (fun ids H' fr => ⟨fr.ext0, rfl⟩)
          · obtain rfl := endS (show some _ = some r from hp)
            exact WJ.rt 216 rfl rfl rfl (fun ids H' fr => ⟨fr.ext0, rfl⟩)
        · obtain rfl := endS (show some _ = some r from hp)
          exact WJ.rt 220 rfl rfl rfl (fun ids H' fr => ⟨fr.ext0, rfl⟩)
      · refine WJ.lp 200 (α := Nat × Int) (fun y => [(0, .v (.string (bs x0))), (1, .v (.string (bs x1))), (5, .v (.string (bs t19))), (6, .v (.string (bs t22_0))), (7, .v (.int .i64 t22_1)), (8, .v (.int .i64 y.2))]) (fun y => []) (fun y => []) (fun y => B4) (fun y => y.1) (fun y => Option.bind (f5_l1 t19 y.1 y.2) K11 = some r) (k, 0) rfl hp (by exact ⟨rfl, rfl, rfl, rfl, rfl, rfl, trivial⟩) rfl rfl rfl ?_
        rintro ⟨n, x8⟩ hp ih11
        show WJ _ _ _ B4 [] _ _ ⟨[(0, .v (.string (bs x0))), (1, .v (.string (bs x1))), (5, .v (.string (bs t19))), (6, .v (.string (bs t22_0))), (7, .v (.int .i64 t22_1)), (8, .v (.int .i64 x8))], [], true, 0⟩
        replace hp : Option.bind (f5_l1 t19 n x8) K11 = some r := hp
        cases n with
        | zero => rw [f5_l1] at hp; exact (noS hp).elim
        | succ n =>
          rw [f5_l1] at hp
          refine WJ.ci 206 hp rfl rfl rfl rfl rfl rfl rfl rfl rfl (fun hc28 hp => ?_) (fun hc28 hp => ?_)
          · obtain ⟨b33, e33, hp⟩ := bindS hp
            refine WJ.hd (v := .int .u8 ((b33.toNat : Nat) : Int)) 209 rfl rfl rfl rfl (fun ids H' fr => opD_index rfl (evV_eq _ _ _ _ _ rfl) (evV_eq _ _ _ _ _ rfl) (sidx us9 e33)) rfl ?_
            refine WJ.ci 200 hp rfl rfl rfl rfl rfl rfl rfl rfl rfl (fun hc34 hp => ?_) (fun hc34 hp => ?_)
            · subst hK11
              obtain rfl := endS (show some _ = some r from hp)
              exact WJ.rt 212 rfl rfl rfl (fun ids H' fr => ⟨fr.ext0, rfl⟩)
            · obtain ⟨b38, e38, hp⟩ := bindS hp
              refine WJ.hd (v := .int .u8 ((b38.toNat : Nat) : Int)) 203 rfl rfl rfl rfl (fun ids H' fr => opD_index rfl (evV_eq _ _ _ _ _ rfl) (evV_eq _ _ _ _ _ rfl) (sidx us9 e38)) rfl ?_
              refine WJ.ci 200 hp rfl rfl rfl rfl rfl rfl rfl rfl rfl (fun hc39 hp => ?_) (fun hc39 hp => ?_)
              · subst hK11
                obtain rfl := endS (show some _ = some r from hp)
                exact WJ.rt 207 rfl rfl rfl (fun ids H' fr => ⟨fr.ext0, rfl⟩)
              · exact WJ.ag 210 rfl (by exact ⟨rfl, rfl, rfl, rfl, rfl, rfl, trivial⟩) rfl rfl rfl (ih11 (n, IntKind.i64.wrap (x8 + 1)) hp (Nat.lt_succ_self _))
          · exact WJ.goto 3 (j11 () hp) rfl rfl (by exact ⟨rfl, rfl, rfl, rfl, rfl, trivial⟩) rfl rfl rfl
end
end Go.Proofs.YtgmejigjajcbfaaDoor

set_option linter.unusedVariables false
namespace Go.Proofs.YtgmejigjajcbfaaDoor
open Go Go.Det Go.RowKit
theorem ul9 : Tryd.prog.underlying 9 = some .string := by kernel_rfl
def ok9 (x : List UInt8) : Prop := x.length ≤ reachBytes
theorem rd9 {H : Hp} {cs : List Value} (h : Rd Tryd.prog H 9 cs) : ∃ x : List UInt8, Cod.rep strC 0 H cs x ∧ ok9 x := by
  obtain ⟨x, rfl, hx⟩ := h.str_inv ul9
  exact ⟨x, rfl, hx⟩
def Pure5 : Prop := ∀ (x0 : List UInt8) (x1 : List UInt8), ok9 x0 → ok9 x1 → ∃ k : Nat, f5 k x0 x1 = some true
theorem law5 (hp : Pure5) (H : Hp) (args : List Value) (_ : Tryd.prog.globals.size ≤ H.next) (h : RdArgs Tryd.prog H Tryd.f5.params.toList args) : SCall Tryd.prog 5 args H (fun e _ => e = .ret (.bool true)) := by
  replace h : RdArgs Tryd.prog H [9, 9] args := h
  obtain ⟨v0, args0, ea0, h0, h⟩ := h.scal (by kernel_rfl)
  obtain ⟨x0, e0, k0⟩ := rd9 h0
  obtain rfl := (List.cons.inj e0).1
  obtain ⟨v1, args1, ea1, h1, h⟩ := h.scal (by kernel_rfl)
  obtain ⟨x1, e1, k1⟩ := rd9 h1
  obtain rfl := (List.cons.inj e1).1
  obtain rfl := h.nil_inv
  subst ea1
  subst ea0
  obtain ⟨k, hk⟩ := hp x0 x1 k0 k1
  exact (f5_ok hk).mono fun e H' ⟨v, h1, _, h2⟩ => by rw [h1, h2]
end Go.Proofs.YtgmejigjajcbfaaDoor
