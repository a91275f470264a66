import Derived.Test.YtmkcobpgmcfbkaaGreatDoorD42
set_option linter.unusedSimpArgs false
set_option linter.unusedVariables false
namespace Go.Det
open Go Go.RowKit
section pure
variable {α β ρ : Type} {r : ρ}
end pure
section rules
variable {P : Program} {Q : Ex → SS → Prop} {n : NN} {B0 B : Hp} {own : List OwnE} {k k' : KK} {x x' x'' : VS} (N : Nat)
theorem WJ.sym {o : VOut} (hs : vSym P n N k x = o) (h : o.okW P n B0 B own Q) : WJ P n B0 B own k Q x := wSym_ok N (by rw [hs]; exact h)
theorem SCall.g {f : FuncId} {fn : Func} {c : Code} {args : List Value} {H : Hp} {Q : En → Hp → Prop} (hf : P.funcs[f]? = some fn) (hb : fn.body = some c) {m : Nat} (hn : fn.ntmps = m) {g : Nat} (hg : args.length = g) (hl : Nat.ble g m = true)
    {res : List ResultVar} (hr : fn.results.toList = res) {l : VEnv} (he : ∀ ids, denE ids l = envOf args) (h : ∀ B, Abv 0 H B → WJ P ⟨m, true⟩ H B [] [.code c] (bodyS P res Q) ⟨l, [], true, 0⟩) : SCall P f args H Q :=
  SCall.body hf hb hn (by rw [hg]; exact Nat.le_of_ble_eq_true hl) hr (by
    have := h H.trimmed (Abv.trimmed H) (fun _ => 0) H (WF.start H _)
    simp only [VS.ss, he] at this
    exact this)
theorem wressV_ok {ids : Nat → Nat} {H : Hp} (fr : WF B0 B own x.loc ids H) {l : List ResultVar} {vs : List Value} (h : ressV P x l = some vs) : ressS P (x.ss ids n H) l = some vs := ressV_ok (fr.fr0 x.cl x.kB) h
theorem WJ.rt {R : Value → Hp → Prop} {res : List ResultVar} {vs : List Value} {v : Value} (hs : vSym P n N k x = .fin .ret x') (hr : ressV P x' res = some vs) (hv : oneD vs = v) (h : ∀ ids H, WF B0 B own x'.loc ids H → R v H) : WJ P n B0 B own k (bodyS P res (Ret R)) x :=
  WJ.sym N hs (fun ids H fr => ⟨rfl, vs, wressV_ok fr hr, v, by rw [hv], h ids H fr⟩)
theorem WJ.cv {a : Array Oper} {m i : Nat} {o : Oper} {b : Bool} {H0 : Hp} (hs : vSym P n N k x = .cmp a m i k' x') (ho : a[i]? = some o) (hg : gdV a x'.l o = some true) (hd : notDefer o.op = true) (hp : o.op.operands.toList.all (isPlain P x'.l) = true) (hc : cls P o.op = some .pure)
    (he : opD P ⟨.nil, 0, 0⟩ (evPlain P x'.l) o = some (.val (.bool b) H0)) (hp1 : putV x' n o.dst (.v (.bool b)) = some x'')
    (h : WJ P n B0 B own (.ops a m (i + 1) :: k') Q x'') : WJ P n B0 B own k Q x := by
  refine WJ.sym N hs fun ids H fr => ?_
  have hgen : genV P x' o = .val (.v (.bool b)) := by unfold genV; simp only [hp, hc, he]
  have e1 := genV_ok (ids := ids) (n := n) (H := H) hgen
  obtain ⟨p1, p2, p3, p4⟩ := putV_eq ids H H hp1
  refine JK.ops (s' := x''.ss ids n H) ?_ (h ids H (by rw [p2]; exact fr))
  unfold doOp
  simp only [ho, gdV_eq ids n H hg, hd]
  rw [show (x'.ss ids n H).H = H from rfl, e1]
  simp only; rw [p1]
theorem WJ.hd {a : Array Oper} {m i : Nat} {o : Oper} {v : Value} (hs : vSym P n N k x = .hard a m i k' x') (ho : a[i]? = some o) (hg : gdV a x'.l o = some true) (hd : notDefer o.op = true)
    (he : ∀ ids H, WF B0 B own x'.loc ids H → opD P H (evS P (x'.ss ids n H)) o = some (.val v H)) (hp : putV x' n o.dst (.v v) = some x'') (h : WJ P n B0 B own (.ops a m (i + 1) :: k') Q x'') : WJ P n B0 B own k Q x := by
  refine WJ.sym N hs fun ids H fr => ?_
  obtain ⟨p1, p2, p3, p4⟩ := putV_eq ids H H hp
  refine JK.ops (s' := x''.ss ids n H) ?_ (h ids H (by rw [p2]; exact fr))
  unfold doOp
  simp only [ho, gdV_eq ids n H hg, hd]
  rw [show (x'.ss ids n H).H = H from rfl, he ids H fr]
  simp only; rw [show v = den ids (.v v) from rfl, p1]
theorem WJ.cl {f : FuncId} {args : List SV} {d : Option Tmp} {R : Nat → Hp → Value → Prop} {l : VEnv} {loc : List (List Value)} {cl : Bool} {kB : Nat} (hR : ∀ {m n : Nat} {H B : Hp} {v : Value}, m ≤ n → Abv n H B → R n H v → R m B v) (hs : vSym P n N k x = .call f args d k' ⟨l, loc, cl, kB⟩)
    (hc : ∀ ids H, WF B0 B own loc ids H → SCall P f (args.map (den ids)) H (Ret fun v H' => Ext H H' ∧ R H.next H' v))
    (hk : ∀ v B', Abv 0 B B' ∧ Itv B B' → R B0.next B' v → ∃ x'', putV ⟨l, loc, true, 0⟩ n d (.v v) = some x'' ∧ WJ P n B0 B' own k' Q x'') : WJ P n B0 B own k Q x := by
  refine WJ.sym N hs fun ids H fr => ?_
  refine (hc ids H fr).mono fun e H' ⟨v, h1, h2, h3⟩ => ?_
  subst h1
  obtain ⟨B', g1, g2, g3, g4⟩ := fr.call h2
  obtain ⟨y, hp, h⟩ := hk v B' ⟨g2, g4.2⟩ (hR fr.ext0.next g3 h3)
  obtain ⟨p1, p2, p3, p4⟩ := putV_eq ids H H' hp
  refine ⟨y.ss ids n H', ?_, h ids H' (by rw [p2]; exact g1)⟩
  rw [← p1]; cases d <;> rfl
theorem WJ.lp {α : Type} {c : Code} (I : α → VEnv) (L : α → List (List Value)) (O : α → List OwnE) (M : α → Hp) (μ : α → Nat) (ok : α → Prop) (x0 : α) {l : VEnv} {loc : List (List Value)} {cl : Bool} {kB : Nat} (hs : vSym P n N k x = .loop c k' ⟨l, loc, cl, kB⟩) (hx : ok x0) (hl : lessV (I x0) l) (hL : loc = L x0) (hO : own = O x0) (hB : B = M x0)
    (h : ∀ y, ok y → (∀ z, ok z → μ z < μ y → WJ P n B0 (M z) (O z) (.inLoop c :: k') Q ⟨I z, L z, true, 0⟩) → WJ P n B0 (M y) (O y) (.code c :: .inLoop c :: k') Q ⟨I y, L y, true, 0⟩) : WJ P n B0 B own k Q x := by
  subst hL hB hO
  have key : ∀ m z, ok z → μ z = m → WJ P n B0 (M z) (O z) (.inLoop c :: k') Q ⟨I z, L z, true, 0⟩ := by
    intro m
    induction m using Nat.strongRecOn with
    | _ m ih => intro z hz hm ids H fr; exact JK.round (h z hz (fun y hy hlt => ih _ (by omega) y hy rfl) ids H fr)
  refine WJ.sym N hs fun ids H fr => ?_
  have := h x0 hx (fun y hy _ => key _ y hy rfl) ids H fr
  exact JK.less (denE ids (I x0)) (lessV_ok ids hl) (.inl ⟨_, rfl⟩) (JK.loop this)
theorem WF.firsts {loc L : List (List Value)} {own O : List OwnE} {ids : Nat → Nat} {H : Hp} (fr : WF B0 B own loc ids H) (hL : loc.take L.length = L) (hO : own.take O.length = O) : WF B0 B O L ids H := by
  refine fr.less id ?_ ?_ ?_ (fun i j _ _ h => h)
  · have := congrArg List.length hL; rw [List.length_take] at this; omega
  · intro k hk
    have : (loc.take L.length)[k]? = L[k]? := by rw [hL]
    rw [← this, List.getElem?_take_of_lt hk]
  · intro j e h
    have hj := lt_of_get h
    have : (own.take O.length)[j]? = O[j]? := by rw [hO]
    rw [← this, List.getElem?_take_of_lt hj] at h
    exact h
theorem WJ.cut {α : Type} (j : Nat) (I : α → VEnv) (L : α → List (List Value)) (O : α → List OwnE) (M : α → Hp) (ok : α → Prop)
    (post : ∀ y, ok y → WJ P n B0 (M y) (O y) (k.drop j) Q ⟨I y, L y, true, 0⟩)
    (h : (∀ y, ok y → WJ P n B0 (M y) (O y) (k.drop j) Q ⟨I y, L y, true, 0⟩) → WJ P n B0 B own k Q x) : WJ P n B0 B own k Q x := h post
theorem WJ.goto {c : Code} {kk : KK} {I : VEnv} {L : List (List Value)} {O : List OwnE} {M : Hp} {l : VEnv} {loc : List (List Value)} {cl : Bool} {kB : Nat} (h : WJ P n B0 M O kk Q ⟨I, L, true, 0⟩) (hs : vSym P n N k x = .go (.code c :: k') ⟨l, loc, cl, kB⟩) (hk : kk = .code c :: k') (hl : lessV I l) (hL : loc.take L.length = L) (hO : own.take O.length = O) (hB : B = M) : WJ P n B0 B own k Q x := by
  subst hB hk
  refine WJ.sym N hs fun ids H fr => ?_
  exact JK.less (denE ids I) (lessV_ok ids hl) (.inl ⟨_, rfl⟩) (h ids H (fr.firsts hL hO))
theorem WJ.so {a : Array Oper} {m i : Nat} {o : Oper} {j : Nat} {l : VEnv} {loc : List (List Value)} {cl : Bool} {kB : Nat} {R : Value → OwnE → Prop} (hs : vSym P n N k x = .hard a m i k' ⟨l, loc, cl, kB⟩) (ho : a[i]? = some o) (hg : gdV a l o = some true) (hd : notDefer o.op = true)
    (he : ∀ ids H, WF B0 B own loc ids H → ∃ v e' H', opD P H (evS P (VS.ss ⟨l, loc, cl, kB⟩ ids n H)) o = some (.val v H') ∧ WF B0 B (own.set j e') loc ids H' ∧ R v e')
    (hk : ∀ v e', R v e' → ∃ x'', putV ⟨l, loc, true, 0⟩ n o.dst (.v v) = some x'' ∧ WJ P n B0 B (own.set j e') (.ops a m (i + 1) :: k') Q x'') : WJ P n B0 B own k Q x := by
  refine WJ.sym N hs fun ids H fr => ?_
  obtain ⟨v, e', H', h1, h2, h3⟩ := he ids H fr
  obtain ⟨y, hp, h⟩ := hk v e' h3
  obtain ⟨p1, p2, p3, p4⟩ := putV_eq ids H H' hp
  refine JK.ops (s' := y.ss ids n H') ?_ (h ids H' (by rw [p2]; exact h2))
  unfold doOp
  have hg' := gdV_eq (x := ⟨l, loc, cl, kB⟩) ids n H hg
  simp only [ho, hg', hd]
  rw [show (VS.ss ⟨l, loc, cl, kB⟩ ids n H).H = H from rfl, h1]
  simp only
  have p1' : putS (VS.ss ⟨l, loc, cl, kB⟩ ids n H) o.dst v H' = some (y.ss ids n H') := by rw [← p1]; cases o.dst <;> rfl
  rw [p1']
theorem WJ.sn {a : Array Oper} {m i : Nat} {o : Oper} {l : VEnv} {loc : List (List Value)} {cl : Bool} {kB : Nat} {R : Value → OwnE → Prop} (hs : vSym P n N k x = .hard a m i k' ⟨l, loc, cl, kB⟩) (ho : a[i]? = some o) (hg : gdV a l o = some true) (hd : notDefer o.op = true)
    (he : ∀ ids H, WF B0 B own loc ids H → ∃ v e' H', opD P H (evS P (VS.ss ⟨l, loc, cl, kB⟩ ids n H)) o = some (.val v H') ∧ WF B0 B (own ++ [e']) loc ids H' ∧ R v e')
    (hk : ∀ v e', R v e' → ∃ x'', putV ⟨l, loc, true, 0⟩ n o.dst (.v v) = some x'' ∧ WJ P n B0 B (own ++ [e']) (.ops a m (i + 1) :: k') Q x'') : WJ P n B0 B own k Q x := by
  refine WJ.sym N hs fun ids H fr => ?_
  obtain ⟨v, e', H', h1, h2, h3⟩ := he ids H fr
  obtain ⟨y, hp, h⟩ := hk v e' h3
  obtain ⟨p1, p2, p3, p4⟩ := putV_eq ids H H' hp
  refine JK.ops (s' := y.ss ids n H') ?_ (h ids H' (by rw [p2]; exact h2))
  unfold doOp
  have hg' := gdV_eq (x := ⟨l, loc, cl, kB⟩) ids n H hg
  simp only [ho, hg', hd]
  rw [show (VS.ss ⟨l, loc, cl, kB⟩ ids n H).H = H from rfl, h1]
  simp only
  have p1' : putS (VS.ss ⟨l, loc, cl, kB⟩ ids n H) o.dst v H' = some (y.ss ids n H') := by rw [← p1]; cases o.dst <;> rfl
  rw [p1']
end rules
end Go.Det
