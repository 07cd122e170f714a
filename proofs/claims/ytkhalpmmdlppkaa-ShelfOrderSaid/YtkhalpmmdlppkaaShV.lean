/-
  ShelfOrder: the law.
-/
import Derived.Test.YtkhalpmmdlppkaaShU
namespace Go.Proofs.Ytkhalpmmdlppkaa
set_option linter.unusedSimpArgs false
set_option linter.unusedVariables false
open Go.Vm

def Over8b (S1 M1 S2 M2 : Vm.Id) (bud : Int) (r : Option (Ex × Env × St)) : Prop := ∃ ρ σ L H f cl cc L2 H2 f2 cl2 cc2, r = some (.exit 2, ρ, σ) ∧ Shf σ S1 M1 bud L H f cl cc ∧ Shf σ S2 M2 bud L2 H2 f2 cl2 cc2 ∧ (∀ q, Fp S1 M1 L cc q → ¬ Fp S2 M2 L2 cc2 q) ∧
  (rowsOf f2 cl2 L2).Perm (rowsOf f cl L) ∧ ρ 7 = .ptr S1 0 ∧ ρ 9 = .ptr S2 0

theorem rounds8b {S1 M1 S2 M2 : Vm.Id} {bud turn : Int} {t : Nat} {ms : List Sc} (hms : ms.length ≤ 60) (htw : 0 < ms.length → t < ms.length ∧ IntKind.i64.wrap ((IntKind.u64.wrap turn).tmod ms.length) = t) : ∀ (m i : Nat), i + m = ms.length → ∀ {ρ : Env} {σ : St} {L H : List Vm.Id} {f : Vm.Id → Ky} {cl : Vm.Id → Bool} {cc a : AV} {L2 H2 : List Vm.Id} {f2 : Vm.Id → Ky} {cl2 : Vm.Id → Bool} {cc2 : AV},
    Inv8b ρ σ S1 M1 S2 M2 bud turn t i ms L H f cl cc a L2 H2 f2 cl2 cc2 → Over8b S1 M1 S2 M2 bud (run (tab hsS) (.loop l8_22) ρ σ)
  | 0, i, him, ρ, σ, L, H, f, cl, cc, a, L2, H2, f2, cl2, cc2, I => by
    have hi : i = ms.length := by omega
    have hlen := I.O.len
    have h2 : ¬ ((i : Int) < (ms.length : Int)) := by omega
    rw [run_loop]
    simp (disch := first | omega | (simp only [rkl]; omega)) only [rk1, rk2, rk3, rk4, rk5, Arg.get, ret1, AV.cells, AV.isCell, addOff, minmaxL, Cap.room, Cap.cut, cutI, isSt, resultOf, Function.comp_apply, Function.comp_def, beq_self_eq_true, if_true, if_false, ite_true, ite_false, reduceCtorEq, bne_self_eq_false, Option.some.injEq, Prod.mk.injEq, ↓reduceIte, Nat.reduceEqDiff, Nat.reduceAdd, Nat.reduceMul, Nat.reduceSub, Nat.reduceLeDiff, Nat.reduceLT, Int.reduceLT, Int.reduceLE, Int.reduceEq, Int.reduceAdd, Int.reduceSub, Int.reduceNeg, Int.reduceToNat, List.mapM_cons, List.mapM_nil, Option.pure_def, Option.bind_eq_bind, eq_self, decide_true, decide_false, l8_22, p8_17, I.r11, I.r14, hlen, h2]
    refine ⟨_, σ, L, H, f, cl, cc, L2, H2, f2, cl2, cc2, rfl, I.A, I.B, I.dj, ?_, by simp (disch := first | omega | (simp only [rkl]; omega)) only [rk1, rk2, rk3, rk4, rk5, Arg.get, ret1, AV.cells, AV.isCell, addOff, minmaxL, Cap.room, Cap.cut, cutI, isSt, resultOf, Function.comp_apply, Function.comp_def, beq_self_eq_true, if_true, if_false, ite_true, ite_false, reduceCtorEq, bne_self_eq_false, Option.some.injEq, Prod.mk.injEq, ↓reduceIte, Nat.reduceEqDiff, Nat.reduceAdd, Nat.reduceMul, Nat.reduceSub, Nat.reduceLeDiff, Nat.reduceLT, Int.reduceLT, Int.reduceLE, Int.reduceEq, Int.reduceAdd, Int.reduceSub, Int.reduceNeg, Int.reduceToNat, List.mapM_cons, List.mapM_nil, Option.pure_def, Option.bind_eq_bind, eq_self, decide_true, decide_false, I.r7], by simp (disch := first | omega | (simp only [rkl]; omega)) only [rk1, rk2, rk3, rk4, rk5, Arg.get, ret1, AV.cells, AV.isCell, addOff, minmaxL, Cap.room, Cap.cut, cutI, isSt, resultOf, Function.comp_apply, Function.comp_def, beq_self_eq_true, if_true, if_false, ite_true, ite_false, reduceCtorEq, bne_self_eq_false, Option.some.injEq, Prod.mk.injEq, ↓reduceIte, Nat.reduceEqDiff, Nat.reduceAdd, Nat.reduceMul, Nat.reduceSub, Nat.reduceLeDiff, Nat.reduceLT, Int.reduceLT, Int.reduceLE, Int.reduceEq, Int.reduceAdd, Int.reduceSub, Int.reduceNeg, Int.reduceToNat, List.mapM_cons, List.mapM_nil, Option.pure_def, Option.bind_eq_bind, eq_self, decide_true, decide_false, I.r9]⟩
    rw [I.rows, I.rows2, List.take_of_length_le (by rw [(rot_perm ms t).length_eq]; omega)]
    exact (rot_perm ms t).map _
  | m + 1, i, him, ρ, σ, L, H, f, cl, cc, a, L2, H2, f2, cl2, cc2, I => by
    obtain ⟨h1, h2⟩ := htw (by omega)
    obtain ⟨ρ1, σ1, L1, H1, f1, cl1, cc1, a1, L21, H21, f21, cl21, cc21, e1, I1⟩ := round8b I (by omega) hms h1 h2
    rw [run_loop, e1]
    obtain ⟨ρ2, σ2, x1, x2, x3, x4, x5, x6, x7, x8, x9, x10, e2, h⟩ := rounds8b hms htw m (i + 1) (by omega) I1
    exact ⟨ρ2, σ2, x1, x2, x3, x4, x5, x6, x7, x8, x9, x10, by simp (disch := first | omega | (simp only [rkl]; omega)) only [rk1, rk2, rk3, rk4, rk5, Arg.get, ret1, AV.cells, AV.isCell, addOff, minmaxL, Cap.room, Cap.cut, cutI, isSt, resultOf, Function.comp_apply, Function.comp_def, beq_self_eq_true, if_true, if_false, ite_true, ite_false, reduceCtorEq, bne_self_eq_false, Option.some.injEq, Prod.mk.injEq, ↓reduceIte, Nat.reduceEqDiff, Nat.reduceAdd, Nat.reduceMul, Nat.reduceSub, Nat.reduceLeDiff, Nat.reduceLT, Int.reduceLT, Int.reduceLE, Int.reduceEq, Int.reduceAdd, Int.reduceSub, Int.reduceNeg, Int.reduceToNat, List.mapM_cons, List.mapM_nil, Option.pure_def, Option.bind_eq_bind, eq_self, decide_true, decide_false]; exact e2, h⟩

/-- What an eviction leaves. -/
structure Left (σ σ' : St) (S M : Vm.Id) (bud : Int) (L H : List Vm.Id) (f : Vm.Id → Ky) (cl : Vm.Id → Bool) (cc a : AV) (g : List Rw) (L' H' : List Vm.Id) (cc' : AV) : Prop where
  A : Shf σ' S M bud L' H' f cl cc'
  G : ∃ G, OutL σ' f a G ∧ rowsOf f cl G = g
  goes : Goes bud (rowsOf f cl L) g
  len : L'.length + g.length = L.length
  sum : sumL f L' + sumR g = sumL f L
  fr : Frm σ σ' (Fp S M L cc)
  la : ∀ G, refId a = some G → σ.next ≤ G.o ∧ G.o < σ'.next
  fp : ∀ q, Fp S M L' cc' q → Fp S M L cc q
  sub : ∀ r, r ∈ rowsOf f cl L' → r ∈ rowsOf f cl L

theorem evS_ok (bud : Int) (f : Vm.Id → Ky) : ∀ (n : Nat) (L H : List Vm.Id), Ok ltK f H.length H → Ok ltK f (evS bud f n L H).2.2.length (evS bud f n L H).2.2 := by
  intro n
  induction n with
  | zero => intro L H h; exact h
  | succ n ih =>
    intro L H h
    unfold evS
    split
    · split
      · exact ih _ _ (ok_drop h _)
      · exact h
    · exact h

theorem Shf.evict {σ : St} {S M : Vm.Id} {bud : Int} {L H : List Vm.Id} {f : Vm.Id → Ky} {cl : Vm.Id → Bool} {cc : AV} (A : Shf σ S M bud L H f cl cc) (hbud : -9223372036854775808 ≤ bud) :
    ∃ σ' a g L' H' cc', ev (tab hsS) 43 [.ptr S 0] σ = some (a, σ') ∧ Left σ σ' S M bud L H f cl cc a g L' H' cc' := by
  obtain ⟨σ', cc', a, e, R', O', hcc, fr, la⟩ := evict_ev A.R hbud
  have W := went bud f L.length L H (Nat.le_refl _) A.R.nd A.R.hc.nd A.R.sub A.R.key
  have ok := evS_ok bud f L.length L H A.ok
  have gs := evS_goes bud f cl L.length L H (Nat.le_refl _) A.R.nd A.R.hc.nd A.R.sub A.R.key A.hcl A.ok
  generalize (evS bud f L.length L H).1 = G at *
  generalize (evS bud f L.length L H).2.1 = L' at *
  generalize (evS bud f L.length L H).2.2 = H' at *
  refine ⟨σ', a, rowsOf f cl G, L', H', cc', e, ⟨R', ok, fun x hx => ?_⟩, ⟨G, O', rfl⟩, gs, by rw [rowsOf_len]; exact W.len, by rw [sumR_rows]; exact went_sum W A.R.nd R'.nd A.R.sub, fr, la, fun q hq => ?_, fun r hr => ?_⟩
  · obtain ⟨hxL, hxG⟩ := (W.left x).1 hx
    rw [W.heap, ← A.hcl x hxL]
    exact ⟨fun h => h.1, fun h => ⟨h, hxG⟩⟩
  · rcases hq with hq | hq | hq | hq
    · exact .inl hq
    · exact .inr (.inl hq)
    · exact .inr (.inr (.inl ((W.left q).1 hq).1))
    · exact .inr (.inr (.inr (by rw [← hcc]; exact hq)))
  · simp only [rowsOf, List.mem_map] at hr ⊢
    obtain ⟨x, hx, rfl⟩ := hr
    exact ⟨x, ((W.left x).1 hx).1, rfl⟩

theorem rounds8_out {ρ : Env} {σ : St} {r} (hr : run (tab hsS) (.loop l8_15) ρ σ = r) {S1 M1 S2 M2 : Vm.Id} {bud turn : Int} {l ms : List Sc} {L H : List Vm.Id} {f : Vm.Id → Ky} {cl : Vm.Id → Bool} {cc a : AV} {f2 : Vm.Id → Ky} (I : Inv8 ρ σ S1 M1 S2 M2 bud turn 0 l ms L H f cl cc a f2) : Over8 S1 M1 S2 M2 bud turn f2 r := by
  subst hr
  exact rounds8 (min l.length 60) 0 (by omega) I
theorem rounds8b_out {ρ : Env} {σ : St} {r} (hr : run (tab hsS) (.loop l8_22) ρ σ = r) {S1 M1 S2 M2 : Vm.Id} {bud turn : Int} {t : Nat} {ms : List Sc} (hms : ms.length ≤ 60) (htw : 0 < ms.length → t < ms.length ∧ IntKind.i64.wrap ((IntKind.u64.wrap turn).tmod ms.length) = t) {L H : List Vm.Id} {f : Vm.Id → Ky} {cl : Vm.Id → Bool} {cc a : AV} {L2 H2 : List Vm.Id} {f2 : Vm.Id → Ky} {cl2 : Vm.Id → Bool} {cc2 : AV}
    (I : Inv8b ρ σ S1 M1 S2 M2 bud turn t 0 ms L H f cl cc a L2 H2 f2 cl2 cc2) : Over8b S1 M1 S2 M2 bud r := by
  subst hr
  exact rounds8b hms htw ms.length 0 (by omega) I

theorem order_pure (b turn : Int) (l : List Sc) {h : Hint} : pureOf (run (tab hsS)) ⟨134, 3, code8, [.tmp 6], h⟩ [.int .i64 b, .int .i64 turn, .isl false (scs l) l.length none] = some (.bool true) := by
  obtain ⟨t, ht, hw⟩ := mod_small b 500 (by omega) (by omega)
  have hw : IntKind.i64.wrap ((IntKind.u64.wrap b).tmod 500) = t := hw
  obtain ⟨s1, e1, R1, f1⟩ := new_shelf emptySt (fun _ => ⟨0, 0, 0, 0⟩) (bud := (t : Int)) (by omega)
  obtain ⟨s2, e2, R2, f2⟩ := new_shelf s1 (fun _ => ⟨0, 0, 0, 0⟩) (bud := (t : Int)) (by omega)
  rw [next_empty] at e1 R1
  have hn : 2 ≤ s1.next := by have := R1.lS; simp at this; omega
  have R1' := R1.frm f2 (fun _ _ h => h)
  have dj : ∀ q, Fp ⟨0 + 1, 0, 0⟩ ⟨0, 0, 0⟩ [] .nilsl q → ¬ Fp ⟨s1.next + 1, 0, 0⟩ ⟨s1.next, 0, 0⟩ [] .nilsl q := by
    rintro q (rfl | rfl | hq | hq) (h | h | h | h)
    all_goals first | (simp at h; omega) | (simp at hq; done) | (simp [refId] at hq; done) | (simp [refId] at h; done) | simp at h
  have ok0 : Ok ltK (fun _ : Vm.Id => (⟨0, 0, 0, 0⟩ : Ky)) ([] : List Vm.Id).length [] := fun k k0 hk => by simp at hk
  simp (disch := first | omega | (simp only [rkl]; omega)) only [rk1, rk2, rk3, rk4, rk5, Arg.get, ret1, AV.cells, AV.isCell, addOff, minmaxL, Cap.room, Cap.cut, cutI, isSt, resultOf, Function.comp_apply, Function.comp_def, beq_self_eq_true, if_true, if_false, ite_true, ite_false, reduceCtorEq, bne_self_eq_false, Option.some.injEq, Prod.mk.injEq, ↓reduceIte, Nat.reduceEqDiff, Nat.reduceAdd, Nat.reduceMul, Nat.reduceSub, Nat.reduceLeDiff, Nat.reduceLT, Int.reduceLT, Int.reduceLE, Int.reduceEq, Int.reduceAdd, Int.reduceSub, Int.reduceNeg, Int.reduceToNat, List.mapM_cons, List.mapM_nil, Option.pure_def, Option.bind_eq_bind, eq_self, decide_true, decide_false, code8, p8_1, p8_2, p8_3, p8_4, p8_5, p8_7, p8_8, hw, e1, e2, awake41]
  generalize hr : run (tab hsS) (.loop l8_15) _ _ = r
  obtain ⟨ρ3, s3, i3, l3, ms, L, H, f, cl, cc, a, rfl, I, hi3⟩ := rounds8_out (l := l) (turn := turn) (ms := []) hr (cl := fun _ => false) (a := .nilsl) ⟨⟨R1', ok0, by simp⟩, R2, dj, rfl, by simp, .inl ⟨rfl, rfl, rfl⟩, fun G h => by simp [refId] at h, by simp (disch := first | omega | (simp only [rkl]; omega)) only [rk1, rk2, rk3, rk4, rk5, Arg.get, ret1, AV.cells, AV.isCell, addOff, minmaxL, Cap.room, Cap.cut, cutI, isSt, resultOf, Function.comp_apply, Function.comp_def, beq_self_eq_true, if_true, if_false, ite_true, ite_false, reduceCtorEq, bne_self_eq_false, Option.some.injEq, Prod.mk.injEq, ↓reduceIte, Nat.reduceEqDiff, Nat.reduceAdd, Nat.reduceMul, Nat.reduceSub, Nat.reduceLeDiff, Nat.reduceLT, Int.reduceLT, Int.reduceLE, Int.reduceEq, Int.reduceAdd, Int.reduceSub, Int.reduceNeg, Int.reduceToNat, List.mapM_cons, List.mapM_nil, Option.pure_def, Option.bind_eq_bind, eq_self, decide_true, decide_false], by simp (disch := first | omega | (simp only [rkl]; omega)) only [rk1, rk2, rk3, rk4, rk5, Arg.get, ret1, AV.cells, AV.isCell, addOff, minmaxL, Cap.room, Cap.cut, cutI, isSt, resultOf, Function.comp_apply, Function.comp_def, beq_self_eq_true, if_true, if_false, ite_true, ite_false, reduceCtorEq, bne_self_eq_false, Option.some.injEq, Prod.mk.injEq, ↓reduceIte, Nat.reduceEqDiff, Nat.reduceAdd, Nat.reduceMul, Nat.reduceSub, Nat.reduceLeDiff, Nat.reduceLT, Int.reduceLT, Int.reduceLE, Int.reduceEq, Int.reduceAdd, Int.reduceSub, Int.reduceNeg, Int.reduceToNat, List.mapM_cons, List.mapM_nil, Option.pure_def, Option.bind_eq_bind, eq_self, decide_true, decide_false], by simp (disch := first | omega | (simp only [rkl]; omega)) only [rk1, rk2, rk3, rk4, rk5, Arg.get, ret1, AV.cells, AV.isCell, addOff, minmaxL, Cap.room, Cap.cut, cutI, isSt, resultOf, Function.comp_apply, Function.comp_def, beq_self_eq_true, if_true, if_false, ite_true, ite_false, reduceCtorEq, bne_self_eq_false, Option.some.injEq, Prod.mk.injEq, ↓reduceIte, Nat.reduceEqDiff, Nat.reduceAdd, Nat.reduceMul, Nat.reduceSub, Nat.reduceLeDiff, Nat.reduceLT, Int.reduceLT, Int.reduceLE, Int.reduceEq, Int.reduceAdd, Int.reduceSub, Int.reduceNeg, Int.reduceToNat, List.mapM_cons, List.mapM_nil, Option.pure_def, Option.bind_eq_bind, eq_self, decide_true, decide_false], by simp (disch := first | omega | (simp only [rkl]; omega)) only [rk1, rk2, rk3, rk4, rk5, Arg.get, ret1, AV.cells, AV.isCell, addOff, minmaxL, Cap.room, Cap.cut, cutI, isSt, resultOf, Function.comp_apply, Function.comp_def, beq_self_eq_true, if_true, if_false, ite_true, ite_false, reduceCtorEq, bne_self_eq_false, Option.some.injEq, Prod.mk.injEq, ↓reduceIte, Nat.reduceEqDiff, Nat.reduceAdd, Nat.reduceMul, Nat.reduceSub, Nat.reduceLeDiff, Nat.reduceLT, Int.reduceLT, Int.reduceLE, Int.reduceEq, Int.reduceAdd, Int.reduceSub, Int.reduceNeg, Int.reduceToNat, List.mapM_cons, List.mapM_nil, Option.pure_def, Option.bind_eq_bind, eq_self, decide_true, decide_false], by simp (disch := first | omega | (simp only [rkl]; omega)) only [rk1, rk2, rk3, rk4, rk5, Arg.get, ret1, AV.cells, AV.isCell, addOff, minmaxL, Cap.room, Cap.cut, cutI, isSt, resultOf, Function.comp_apply, Function.comp_def, beq_self_eq_true, if_true, if_false, ite_true, ite_false, reduceCtorEq, bne_self_eq_false, Option.some.injEq, Prod.mk.injEq, ↓reduceIte, Nat.reduceEqDiff, Nat.reduceAdd, Nat.reduceMul, Nat.reduceSub, Nat.reduceLeDiff, Nat.reduceLT, Int.reduceLT, Int.reduceLE, Int.reduceEq, Int.reduceAdd, Int.reduceSub, Int.reduceNeg, Int.reduceToNat, List.mapM_cons, List.mapM_nil, Option.pure_def, Option.bind_eq_bind, eq_self, decide_true, decide_false], by simp (disch := first | omega | (simp only [rkl]; omega)) only [rk1, rk2, rk3, rk4, rk5, Arg.get, ret1, AV.cells, AV.isCell, addOff, minmaxL, Cap.room, Cap.cut, cutI, isSt, resultOf, Function.comp_apply, Function.comp_def, beq_self_eq_true, if_true, if_false, ite_true, ite_false, reduceCtorEq, bne_self_eq_false, Option.some.injEq, Prod.mk.injEq, ↓reduceIte, Nat.reduceEqDiff, Nat.reduceAdd, Nat.reduceMul, Nat.reduceSub, Nat.reduceLeDiff, Nat.reduceLT, Int.reduceLT, Int.reduceLE, Int.reduceEq, Int.reduceAdd, Int.reduceSub, Int.reduceNeg, Int.reduceToNat, List.mapM_cons, List.mapM_nil, Option.pure_def, Option.bind_eq_bind, eq_self, decide_true, decide_false]; rfl, by simp⟩
  have hms : ms.length ≤ 60 := by have := I.few; omega
  obtain ⟨t2, ht2⟩ : ∃ t2 : Nat, 0 < ms.length → t2 < ms.length ∧ IntKind.i64.wrap ((IntKind.u64.wrap turn).tmod ms.length) = t2 := by
    by_cases h0 : 0 < ms.length
    · obtain ⟨t2, h1, h2⟩ := mod_small turn ms.length h0 (by omega)
      exact ⟨t2, fun _ => ⟨h1, h2⟩⟩
    · exact ⟨0, fun h => absurd h h0⟩
  simp (disch := first | omega | (simp only [rkl]; omega)) only [rk1, rk2, rk3, rk4, rk5, Arg.get, ret1, AV.cells, AV.isCell, addOff, minmaxL, Cap.room, Cap.cut, cutI, isSt, resultOf, Function.comp_apply, Function.comp_def, beq_self_eq_true, if_true, if_false, ite_true, ite_false, reduceCtorEq, bne_self_eq_false, Option.some.injEq, Prod.mk.injEq, ↓reduceIte, Nat.reduceEqDiff, Nat.reduceAdd, Nat.reduceMul, Nat.reduceSub, Nat.reduceLeDiff, Nat.reduceLT, Int.reduceLT, Int.reduceLE, Int.reduceEq, Int.reduceAdd, Int.reduceSub, Int.reduceNeg, Int.reduceToNat, List.mapM_cons, List.mapM_nil, Option.pure_def, Option.bind_eq_bind, eq_self, decide_true, decide_false, p8_16]
  generalize hr : run (tab hsS) (.loop l8_22) _ _ = r
  obtain ⟨ρ4, s4, L, H, f, cl, cc, L2, H2, g2, cl2, cc2, rfl, A4, B4, dj4, hperm, q7, q9⟩ := rounds8b_out (t := t2) hr hms ht2 (cl2 := fun _ => false) ⟨I.A, ⟨I.B, fun k k0 hk => by simp at hk, by simp⟩, I.dj, I.rows, by simp [rowsOf], I.szs, I.O, I.la, by simp (disch := first | omega | (simp only [rkl]; omega)) only [rk1, rk2, rk3, rk4, rk5, Arg.get, ret1, AV.cells, AV.isCell, addOff, minmaxL, Cap.room, Cap.cut, cutI, isSt, resultOf, Function.comp_apply, Function.comp_def, beq_self_eq_true, if_true, if_false, ite_true, ite_false, reduceCtorEq, bne_self_eq_false, Option.some.injEq, Prod.mk.injEq, ↓reduceIte, Nat.reduceEqDiff, Nat.reduceAdd, Nat.reduceMul, Nat.reduceSub, Nat.reduceLeDiff, Nat.reduceLT, Int.reduceLT, Int.reduceLE, Int.reduceEq, Int.reduceAdd, Int.reduceSub, Int.reduceNeg, Int.reduceToNat, List.mapM_cons, List.mapM_nil, Option.pure_def, Option.bind_eq_bind, eq_self, decide_true, decide_false, I.r1], by simp (disch := first | omega | (simp only [rkl]; omega)) only [rk1, rk2, rk3, rk4, rk5, Arg.get, ret1, AV.cells, AV.isCell, addOff, minmaxL, Cap.room, Cap.cut, cutI, isSt, resultOf, Function.comp_apply, Function.comp_def, beq_self_eq_true, if_true, if_false, ite_true, ite_false, reduceCtorEq, bne_self_eq_false, Option.some.injEq, Prod.mk.injEq, ↓reduceIte, Nat.reduceEqDiff, Nat.reduceAdd, Nat.reduceMul, Nat.reduceSub, Nat.reduceLeDiff, Nat.reduceLT, Int.reduceLT, Int.reduceLE, Int.reduceEq, Int.reduceAdd, Int.reduceSub, Int.reduceNeg, Int.reduceToNat, List.mapM_cons, List.mapM_nil, Option.pure_def, Option.bind_eq_bind, eq_self, decide_true, decide_false, I.r7], by simp (disch := first | omega | (simp only [rkl]; omega)) only [rk1, rk2, rk3, rk4, rk5, Arg.get, ret1, AV.cells, AV.isCell, addOff, minmaxL, Cap.room, Cap.cut, cutI, isSt, resultOf, Function.comp_apply, Function.comp_def, beq_self_eq_true, if_true, if_false, ite_true, ite_false, reduceCtorEq, bne_self_eq_false, Option.some.injEq, Prod.mk.injEq, ↓reduceIte, Nat.reduceEqDiff, Nat.reduceAdd, Nat.reduceMul, Nat.reduceSub, Nat.reduceLeDiff, Nat.reduceLT, Int.reduceLT, Int.reduceLE, Int.reduceEq, Int.reduceAdd, Int.reduceSub, Int.reduceNeg, Int.reduceToNat, List.mapM_cons, List.mapM_nil, Option.pure_def, Option.bind_eq_bind, eq_self, decide_true, decide_false, I.r9], by simp (disch := first | omega | (simp only [rkl]; omega)) only [rk1, rk2, rk3, rk4, rk5, Arg.get, ret1, AV.cells, AV.isCell, addOff, minmaxL, Cap.room, Cap.cut, cutI, isSt, resultOf, Function.comp_apply, Function.comp_def, beq_self_eq_true, if_true, if_false, ite_true, ite_false, reduceCtorEq, bne_self_eq_false, Option.some.injEq, Prod.mk.injEq, ↓reduceIte, Nat.reduceEqDiff, Nat.reduceAdd, Nat.reduceMul, Nat.reduceSub, Nat.reduceLeDiff, Nat.reduceLT, Int.reduceLT, Int.reduceLE, Int.reduceEq, Int.reduceAdd, Int.reduceSub, Int.reduceNeg, Int.reduceToNat, List.mapM_cons, List.mapM_nil, Option.pure_def, Option.bind_eq_bind, eq_self, decide_true, decide_false, I.r11], by simp (disch := first | omega | (simp only [rkl]; omega)) only [rk1, rk2, rk3, rk4, rk5, Arg.get, ret1, AV.cells, AV.isCell, addOff, minmaxL, Cap.room, Cap.cut, cutI, isSt, resultOf, Function.comp_apply, Function.comp_def, beq_self_eq_true, if_true, if_false, ite_true, ite_false, reduceCtorEq, bne_self_eq_false, Option.some.injEq, Prod.mk.injEq, ↓reduceIte, Nat.reduceEqDiff, Nat.reduceAdd, Nat.reduceMul, Nat.reduceSub, Nat.reduceLeDiff, Nat.reduceLT, Int.reduceLT, Int.reduceLE, Int.reduceEq, Int.reduceAdd, Int.reduceSub, Int.reduceNeg, Int.reduceToNat, List.mapM_cons, List.mapM_nil, Option.pure_def, Option.bind_eq_bind, eq_self, decide_true, decide_false]; rfl⟩
  obtain ⟨s5, a5, g5, L5, H5, cc5, e5, E5⟩ := A4.evict (by omega)
  have B5 := B4.frm E5.fr (fun q h1 h2 => dj4 q h2 h1)
  obtain ⟨s6, a6, g6, L6, H6, cc6, e6, E6⟩ := B5.evict (by omega)
  have hg : g6 = g5 := E6.goes.det E5.goes hperm (kd_rows B4.R.key)
  have lB4 := B4.R.lF
  obtain ⟨G5, O5, hG5⟩ := E5.G
  obtain ⟨G6, O6, hG6⟩ := E6.G
  have O5' : OutL s6 f a5 G5 := by
    rcases O5 with O | ⟨Gb, rfl, hb⟩
    · exact .inl O
    · obtain ⟨l1, l2⟩ := E5.la Gb rfl
      refine .inr ⟨Gb, rfl, ?_⟩
      rw [E6.fr.get l2 (fun h => by have := lB4 _ h; omega)]; exact hb
  obtain ⟨fl5, sn5⟩ := outL_snap O5' cl hG5
  obtain ⟨fl6, sn6⟩ := outL_snap O6 cl2 hG6
  rw [hg] at sn6
  have hlg : g5.length < 2 ^ 40 := by have := E5.len; have := A4.R.few; omega
  have e47 := plain47 sn5 sn6 hlg
  have A6 := E5.A.frm E6.fr (fun q h1 h2 => dj4 q (E5.fp q h1) h2)
  have z5 := size_shelf A6.R
  have z6 := size_shelf E6.A.R
  have n5 := len_shelf A6.R
  have n6 := len_shelf E6.A.R
  have hsum : sumL g2 L6 = sumL f L5 := by
    have a1 := E5.sum
    have a2 := E6.sum
    have a3 := sumR_perm hperm
    rw [sumR_rows, sumR_rows] at a3
    rw [hg] at a2
    omega
  have hlen : (L6.length : Int) = L5.length := by
    have a1 := E5.len
    have a2 := E6.len
    have a3 := hperm.length_eq
    rw [rowsOf_len, rowsOf_len] at a3
    rw [hg] at a2
    omega
  rw [hsum] at z6
  rw [hlen] at n6
  simp (disch := first | omega | (simp only [rkl]; omega)) only [rk1, rk2, rk3, rk4, rk5, Arg.get, ret1, AV.cells, AV.isCell, addOff, minmaxL, Cap.room, Cap.cut, cutI, isSt, resultOf, Function.comp_apply, Function.comp_def, beq_self_eq_true, if_true, if_false, ite_true, ite_false, reduceCtorEq, bne_self_eq_false, Option.some.injEq, Prod.mk.injEq, ↓reduceIte, Nat.reduceEqDiff, Nat.reduceAdd, Nat.reduceMul, Nat.reduceSub, Nat.reduceLeDiff, Nat.reduceLT, Int.reduceLT, Int.reduceLE, Int.reduceEq, Int.reduceAdd, Int.reduceSub, Int.reduceNeg, Int.reduceToNat, List.mapM_cons, List.mapM_nil, Option.pure_def, Option.bind_eq_bind, eq_self, decide_true, decide_false, p8_23, q7, q9, e5, e6, e47, z5, z6, n5, n6]
end Go.Proofs.Ytkhalpmmdlppkaa
