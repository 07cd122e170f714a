/-
  ShelfKeeps: the rounds, the law.
-/
import Derived.Test.YtkhalpmmdlppkaaQaC
namespace Go.Proofs.Ytkhalpmmdlppkaa
set_option linter.unusedSimpArgs false
set_option linter.unusedVariables false
open Go.Vm

theorem round7 {ρ : Env} {σ : St} {S M : Vm.Id} {bud : Int} {i : Nat} {l : List Sc} {L H : List Vm.Id} {f : Vm.Id → Ky} {cl : Vm.Id → Bool} {cc a : AV} (I : Inv7 ρ σ S M bud i l L H f cl cc a) (hi : i < l.length) (hi2 : i < 100) : Next7 S M bud (i + 1) l (run (tab hsS) l7_14 ρ σ) := by
  have hx : l[i]? = some l[i] := List.getElem?_eq_getElem hi
  have hat := scs_at hx
  generalize l[i] = x at hx hat
  have hsl := scs_len l
  have hm : (i + 1) * 6 ≤ l.length * 6 := Nat.mul_le_mul_right _ hi
  have hpt : Vm.part true 6 (i * 6) (scs l) = some (.agg (scc x)) := by rw [part_t (by omega), hat]
  have hep : elemPtr 6 i (.isl false (scs l) l.length none) = some (.iptr false (scs l) (i * 6)) := elemPtr_isl hi (by omega)
  have hz : newCells σ [.int .i64 0, .int .u32 0, .int .u32 0, .int .i64 0, .int .i64 0, .bool false] = some (⟨σ.next, 0, 0⟩, σ.new [.int .i64 0, .int .u32 0, .int .u32 0, .int .i64 0, .int .i64 0, .bool false]) := newCells_ok rfl
  have hst : storeAt (σ.new [.int .i64 0, .int .u32 0, .int .u32 0, .int .i64 0, .int .i64 0, .bool false]) 6 (.ptr ⟨σ.next, 0, 0⟩ 0) (.agg (scc x)) = some (σ.new (scc x)) := new_store rfl rfl rfl
  have f1 := Frm.new σ (scc x) (fun _ => False)
  have hg : (σ.new (scc x)).get ⟨σ.next, 0, 0⟩ = some (scc x) := by rw [get_new, if_pos rfl]
  have him : (i : Int) < (l.length : Int) := by omega
  have him2 : (i : Int) < 100 := by omega
  obtain ⟨t, ht, hw⟩ := mod_small x.sz 500 (by omega) (by omega)
  have hw : IntKind.i64.wrap ((IntKind.u64.wrap x.sz).tmod 500) = t := hw
  have hlF := I.R.lF
  have n1 : (σ.new (scc x)).next = σ.next + 1 := rfl
  have hrun : ∃ ρ1, (∀ r, run (tab hsS) bPut ρ1 (σ.new (scc x)) = r → run (tab hsS) l7_14 ρ σ = thenRun (run (tab hsS) (.ops p7_13)) (inBlk 1 r)) ∧ ρ1 0 = ρ 0 ∧ ρ1 1 = ρ 1 ∧ ρ1 5 = ρ 5 ∧ ρ1 7 = ρ 7 ∧ ρ1 8 = ρ 8 ∧ ρ1 9 = .ptr ⟨σ.next, 0, 0⟩ 0 ∧ ρ1 10 = .int .i64 t := by
    have hp3 : Vm.part false 1 3 (scc x) = some (.int .i64 x.sz) := rfl
    rw [l7_14_eq]
    simp (disch := first | omega | (simp only [rkl]; omega)) only [rk1, rk2, rk3, rk4, rk5, Arg.get, ret1, AV.cells, AV.isCell, addOff, minmaxL, Cap.room, Cap.cut, cutI, isSt, resultOf, Function.comp_apply, Function.comp_def, beq_self_eq_true, if_true, if_false, ite_true, ite_false, reduceCtorEq, bne_self_eq_false, Option.some.injEq, Prod.mk.injEq, ↓reduceIte, Nat.reduceEqDiff, Nat.reduceAdd, Nat.reduceMul, Nat.reduceSub, Nat.reduceLeDiff, Nat.reduceLT, Int.reduceLT, Int.reduceLE, Int.reduceEq, Int.reduceAdd, Int.reduceSub, Int.reduceNeg, Int.reduceToNat, List.mapM_cons, List.mapM_nil, Option.pure_def, Option.bind_eq_bind, eq_self, decide_true, decide_false, p7_8, p7_9, p7_10, I.r1, I.r8, him, him2, hep, hpt, hz, hst, hg, hp3, hw]
    exact ⟨_, fun r hr => by rw [hr], by simp (disch := first | omega | (simp only [rkl]; omega)) only [rk1, rk2, rk3, rk4, rk5, Arg.get, ret1, AV.cells, AV.isCell, addOff, minmaxL, Cap.room, Cap.cut, cutI, isSt, resultOf, Function.comp_apply, Function.comp_def, beq_self_eq_true, if_true, if_false, ite_true, ite_false, reduceCtorEq, bne_self_eq_false, Option.some.injEq, Prod.mk.injEq, ↓reduceIte, Nat.reduceEqDiff, Nat.reduceAdd, Nat.reduceMul, Nat.reduceSub, Nat.reduceLeDiff, Nat.reduceLT, Int.reduceLT, Int.reduceLE, Int.reduceEq, Int.reduceAdd, Int.reduceSub, Int.reduceNeg, Int.reduceToNat, List.mapM_cons, List.mapM_nil, Option.pure_def, Option.bind_eq_bind, eq_self, decide_true, decide_false, I.r0], by simp (disch := first | omega | (simp only [rkl]; omega)) only [rk1, rk2, rk3, rk4, rk5, Arg.get, ret1, AV.cells, AV.isCell, addOff, minmaxL, Cap.room, Cap.cut, cutI, isSt, resultOf, Function.comp_apply, Function.comp_def, beq_self_eq_true, if_true, if_false, ite_true, ite_false, reduceCtorEq, bne_self_eq_false, Option.some.injEq, Prod.mk.injEq, ↓reduceIte, Nat.reduceEqDiff, Nat.reduceAdd, Nat.reduceMul, Nat.reduceSub, Nat.reduceLeDiff, Nat.reduceLT, Int.reduceLT, Int.reduceLE, Int.reduceEq, Int.reduceAdd, Int.reduceSub, Int.reduceNeg, Int.reduceToNat, List.mapM_cons, List.mapM_nil, Option.pure_def, Option.bind_eq_bind, eq_self, decide_true, decide_false, I.r1], by simp (disch := first | omega | (simp only [rkl]; omega)) only [rk1, rk2, rk3, rk4, rk5, Arg.get, ret1, AV.cells, AV.isCell, addOff, minmaxL, Cap.room, Cap.cut, cutI, isSt, resultOf, Function.comp_apply, Function.comp_def, beq_self_eq_true, if_true, if_false, ite_true, ite_false, reduceCtorEq, bne_self_eq_false, Option.some.injEq, Prod.mk.injEq, ↓reduceIte, Nat.reduceEqDiff, Nat.reduceAdd, Nat.reduceMul, Nat.reduceSub, Nat.reduceLeDiff, Nat.reduceLT, Int.reduceLT, Int.reduceLE, Int.reduceEq, Int.reduceAdd, Int.reduceSub, Int.reduceNeg, Int.reduceToNat, List.mapM_cons, List.mapM_nil, Option.pure_def, Option.bind_eq_bind, eq_self, decide_true, decide_false, I.r5], by simp (disch := first | omega | (simp only [rkl]; omega)) only [rk1, rk2, rk3, rk4, rk5, Arg.get, ret1, AV.cells, AV.isCell, addOff, minmaxL, Cap.room, Cap.cut, cutI, isSt, resultOf, Function.comp_apply, Function.comp_def, beq_self_eq_true, if_true, if_false, ite_true, ite_false, reduceCtorEq, bne_self_eq_false, Option.some.injEq, Prod.mk.injEq, ↓reduceIte, Nat.reduceEqDiff, Nat.reduceAdd, Nat.reduceMul, Nat.reduceSub, Nat.reduceLeDiff, Nat.reduceLT, Int.reduceLT, Int.reduceLE, Int.reduceEq, Int.reduceAdd, Int.reduceSub, Int.reduceNeg, Int.reduceToNat, List.mapM_cons, List.mapM_nil, Option.pure_def, Option.bind_eq_bind, eq_self, decide_true, decide_false, I.r7], by simp (disch := first | omega | (simp only [rkl]; omega)) only [rk1, rk2, rk3, rk4, rk5, Arg.get, ret1, AV.cells, AV.isCell, addOff, minmaxL, Cap.room, Cap.cut, cutI, isSt, resultOf, Function.comp_apply, Function.comp_def, beq_self_eq_true, if_true, if_false, ite_true, ite_false, reduceCtorEq, bne_self_eq_false, Option.some.injEq, Prod.mk.injEq, ↓reduceIte, Nat.reduceEqDiff, Nat.reduceAdd, Nat.reduceMul, Nat.reduceSub, Nat.reduceLeDiff, Nat.reduceLT, Int.reduceLT, Int.reduceLE, Int.reduceEq, Int.reduceAdd, Int.reduceSub, Int.reduceNeg, Int.reduceToNat, List.mapM_cons, List.mapM_nil, Option.pure_def, Option.bind_eq_bind, eq_self, decide_true, decide_false, I.r8], by simp (disch := first | omega | (simp only [rkl]; omega)) only [rk1, rk2, rk3, rk4, rk5, Arg.get, ret1, AV.cells, AV.isCell, addOff, minmaxL, Cap.room, Cap.cut, cutI, isSt, resultOf, Function.comp_apply, Function.comp_def, beq_self_eq_true, if_true, if_false, ite_true, ite_false, reduceCtorEq, bne_self_eq_false, Option.some.injEq, Prod.mk.injEq, ↓reduceIte, Nat.reduceEqDiff, Nat.reduceAdd, Nat.reduceMul, Nat.reduceSub, Nat.reduceLeDiff, Nat.reduceLT, Int.reduceLT, Int.reduceLE, Int.reduceEq, Int.reduceAdd, Int.reduceSub, Int.reduceNeg, Int.reduceToNat, List.mapM_cons, List.mapM_nil, Option.pure_def, Option.bind_eq_bind, eq_self, decide_true, decide_false], by simp (disch := first | omega | (simp only [rkl]; omega)) only [rk1, rk2, rk3, rk4, rk5, Arg.get, ret1, AV.cells, AV.isCell, addOff, minmaxL, Cap.room, Cap.cut, cutI, isSt, resultOf, Function.comp_apply, Function.comp_def, beq_self_eq_true, if_true, if_false, ite_true, ite_false, reduceCtorEq, bne_self_eq_false, Option.some.injEq, Prod.mk.injEq, ↓reduceIte, Nat.reduceEqDiff, Nat.reduceAdd, Nat.reduceMul, Nat.reduceSub, Nat.reduceLeDiff, Nat.reduceLT, Int.reduceLT, Int.reduceLE, Int.reduceEq, Int.reduceAdd, Int.reduceSub, Int.reduceNeg, Int.reduceToNat, List.mapM_cons, List.mapM_nil, Option.pure_def, Option.bind_eq_bind, eq_self, decide_true, decide_false]⟩
  obtain ⟨ρ1, hr1, q0, q1, q5, q7, q8, q9, q10⟩ := hrun
  generalize hr : run (tab hsS) bPut ρ1 (σ.new (scc x)) = r at *
  obtain ⟨ρ2, σ2, L', H', f', cl', cc', a', rfl, m⟩ := bPut_ok hr (I.R.frm f1 (fun _ _ h => h)) (I.O.keep fun G hG => new_get (I.la G hG).1) (fun G hG => ⟨by have := (I.la G hG).1; omega, (I.la G hG).2⟩) I.hcl (by have := I.few; omega) (x := x) (q := ⟨σ.next, 0, 0⟩) (n := t) (by omega) hg (by rw [n1]; show σ.next < _; omega)
    (fun h => by have := hlF _ h; simp at this) (fun e => by have := (I.la _ e).1; simp at this) (q5.trans I.r5) (q7.trans I.r7) q9 q10
  rw [hr1 _ rfl]
  have p0 : ρ2 0 = .int .i64 bud := m.r0.trans (q0.trans I.r0)
  have p1 : ρ2 1 = .isl false (scs l) l.length none := m.r1.trans (q1.trans I.r1)
  have p5 : ρ2 5 = .ptr S 0 := m.r5.trans (q5.trans I.r5)
  have p8 : ρ2 8 = .int .i64 i := m.r8.trans (q8.trans I.r8)
  simp (disch := first | omega | (simp only [rkl]; omega)) only [rk1, rk2, rk3, rk4, rk5, Arg.get, ret1, AV.cells, AV.isCell, addOff, minmaxL, Cap.room, Cap.cut, cutI, isSt, resultOf, Function.comp_apply, Function.comp_def, beq_self_eq_true, if_true, if_false, ite_true, ite_false, reduceCtorEq, bne_self_eq_false, Option.some.injEq, Prod.mk.injEq, ↓reduceIte, Nat.reduceEqDiff, Nat.reduceAdd, Nat.reduceMul, Nat.reduceSub, Nat.reduceLeDiff, Nat.reduceLT, Int.reduceLT, Int.reduceLE, Int.reduceEq, Int.reduceAdd, Int.reduceSub, Int.reduceNeg, Int.reduceToNat, List.mapM_cons, List.mapM_nil, Option.pure_def, Option.bind_eq_bind, eq_self, decide_true, decide_false, p7_13, p8]
  exact next7_mk ⟨m.R, m.O, m.la, m.hcl, by simp (disch := first | omega | (simp only [rkl]; omega)) only [rk1, rk2, rk3, rk4, rk5, Arg.get, ret1, AV.cells, AV.isCell, addOff, minmaxL, Cap.room, Cap.cut, cutI, isSt, resultOf, Function.comp_apply, Function.comp_def, beq_self_eq_true, if_true, if_false, ite_true, ite_false, reduceCtorEq, bne_self_eq_false, Option.some.injEq, Prod.mk.injEq, ↓reduceIte, Nat.reduceEqDiff, Nat.reduceAdd, Nat.reduceMul, Nat.reduceSub, Nat.reduceLeDiff, Nat.reduceLT, Int.reduceLT, Int.reduceLE, Int.reduceEq, Int.reduceAdd, Int.reduceSub, Int.reduceNeg, Int.reduceToNat, List.mapM_cons, List.mapM_nil, Option.pure_def, Option.bind_eq_bind, eq_self, decide_true, decide_false, p0], by simp (disch := first | omega | (simp only [rkl]; omega)) only [rk1, rk2, rk3, rk4, rk5, Arg.get, ret1, AV.cells, AV.isCell, addOff, minmaxL, Cap.room, Cap.cut, cutI, isSt, resultOf, Function.comp_apply, Function.comp_def, beq_self_eq_true, if_true, if_false, ite_true, ite_false, reduceCtorEq, bne_self_eq_false, Option.some.injEq, Prod.mk.injEq, ↓reduceIte, Nat.reduceEqDiff, Nat.reduceAdd, Nat.reduceMul, Nat.reduceSub, Nat.reduceLeDiff, Nat.reduceLT, Int.reduceLT, Int.reduceLE, Int.reduceEq, Int.reduceAdd, Int.reduceSub, Int.reduceNeg, Int.reduceToNat, List.mapM_cons, List.mapM_nil, Option.pure_def, Option.bind_eq_bind, eq_self, decide_true, decide_false, p1], by simp (disch := first | omega | (simp only [rkl]; omega)) only [rk1, rk2, rk3, rk4, rk5, Arg.get, ret1, AV.cells, AV.isCell, addOff, minmaxL, Cap.room, Cap.cut, cutI, isSt, resultOf, Function.comp_apply, Function.comp_def, beq_self_eq_true, if_true, if_false, ite_true, ite_false, reduceCtorEq, bne_self_eq_false, Option.some.injEq, Prod.mk.injEq, ↓reduceIte, Nat.reduceEqDiff, Nat.reduceAdd, Nat.reduceMul, Nat.reduceSub, Nat.reduceLeDiff, Nat.reduceLT, Int.reduceLT, Int.reduceLE, Int.reduceEq, Int.reduceAdd, Int.reduceSub, Int.reduceNeg, Int.reduceToNat, List.mapM_cons, List.mapM_nil, Option.pure_def, Option.bind_eq_bind, eq_self, decide_true, decide_false, p5], by simp (disch := first | omega | (simp only [rkl]; omega)) only [rk1, rk2, rk3, rk4, rk5, Arg.get, ret1, AV.cells, AV.isCell, addOff, minmaxL, Cap.room, Cap.cut, cutI, isSt, resultOf, Function.comp_apply, Function.comp_def, beq_self_eq_true, if_true, if_false, ite_true, ite_false, reduceCtorEq, bne_self_eq_false, Option.some.injEq, Prod.mk.injEq, ↓reduceIte, Nat.reduceEqDiff, Nat.reduceAdd, Nat.reduceMul, Nat.reduceSub, Nat.reduceLeDiff, Nat.reduceLT, Int.reduceLT, Int.reduceLE, Int.reduceEq, Int.reduceAdd, Int.reduceSub, Int.reduceNeg, Int.reduceToNat, List.mapM_cons, List.mapM_nil, Option.pure_def, Option.bind_eq_bind, eq_self, decide_true, decide_false, m.r7], by simp (disch := first | omega | (simp only [rkl]; omega)) only [rk1, rk2, rk3, rk4, rk5, Arg.get, ret1, AV.cells, AV.isCell, addOff, minmaxL, Cap.room, Cap.cut, cutI, isSt, resultOf, Function.comp_apply, Function.comp_def, beq_self_eq_true, if_true, if_false, ite_true, ite_false, reduceCtorEq, bne_self_eq_false, Option.some.injEq, Prod.mk.injEq, ↓reduceIte, Nat.reduceEqDiff, Nat.reduceAdd, Nat.reduceMul, Nat.reduceSub, Nat.reduceLeDiff, Nat.reduceLT, Int.reduceLT, Int.reduceLE, Int.reduceEq, Int.reduceAdd, Int.reduceSub, Int.reduceNeg, Int.reduceToNat, List.mapM_cons, List.mapM_nil, Option.pure_def, Option.bind_eq_bind, eq_self, decide_true, decide_false, Int.natCast_add, Int.cast_ofNat_Int], by have := m.few; have := I.few; omega⟩

def Over7 (S M : Vm.Id) (bud : Int) (r : Option (Ex × Env × St)) : Prop := ∃ ρ σ L H f cl cc a, r = some (.exit 0, ρ, σ) ∧ Rep σ S M bud L H f cc ∧ HavL σ a (rowsOf f cl L) ∧ (∀ G, refId a = some G → G.o < σ.next ∧ ¬ Fp S M L cc G) ∧ (∀ x ∈ L, x ∈ H ↔ cl x = true) ∧
  ρ 0 = .int .i64 bud ∧ ρ 5 = .ptr S 0 ∧ ρ 7 = a ∧ L.length ≤ 100

theorem rounds7 {S M : Vm.Id} {bud : Int} {l : List Sc} : ∀ (m i : Nat), i + m = min l.length 100 → ∀ {ρ : Env} {σ : St} {L H : List Vm.Id} {f : Vm.Id → Ky} {cl : Vm.Id → Bool} {cc a : AV}, Inv7 ρ σ S M bud i l L H f cl cc a → Over7 S M bud (run (tab hsS) (.loop l7_14) ρ σ)
  | 0, i, him, ρ, σ, L, H, f, cl, cc, a, I => by
    have over : ∀ {ρ' : Env}, ρ' 0 = ρ 0 → ρ' 5 = ρ 5 → ρ' 7 = ρ 7 → Over7 S M bud (some (.exit 0, ρ', σ)) := fun h0 h5 h7 => ⟨_, σ, L, H, f, cl, cc, a, rfl, I.R, I.O, I.la, I.hcl, h0.trans I.r0, h5.trans I.r5, h7.trans I.r7, by have := I.few; omega⟩
    rw [run_loop, l7_14_eq]
    by_cases h : i < l.length
    · have h2 : (i : Int) < (l.length : Int) := by omega
      have h3 : ¬ ((i : Int) < 100) := by omega
      simp (disch := first | omega | (simp only [rkl]; omega)) only [rk1, rk2, rk3, rk4, rk5, Arg.get, ret1, AV.cells, AV.isCell, addOff, minmaxL, Cap.room, Cap.cut, cutI, isSt, resultOf, Function.comp_apply, Function.comp_def, beq_self_eq_true, if_true, if_false, ite_true, ite_false, reduceCtorEq, bne_self_eq_false, Option.some.injEq, Prod.mk.injEq, ↓reduceIte, Nat.reduceEqDiff, Nat.reduceAdd, Nat.reduceMul, Nat.reduceSub, Nat.reduceLeDiff, Nat.reduceLT, Int.reduceLT, Int.reduceLE, Int.reduceEq, Int.reduceAdd, Int.reduceSub, Int.reduceNeg, Int.reduceToNat, List.mapM_cons, List.mapM_nil, Option.pure_def, Option.bind_eq_bind, eq_self, decide_true, decide_false, p7_8, I.r1, I.r8, h2, h3]
      exact over (by simp (disch := first | omega | (simp only [rkl]; omega)) only [rk1, rk2, rk3, rk4, rk5, Arg.get, ret1, AV.cells, AV.isCell, addOff, minmaxL, Cap.room, Cap.cut, cutI, isSt, resultOf, Function.comp_apply, Function.comp_def, beq_self_eq_true, if_true, if_false, ite_true, ite_false, reduceCtorEq, bne_self_eq_false, Option.some.injEq, Prod.mk.injEq, ↓reduceIte, Nat.reduceEqDiff, Nat.reduceAdd, Nat.reduceMul, Nat.reduceSub, Nat.reduceLeDiff, Nat.reduceLT, Int.reduceLT, Int.reduceLE, Int.reduceEq, Int.reduceAdd, Int.reduceSub, Int.reduceNeg, Int.reduceToNat, List.mapM_cons, List.mapM_nil, Option.pure_def, Option.bind_eq_bind, eq_self, decide_true, decide_false, I.r0]) (by simp (disch := first | omega | (simp only [rkl]; omega)) only [rk1, rk2, rk3, rk4, rk5, Arg.get, ret1, AV.cells, AV.isCell, addOff, minmaxL, Cap.room, Cap.cut, cutI, isSt, resultOf, Function.comp_apply, Function.comp_def, beq_self_eq_true, if_true, if_false, ite_true, ite_false, reduceCtorEq, bne_self_eq_false, Option.some.injEq, Prod.mk.injEq, ↓reduceIte, Nat.reduceEqDiff, Nat.reduceAdd, Nat.reduceMul, Nat.reduceSub, Nat.reduceLeDiff, Nat.reduceLT, Int.reduceLT, Int.reduceLE, Int.reduceEq, Int.reduceAdd, Int.reduceSub, Int.reduceNeg, Int.reduceToNat, List.mapM_cons, List.mapM_nil, Option.pure_def, Option.bind_eq_bind, eq_self, decide_true, decide_false, I.r5]) (by simp (disch := first | omega | (simp only [rkl]; omega)) only [rk1, rk2, rk3, rk4, rk5, Arg.get, ret1, AV.cells, AV.isCell, addOff, minmaxL, Cap.room, Cap.cut, cutI, isSt, resultOf, Function.comp_apply, Function.comp_def, beq_self_eq_true, if_true, if_false, ite_true, ite_false, reduceCtorEq, bne_self_eq_false, Option.some.injEq, Prod.mk.injEq, ↓reduceIte, Nat.reduceEqDiff, Nat.reduceAdd, Nat.reduceMul, Nat.reduceSub, Nat.reduceLeDiff, Nat.reduceLT, Int.reduceLT, Int.reduceLE, Int.reduceEq, Int.reduceAdd, Int.reduceSub, Int.reduceNeg, Int.reduceToNat, List.mapM_cons, List.mapM_nil, Option.pure_def, Option.bind_eq_bind, eq_self, decide_true, decide_false, I.r7])
    · have h2 : ¬ ((i : Int) < (l.length : Int)) := by omega
      simp (disch := first | omega | (simp only [rkl]; omega)) only [rk1, rk2, rk3, rk4, rk5, Arg.get, ret1, AV.cells, AV.isCell, addOff, minmaxL, Cap.room, Cap.cut, cutI, isSt, resultOf, Function.comp_apply, Function.comp_def, beq_self_eq_true, if_true, if_false, ite_true, ite_false, reduceCtorEq, bne_self_eq_false, Option.some.injEq, Prod.mk.injEq, ↓reduceIte, Nat.reduceEqDiff, Nat.reduceAdd, Nat.reduceMul, Nat.reduceSub, Nat.reduceLeDiff, Nat.reduceLT, Int.reduceLT, Int.reduceLE, Int.reduceEq, Int.reduceAdd, Int.reduceSub, Int.reduceNeg, Int.reduceToNat, List.mapM_cons, List.mapM_nil, Option.pure_def, Option.bind_eq_bind, eq_self, decide_true, decide_false, p7_8, I.r1, I.r8, h2]
      exact over (by simp (disch := first | omega | (simp only [rkl]; omega)) only [rk1, rk2, rk3, rk4, rk5, Arg.get, ret1, AV.cells, AV.isCell, addOff, minmaxL, Cap.room, Cap.cut, cutI, isSt, resultOf, Function.comp_apply, Function.comp_def, beq_self_eq_true, if_true, if_false, ite_true, ite_false, reduceCtorEq, bne_self_eq_false, Option.some.injEq, Prod.mk.injEq, ↓reduceIte, Nat.reduceEqDiff, Nat.reduceAdd, Nat.reduceMul, Nat.reduceSub, Nat.reduceLeDiff, Nat.reduceLT, Int.reduceLT, Int.reduceLE, Int.reduceEq, Int.reduceAdd, Int.reduceSub, Int.reduceNeg, Int.reduceToNat, List.mapM_cons, List.mapM_nil, Option.pure_def, Option.bind_eq_bind, eq_self, decide_true, decide_false, I.r0]) (by simp (disch := first | omega | (simp only [rkl]; omega)) only [rk1, rk2, rk3, rk4, rk5, Arg.get, ret1, AV.cells, AV.isCell, addOff, minmaxL, Cap.room, Cap.cut, cutI, isSt, resultOf, Function.comp_apply, Function.comp_def, beq_self_eq_true, if_true, if_false, ite_true, ite_false, reduceCtorEq, bne_self_eq_false, Option.some.injEq, Prod.mk.injEq, ↓reduceIte, Nat.reduceEqDiff, Nat.reduceAdd, Nat.reduceMul, Nat.reduceSub, Nat.reduceLeDiff, Nat.reduceLT, Int.reduceLT, Int.reduceLE, Int.reduceEq, Int.reduceAdd, Int.reduceSub, Int.reduceNeg, Int.reduceToNat, List.mapM_cons, List.mapM_nil, Option.pure_def, Option.bind_eq_bind, eq_self, decide_true, decide_false, I.r5]) (by simp (disch := first | omega | (simp only [rkl]; omega)) only [rk1, rk2, rk3, rk4, rk5, Arg.get, ret1, AV.cells, AV.isCell, addOff, minmaxL, Cap.room, Cap.cut, cutI, isSt, resultOf, Function.comp_apply, Function.comp_def, beq_self_eq_true, if_true, if_false, ite_true, ite_false, reduceCtorEq, bne_self_eq_false, Option.some.injEq, Prod.mk.injEq, ↓reduceIte, Nat.reduceEqDiff, Nat.reduceAdd, Nat.reduceMul, Nat.reduceSub, Nat.reduceLeDiff, Nat.reduceLT, Int.reduceLT, Int.reduceLE, Int.reduceEq, Int.reduceAdd, Int.reduceSub, Int.reduceNeg, Int.reduceToNat, List.mapM_cons, List.mapM_nil, Option.pure_def, Option.bind_eq_bind, eq_self, decide_true, decide_false, I.r7])
  | m + 1, i, him, ρ, σ, L, H, f, cl, cc, a, I => by
    obtain ⟨ρ1, σ1, L1, H1, f1, cl1, cc1, a1, e1, I1⟩ := round7 I (by omega) (by omega)
    rw [run_loop, e1]
    have := rounds7 m (i + 1) (by omega) I1
    obtain ⟨ρ2, σ2, L2, H2, f2, cl2, cc2, a2, e2, h⟩ := this
    exact ⟨ρ2, σ2, L2, H2, f2, cl2, cc2, a2, by simp (disch := first | omega | (simp only [rkl]; omega)) only [rk1, rk2, rk3, rk4, rk5, Arg.get, ret1, AV.cells, AV.isCell, addOff, minmaxL, Cap.room, Cap.cut, cutI, isSt, resultOf, Function.comp_apply, Function.comp_def, beq_self_eq_true, if_true, if_false, ite_true, ite_false, reduceCtorEq, bne_self_eq_false, Option.some.injEq, Prod.mk.injEq, ↓reduceIte, Nat.reduceEqDiff, Nat.reduceAdd, Nat.reduceMul, Nat.reduceSub, Nat.reduceLeDiff, Nat.reduceLT, Int.reduceLT, Int.reduceLE, Int.reduceEq, Int.reduceAdd, Int.reduceSub, Int.reduceNeg, Int.reduceToNat, List.mapM_cons, List.mapM_nil, Option.pure_def, Option.bind_eq_bind, eq_self, decide_true, decide_false]; exact e2, h⟩

theorem inL_mem {f : Vm.Id → Ky} {L G : List Vm.Id} (hG : ∀ x ∈ G, x ∈ L) (key : ∀ x ∈ L, ∀ y ∈ L, (f x).v = (f y).v → (f x).u = (f y).u → x = y) {x : Vm.Id} (hx : x ∈ L) : inL f G (f x).v (f x).u = decide (x ∈ G) := by
  unfold inL
  rw [Bool.eq_iff_iff]
  simp only [List.any_eq_true, Bool.and_eq_true, decide_eq_true_eq]
  constructor
  · rintro ⟨y, hy, h1, h2⟩
    exact key y (hG y hy) x hx h1 h2 ▸ hy
  · intro h
    exact ⟨x, h, rfl, rfl⟩

theorem look7 {σ : St} {L H G : List Vm.Id} {f : Vm.Id → Ky} {cl : Vm.Id → Bool} {a g : AV} (O : HavL σ a (rowsOf f cl L)) (OG : OutL σ f g G) (hG : ∀ x ∈ G, x ∈ H) (hHL : ∀ x ∈ H, x ∈ L) (key : ∀ x ∈ L, ∀ y ∈ L, (f x).v = (f y).v → (f x).u = (f y).u → x = y)
    (hcl : ∀ x ∈ L, x ∈ H ↔ cl x = true) (hL : L.length ≤ 100) (hlG : G.length ≤ 100) : ∀ (m i : Nat), i + m = L.length → ∀ {ρ : Env} {c : Nat}, ρ 7 = a → ρ 11 = g → ρ 13 = .int .i64 i → ρ 12 = .int .i64 c → c ≤ i → ((∀ x ∈ H, x ∈ G) → c = 0) →
    ∃ ρ' c', run (tab hsS) (.loop l7_25) ρ σ = some (.exit 2, ρ', σ) ∧ ρ' 0 = ρ 0 ∧ ρ' 5 = ρ 5 ∧ ρ' 7 = a ∧ ρ' 11 = g ∧ ρ' 12 = .int .i64 (c' : Nat) ∧ ((∀ x ∈ H, x ∈ G) → c' = 0)
  | 0, i, him, ρ, c, r7, r11, r13, r12, hc, hz => by
    have hi : i = L.length := by omega
    subst hi
    have hlen := O.len
    rw [rowsOf_len] at hlen
    rw [run_loop]
    simp (disch := first | omega | (simp only [rkl]; omega)) only [rk1, rk2, rk3, rk4, rk5, Arg.get, ret1, AV.cells, AV.isCell, addOff, minmaxL, Cap.room, Cap.cut, cutI, isSt, resultOf, Function.comp_apply, Function.comp_def, beq_self_eq_true, if_true, if_false, ite_true, ite_false, reduceCtorEq, bne_self_eq_false, Option.some.injEq, Prod.mk.injEq, ↓reduceIte, Nat.reduceEqDiff, Nat.reduceAdd, Nat.reduceMul, Nat.reduceSub, Nat.reduceLeDiff, Nat.reduceLT, Int.reduceLT, Int.reduceLE, Int.reduceEq, Int.reduceAdd, Int.reduceSub, Int.reduceNeg, Int.reduceToNat, List.mapM_cons, List.mapM_nil, Option.pure_def, Option.bind_eq_bind, eq_self, decide_true, decide_false, l7_25, p7_18, r7, r13, hlen]
    exact ⟨_, c, rfl, by simp (disch := first | omega | (simp only [rkl]; omega)) only [rk1, rk2, rk3, rk4, rk5, Arg.get, ret1, AV.cells, AV.isCell, addOff, minmaxL, Cap.room, Cap.cut, cutI, isSt, resultOf, Function.comp_apply, Function.comp_def, beq_self_eq_true, if_true, if_false, ite_true, ite_false, reduceCtorEq, bne_self_eq_false, Option.some.injEq, Prod.mk.injEq, ↓reduceIte, Nat.reduceEqDiff, Nat.reduceAdd, Nat.reduceMul, Nat.reduceSub, Nat.reduceLeDiff, Nat.reduceLT, Int.reduceLT, Int.reduceLE, Int.reduceEq, Int.reduceAdd, Int.reduceSub, Int.reduceNeg, Int.reduceToNat, List.mapM_cons, List.mapM_nil, Option.pure_def, Option.bind_eq_bind, eq_self, decide_true, decide_false], by simp (disch := first | omega | (simp only [rkl]; omega)) only [rk1, rk2, rk3, rk4, rk5, Arg.get, ret1, AV.cells, AV.isCell, addOff, minmaxL, Cap.room, Cap.cut, cutI, isSt, resultOf, Function.comp_apply, Function.comp_def, beq_self_eq_true, if_true, if_false, ite_true, ite_false, reduceCtorEq, bne_self_eq_false, Option.some.injEq, Prod.mk.injEq, ↓reduceIte, Nat.reduceEqDiff, Nat.reduceAdd, Nat.reduceMul, Nat.reduceSub, Nat.reduceLeDiff, Nat.reduceLT, Int.reduceLT, Int.reduceLE, Int.reduceEq, Int.reduceAdd, Int.reduceSub, Int.reduceNeg, Int.reduceToNat, List.mapM_cons, List.mapM_nil, Option.pure_def, Option.bind_eq_bind, eq_self, decide_true, decide_false], by simp (disch := first | omega | (simp only [rkl]; omega)) only [rk1, rk2, rk3, rk4, rk5, Arg.get, ret1, AV.cells, AV.isCell, addOff, minmaxL, Cap.room, Cap.cut, cutI, isSt, resultOf, Function.comp_apply, Function.comp_def, beq_self_eq_true, if_true, if_false, ite_true, ite_false, reduceCtorEq, bne_self_eq_false, Option.some.injEq, Prod.mk.injEq, ↓reduceIte, Nat.reduceEqDiff, Nat.reduceAdd, Nat.reduceMul, Nat.reduceSub, Nat.reduceLeDiff, Nat.reduceLT, Int.reduceLT, Int.reduceLE, Int.reduceEq, Int.reduceAdd, Int.reduceSub, Int.reduceNeg, Int.reduceToNat, List.mapM_cons, List.mapM_nil, Option.pure_def, Option.bind_eq_bind, eq_self, decide_true, decide_false, r7], by simp (disch := first | omega | (simp only [rkl]; omega)) only [rk1, rk2, rk3, rk4, rk5, Arg.get, ret1, AV.cells, AV.isCell, addOff, minmaxL, Cap.room, Cap.cut, cutI, isSt, resultOf, Function.comp_apply, Function.comp_def, beq_self_eq_true, if_true, if_false, ite_true, ite_false, reduceCtorEq, bne_self_eq_false, Option.some.injEq, Prod.mk.injEq, ↓reduceIte, Nat.reduceEqDiff, Nat.reduceAdd, Nat.reduceMul, Nat.reduceSub, Nat.reduceLeDiff, Nat.reduceLT, Int.reduceLT, Int.reduceLE, Int.reduceEq, Int.reduceAdd, Int.reduceSub, Int.reduceNeg, Int.reduceToNat, List.mapM_cons, List.mapM_nil, Option.pure_def, Option.bind_eq_bind, eq_self, decide_true, decide_false, r11], by simp (disch := first | omega | (simp only [rkl]; omega)) only [rk1, rk2, rk3, rk4, rk5, Arg.get, ret1, AV.cells, AV.isCell, addOff, minmaxL, Cap.room, Cap.cut, cutI, isSt, resultOf, Function.comp_apply, Function.comp_def, beq_self_eq_true, if_true, if_false, ite_true, ite_false, reduceCtorEq, bne_self_eq_false, Option.some.injEq, Prod.mk.injEq, ↓reduceIte, Nat.reduceEqDiff, Nat.reduceAdd, Nat.reduceMul, Nat.reduceSub, Nat.reduceLeDiff, Nat.reduceLT, Int.reduceLT, Int.reduceLE, Int.reduceEq, Int.reduceAdd, Int.reduceSub, Int.reduceNeg, Int.reduceToNat, List.mapM_cons, List.mapM_nil, Option.pure_def, Option.bind_eq_bind, eq_self, decide_true, decide_false, r12], hz⟩
  | m + 1, i, him, ρ, c, r7, r11, r13, r12, hc, hz => by
    have hi : i < L.length := by omega
    have hlen := O.len
    rw [rowsOf_len] at hlen
    have him2 : (i : Int) < (L.length : Int) := by omega
    have hxL := List.getElem_mem hi
    have hin := inL_mem (fun y hy => hHL y (hG y hy)) key hxL
    obtain ⟨B, cap, junk, ha, hg⟩ : ∃ B cap junk, a = .sl B 0 L.length cap 5 ∧ σ.get B = some (rws (rowsOf f cl L) ++ junk) := by
      rcases O with ⟨rfl, h⟩ | ⟨B, cap, junk, h1, _, h2⟩
      · have := congrArg List.length h; rw [rowsOf_len, List.length_nil] at this; omega
      · rw [rowsOf_len] at h1; exact ⟨B, cap, junk, h1, h2⟩
    have hxr : (rowsOf f cl L)[i]? = some ⟨f L[i], cl L[i]⟩ := by simp [rowsOf, hi]
    generalize L[i] = x at *
    have hat := rws_at (junk := junk) hxr
    have hrl := rws_len (rowsOf f cl L)
    rw [rowsOf_len] at hrl
    have hll : (rws (rowsOf f cl L) ++ junk).length = L.length * 5 + junk.length := by rw [List.length_append, hrl]
    have hm5 : (i + 1) * 5 ≤ L.length * 5 := Nat.mul_le_mul_right _ hi
    have hep : elemPtr 5 i a = some (.ptr B (i * 5)) := by rw [ha, elemPtr_sl hi]; simp
    have hp2 : Vm.part true 2 (i * 5) (rws (rowsOf f cl L) ++ junk) = some (.agg [.int .u32 (f x).v, .int .u32 (f x).u]) := by
      rw [part_t (by omega)]
      have : List.take 2 (List.drop (i * 5) (rws (rowsOf f cl L) ++ junk)) = List.take 2 (List.take 5 (List.drop (i * 5) (rws (rowsOf f cl L) ++ junk))) := by rw [List.take_take]; rfl
      rw [this, hat]; rfl
    have hp1 : Vm.part false 1 (i * 5 + 4) (rws (rowsOf f cl L) ++ junk) = some (.bool (cl x)) := by
      rw [part_one (by omega)]
      have h1 : (List.take 5 (List.drop (i * 5) (rws (rowsOf f cl L) ++ junk)))[4]? = some (.bool (cl x)) := by rw [hat]; rfl
      rw [List.getElem?_take] at h1
      simpa using h1
    have hev := in_ev (v := (f x).v) (u := (f x).u) OG (by omega)
    rw [hin] at hev
    have hround : ∃ ρ1 c1, run (tab hsS) l7_25 ρ σ = some (.normal, ρ1, σ) ∧ ρ1 0 = ρ 0 ∧ ρ1 5 = ρ 5 ∧ ρ1 7 = a ∧ ρ1 11 = g ∧ ρ1 13 = .int .i64 (i + 1 : Nat) ∧ ρ1 12 = .int .i64 (c1 : Nat) ∧ c1 ≤ i + 1 ∧ ((∀ x ∈ H, x ∈ G) → c1 = 0) := by
      by_cases hxG : x ∈ G
      · have hc1 := (hcl x hxL).1 (hG x hxG)
        rw [decide_eq_true hxG] at hev
        rw [hc1] at hp1
        simp (disch := first | omega | (simp only [rkl]; omega)) only [rk1, rk2, rk3, rk4, rk5, Arg.get, ret1, AV.cells, AV.isCell, addOff, minmaxL, Cap.room, Cap.cut, cutI, isSt, resultOf, Function.comp_apply, Function.comp_def, beq_self_eq_true, if_true, if_false, ite_true, ite_false, reduceCtorEq, bne_self_eq_false, Option.some.injEq, Prod.mk.injEq, ↓reduceIte, Nat.reduceEqDiff, Nat.reduceAdd, Nat.reduceMul, Nat.reduceSub, Nat.reduceLeDiff, Nat.reduceLT, Int.reduceLT, Int.reduceLE, Int.reduceEq, Int.reduceAdd, Int.reduceSub, Int.reduceNeg, Int.reduceToNat, List.mapM_cons, List.mapM_nil, Option.pure_def, Option.bind_eq_bind, eq_self, decide_true, decide_false, l7_25, p7_18, p7_19, p7_20, p7_22, p7_24, r7, r11, r13, hlen, him2, hep, hg, hp2, hp1, hev]
        exact ⟨_, c, rfl, by simp (disch := first | omega | (simp only [rkl]; omega)) only [rk1, rk2, rk3, rk4, rk5, Arg.get, ret1, AV.cells, AV.isCell, addOff, minmaxL, Cap.room, Cap.cut, cutI, isSt, resultOf, Function.comp_apply, Function.comp_def, beq_self_eq_true, if_true, if_false, ite_true, ite_false, reduceCtorEq, bne_self_eq_false, Option.some.injEq, Prod.mk.injEq, ↓reduceIte, Nat.reduceEqDiff, Nat.reduceAdd, Nat.reduceMul, Nat.reduceSub, Nat.reduceLeDiff, Nat.reduceLT, Int.reduceLT, Int.reduceLE, Int.reduceEq, Int.reduceAdd, Int.reduceSub, Int.reduceNeg, Int.reduceToNat, List.mapM_cons, List.mapM_nil, Option.pure_def, Option.bind_eq_bind, eq_self, decide_true, decide_false], by simp (disch := first | omega | (simp only [rkl]; omega)) only [rk1, rk2, rk3, rk4, rk5, Arg.get, ret1, AV.cells, AV.isCell, addOff, minmaxL, Cap.room, Cap.cut, cutI, isSt, resultOf, Function.comp_apply, Function.comp_def, beq_self_eq_true, if_true, if_false, ite_true, ite_false, reduceCtorEq, bne_self_eq_false, Option.some.injEq, Prod.mk.injEq, ↓reduceIte, Nat.reduceEqDiff, Nat.reduceAdd, Nat.reduceMul, Nat.reduceSub, Nat.reduceLeDiff, Nat.reduceLT, Int.reduceLT, Int.reduceLE, Int.reduceEq, Int.reduceAdd, Int.reduceSub, Int.reduceNeg, Int.reduceToNat, List.mapM_cons, List.mapM_nil, Option.pure_def, Option.bind_eq_bind, eq_self, decide_true, decide_false], by simp (disch := first | omega | (simp only [rkl]; omega)) only [rk1, rk2, rk3, rk4, rk5, Arg.get, ret1, AV.cells, AV.isCell, addOff, minmaxL, Cap.room, Cap.cut, cutI, isSt, resultOf, Function.comp_apply, Function.comp_def, beq_self_eq_true, if_true, if_false, ite_true, ite_false, reduceCtorEq, bne_self_eq_false, Option.some.injEq, Prod.mk.injEq, ↓reduceIte, Nat.reduceEqDiff, Nat.reduceAdd, Nat.reduceMul, Nat.reduceSub, Nat.reduceLeDiff, Nat.reduceLT, Int.reduceLT, Int.reduceLE, Int.reduceEq, Int.reduceAdd, Int.reduceSub, Int.reduceNeg, Int.reduceToNat, List.mapM_cons, List.mapM_nil, Option.pure_def, Option.bind_eq_bind, eq_self, decide_true, decide_false, r7], by simp (disch := first | omega | (simp only [rkl]; omega)) only [rk1, rk2, rk3, rk4, rk5, Arg.get, ret1, AV.cells, AV.isCell, addOff, minmaxL, Cap.room, Cap.cut, cutI, isSt, resultOf, Function.comp_apply, Function.comp_def, beq_self_eq_true, if_true, if_false, ite_true, ite_false, reduceCtorEq, bne_self_eq_false, Option.some.injEq, Prod.mk.injEq, ↓reduceIte, Nat.reduceEqDiff, Nat.reduceAdd, Nat.reduceMul, Nat.reduceSub, Nat.reduceLeDiff, Nat.reduceLT, Int.reduceLT, Int.reduceLE, Int.reduceEq, Int.reduceAdd, Int.reduceSub, Int.reduceNeg, Int.reduceToNat, List.mapM_cons, List.mapM_nil, Option.pure_def, Option.bind_eq_bind, eq_self, decide_true, decide_false, r11], by simp (disch := first | omega | (simp only [rkl]; omega)) only [rk1, rk2, rk3, rk4, rk5, Arg.get, ret1, AV.cells, AV.isCell, addOff, minmaxL, Cap.room, Cap.cut, cutI, isSt, resultOf, Function.comp_apply, Function.comp_def, beq_self_eq_true, if_true, if_false, ite_true, ite_false, reduceCtorEq, bne_self_eq_false, Option.some.injEq, Prod.mk.injEq, ↓reduceIte, Nat.reduceEqDiff, Nat.reduceAdd, Nat.reduceMul, Nat.reduceSub, Nat.reduceLeDiff, Nat.reduceLT, Int.reduceLT, Int.reduceLE, Int.reduceEq, Int.reduceAdd, Int.reduceSub, Int.reduceNeg, Int.reduceToNat, List.mapM_cons, List.mapM_nil, Option.pure_def, Option.bind_eq_bind, eq_self, decide_true, decide_false, Int.natCast_add, Int.cast_ofNat_Int], by simp (disch := first | omega | (simp only [rkl]; omega)) only [rk1, rk2, rk3, rk4, rk5, Arg.get, ret1, AV.cells, AV.isCell, addOff, minmaxL, Cap.room, Cap.cut, cutI, isSt, resultOf, Function.comp_apply, Function.comp_def, beq_self_eq_true, if_true, if_false, ite_true, ite_false, reduceCtorEq, bne_self_eq_false, Option.some.injEq, Prod.mk.injEq, ↓reduceIte, Nat.reduceEqDiff, Nat.reduceAdd, Nat.reduceMul, Nat.reduceSub, Nat.reduceLeDiff, Nat.reduceLT, Int.reduceLT, Int.reduceLE, Int.reduceEq, Int.reduceAdd, Int.reduceSub, Int.reduceNeg, Int.reduceToNat, List.mapM_cons, List.mapM_nil, Option.pure_def, Option.bind_eq_bind, eq_self, decide_true, decide_false, r12], by omega, hz⟩
      · rw [decide_eq_false hxG] at hev
        cases hc1 : cl x with
        | false =>
          rw [hc1] at hp1
          simp (disch := first | omega | (simp only [rkl]; omega)) only [rk1, rk2, rk3, rk4, rk5, Arg.get, ret1, AV.cells, AV.isCell, addOff, minmaxL, Cap.room, Cap.cut, cutI, isSt, resultOf, Function.comp_apply, Function.comp_def, beq_self_eq_true, if_true, if_false, ite_true, ite_false, reduceCtorEq, bne_self_eq_false, Option.some.injEq, Prod.mk.injEq, ↓reduceIte, Nat.reduceEqDiff, Nat.reduceAdd, Nat.reduceMul, Nat.reduceSub, Nat.reduceLeDiff, Nat.reduceLT, Int.reduceLT, Int.reduceLE, Int.reduceEq, Int.reduceAdd, Int.reduceSub, Int.reduceNeg, Int.reduceToNat, List.mapM_cons, List.mapM_nil, Option.pure_def, Option.bind_eq_bind, eq_self, decide_true, decide_false, l7_25, p7_18, p7_19, p7_20, p7_22, p7_24, r7, r11, r13, hlen, him2, hep, hg, hp2, hp1, hev]
          exact ⟨_, c, rfl, by simp (disch := first | omega | (simp only [rkl]; omega)) only [rk1, rk2, rk3, rk4, rk5, Arg.get, ret1, AV.cells, AV.isCell, addOff, minmaxL, Cap.room, Cap.cut, cutI, isSt, resultOf, Function.comp_apply, Function.comp_def, beq_self_eq_true, if_true, if_false, ite_true, ite_false, reduceCtorEq, bne_self_eq_false, Option.some.injEq, Prod.mk.injEq, ↓reduceIte, Nat.reduceEqDiff, Nat.reduceAdd, Nat.reduceMul, Nat.reduceSub, Nat.reduceLeDiff, Nat.reduceLT, Int.reduceLT, Int.reduceLE, Int.reduceEq, Int.reduceAdd, Int.reduceSub, Int.reduceNeg, Int.reduceToNat, List.mapM_cons, List.mapM_nil, Option.pure_def, Option.bind_eq_bind, eq_self, decide_true, decide_false], by simp (disch := first | omega | (simp only [rkl]; omega)) only [rk1, rk2, rk3, rk4, rk5, Arg.get, ret1, AV.cells, AV.isCell, addOff, minmaxL, Cap.room, Cap.cut, cutI, isSt, resultOf, Function.comp_apply, Function.comp_def, beq_self_eq_true, if_true, if_false, ite_true, ite_false, reduceCtorEq, bne_self_eq_false, Option.some.injEq, Prod.mk.injEq, ↓reduceIte, Nat.reduceEqDiff, Nat.reduceAdd, Nat.reduceMul, Nat.reduceSub, Nat.reduceLeDiff, Nat.reduceLT, Int.reduceLT, Int.reduceLE, Int.reduceEq, Int.reduceAdd, Int.reduceSub, Int.reduceNeg, Int.reduceToNat, List.mapM_cons, List.mapM_nil, Option.pure_def, Option.bind_eq_bind, eq_self, decide_true, decide_false], by simp (disch := first | omega | (simp only [rkl]; omega)) only [rk1, rk2, rk3, rk4, rk5, Arg.get, ret1, AV.cells, AV.isCell, addOff, minmaxL, Cap.room, Cap.cut, cutI, isSt, resultOf, Function.comp_apply, Function.comp_def, beq_self_eq_true, if_true, if_false, ite_true, ite_false, reduceCtorEq, bne_self_eq_false, Option.some.injEq, Prod.mk.injEq, ↓reduceIte, Nat.reduceEqDiff, Nat.reduceAdd, Nat.reduceMul, Nat.reduceSub, Nat.reduceLeDiff, Nat.reduceLT, Int.reduceLT, Int.reduceLE, Int.reduceEq, Int.reduceAdd, Int.reduceSub, Int.reduceNeg, Int.reduceToNat, List.mapM_cons, List.mapM_nil, Option.pure_def, Option.bind_eq_bind, eq_self, decide_true, decide_false, r7], by simp (disch := first | omega | (simp only [rkl]; omega)) only [rk1, rk2, rk3, rk4, rk5, Arg.get, ret1, AV.cells, AV.isCell, addOff, minmaxL, Cap.room, Cap.cut, cutI, isSt, resultOf, Function.comp_apply, Function.comp_def, beq_self_eq_true, if_true, if_false, ite_true, ite_false, reduceCtorEq, bne_self_eq_false, Option.some.injEq, Prod.mk.injEq, ↓reduceIte, Nat.reduceEqDiff, Nat.reduceAdd, Nat.reduceMul, Nat.reduceSub, Nat.reduceLeDiff, Nat.reduceLT, Int.reduceLT, Int.reduceLE, Int.reduceEq, Int.reduceAdd, Int.reduceSub, Int.reduceNeg, Int.reduceToNat, List.mapM_cons, List.mapM_nil, Option.pure_def, Option.bind_eq_bind, eq_self, decide_true, decide_false, r11], by simp (disch := first | omega | (simp only [rkl]; omega)) only [rk1, rk2, rk3, rk4, rk5, Arg.get, ret1, AV.cells, AV.isCell, addOff, minmaxL, Cap.room, Cap.cut, cutI, isSt, resultOf, Function.comp_apply, Function.comp_def, beq_self_eq_true, if_true, if_false, ite_true, ite_false, reduceCtorEq, bne_self_eq_false, Option.some.injEq, Prod.mk.injEq, ↓reduceIte, Nat.reduceEqDiff, Nat.reduceAdd, Nat.reduceMul, Nat.reduceSub, Nat.reduceLeDiff, Nat.reduceLT, Int.reduceLT, Int.reduceLE, Int.reduceEq, Int.reduceAdd, Int.reduceSub, Int.reduceNeg, Int.reduceToNat, List.mapM_cons, List.mapM_nil, Option.pure_def, Option.bind_eq_bind, eq_self, decide_true, decide_false, Int.natCast_add, Int.cast_ofNat_Int], by simp (disch := first | omega | (simp only [rkl]; omega)) only [rk1, rk2, rk3, rk4, rk5, Arg.get, ret1, AV.cells, AV.isCell, addOff, minmaxL, Cap.room, Cap.cut, cutI, isSt, resultOf, Function.comp_apply, Function.comp_def, beq_self_eq_true, if_true, if_false, ite_true, ite_false, reduceCtorEq, bne_self_eq_false, Option.some.injEq, Prod.mk.injEq, ↓reduceIte, Nat.reduceEqDiff, Nat.reduceAdd, Nat.reduceMul, Nat.reduceSub, Nat.reduceLeDiff, Nat.reduceLT, Int.reduceLT, Int.reduceLE, Int.reduceEq, Int.reduceAdd, Int.reduceSub, Int.reduceNeg, Int.reduceToNat, List.mapM_cons, List.mapM_nil, Option.pure_def, Option.bind_eq_bind, eq_self, decide_true, decide_false, r12], by omega, hz⟩
        | true =>
          rw [hc1] at hp1
          have hc2 : (c : Int) + 1 = ((c + 1 : Nat) : Int) := by omega
          simp (disch := first | omega | (simp only [rkl]; omega)) only [rk1, rk2, rk3, rk4, rk5, Arg.get, ret1, AV.cells, AV.isCell, addOff, minmaxL, Cap.room, Cap.cut, cutI, isSt, resultOf, Function.comp_apply, Function.comp_def, beq_self_eq_true, if_true, if_false, ite_true, ite_false, reduceCtorEq, bne_self_eq_false, Option.some.injEq, Prod.mk.injEq, ↓reduceIte, Nat.reduceEqDiff, Nat.reduceAdd, Nat.reduceMul, Nat.reduceSub, Nat.reduceLeDiff, Nat.reduceLT, Int.reduceLT, Int.reduceLE, Int.reduceEq, Int.reduceAdd, Int.reduceSub, Int.reduceNeg, Int.reduceToNat, List.mapM_cons, List.mapM_nil, Option.pure_def, Option.bind_eq_bind, eq_self, decide_true, decide_false, l7_25, p7_18, p7_19, p7_20, p7_22, p7_23, p7_24, r7, r11, r12, r13, hlen, him2, hep, hg, hp2, hp1, hev, hc2]
          exact ⟨_, c + 1, rfl, by simp (disch := first | omega | (simp only [rkl]; omega)) only [rk1, rk2, rk3, rk4, rk5, Arg.get, ret1, AV.cells, AV.isCell, addOff, minmaxL, Cap.room, Cap.cut, cutI, isSt, resultOf, Function.comp_apply, Function.comp_def, beq_self_eq_true, if_true, if_false, ite_true, ite_false, reduceCtorEq, bne_self_eq_false, Option.some.injEq, Prod.mk.injEq, ↓reduceIte, Nat.reduceEqDiff, Nat.reduceAdd, Nat.reduceMul, Nat.reduceSub, Nat.reduceLeDiff, Nat.reduceLT, Int.reduceLT, Int.reduceLE, Int.reduceEq, Int.reduceAdd, Int.reduceSub, Int.reduceNeg, Int.reduceToNat, List.mapM_cons, List.mapM_nil, Option.pure_def, Option.bind_eq_bind, eq_self, decide_true, decide_false], by simp (disch := first | omega | (simp only [rkl]; omega)) only [rk1, rk2, rk3, rk4, rk5, Arg.get, ret1, AV.cells, AV.isCell, addOff, minmaxL, Cap.room, Cap.cut, cutI, isSt, resultOf, Function.comp_apply, Function.comp_def, beq_self_eq_true, if_true, if_false, ite_true, ite_false, reduceCtorEq, bne_self_eq_false, Option.some.injEq, Prod.mk.injEq, ↓reduceIte, Nat.reduceEqDiff, Nat.reduceAdd, Nat.reduceMul, Nat.reduceSub, Nat.reduceLeDiff, Nat.reduceLT, Int.reduceLT, Int.reduceLE, Int.reduceEq, Int.reduceAdd, Int.reduceSub, Int.reduceNeg, Int.reduceToNat, List.mapM_cons, List.mapM_nil, Option.pure_def, Option.bind_eq_bind, eq_self, decide_true, decide_false], by simp (disch := first | omega | (simp only [rkl]; omega)) only [rk1, rk2, rk3, rk4, rk5, Arg.get, ret1, AV.cells, AV.isCell, addOff, minmaxL, Cap.room, Cap.cut, cutI, isSt, resultOf, Function.comp_apply, Function.comp_def, beq_self_eq_true, if_true, if_false, ite_true, ite_false, reduceCtorEq, bne_self_eq_false, Option.some.injEq, Prod.mk.injEq, ↓reduceIte, Nat.reduceEqDiff, Nat.reduceAdd, Nat.reduceMul, Nat.reduceSub, Nat.reduceLeDiff, Nat.reduceLT, Int.reduceLT, Int.reduceLE, Int.reduceEq, Int.reduceAdd, Int.reduceSub, Int.reduceNeg, Int.reduceToNat, List.mapM_cons, List.mapM_nil, Option.pure_def, Option.bind_eq_bind, eq_self, decide_true, decide_false, r7], by simp (disch := first | omega | (simp only [rkl]; omega)) only [rk1, rk2, rk3, rk4, rk5, Arg.get, ret1, AV.cells, AV.isCell, addOff, minmaxL, Cap.room, Cap.cut, cutI, isSt, resultOf, Function.comp_apply, Function.comp_def, beq_self_eq_true, if_true, if_false, ite_true, ite_false, reduceCtorEq, bne_self_eq_false, Option.some.injEq, Prod.mk.injEq, ↓reduceIte, Nat.reduceEqDiff, Nat.reduceAdd, Nat.reduceMul, Nat.reduceSub, Nat.reduceLeDiff, Nat.reduceLT, Int.reduceLT, Int.reduceLE, Int.reduceEq, Int.reduceAdd, Int.reduceSub, Int.reduceNeg, Int.reduceToNat, List.mapM_cons, List.mapM_nil, Option.pure_def, Option.bind_eq_bind, eq_self, decide_true, decide_false, r11], by simp (disch := first | omega | (simp only [rkl]; omega)) only [rk1, rk2, rk3, rk4, rk5, Arg.get, ret1, AV.cells, AV.isCell, addOff, minmaxL, Cap.room, Cap.cut, cutI, isSt, resultOf, Function.comp_apply, Function.comp_def, beq_self_eq_true, if_true, if_false, ite_true, ite_false, reduceCtorEq, bne_self_eq_false, Option.some.injEq, Prod.mk.injEq, ↓reduceIte, Nat.reduceEqDiff, Nat.reduceAdd, Nat.reduceMul, Nat.reduceSub, Nat.reduceLeDiff, Nat.reduceLT, Int.reduceLT, Int.reduceLE, Int.reduceEq, Int.reduceAdd, Int.reduceSub, Int.reduceNeg, Int.reduceToNat, List.mapM_cons, List.mapM_nil, Option.pure_def, Option.bind_eq_bind, eq_self, decide_true, decide_false, Int.natCast_add, Int.cast_ofNat_Int], by simp (disch := first | omega | (simp only [rkl]; omega)) only [rk1, rk2, rk3, rk4, rk5, Arg.get, ret1, AV.cells, AV.isCell, addOff, minmaxL, Cap.room, Cap.cut, cutI, isSt, resultOf, Function.comp_apply, Function.comp_def, beq_self_eq_true, if_true, if_false, ite_true, ite_false, reduceCtorEq, bne_self_eq_false, Option.some.injEq, Prod.mk.injEq, ↓reduceIte, Nat.reduceEqDiff, Nat.reduceAdd, Nat.reduceMul, Nat.reduceSub, Nat.reduceLeDiff, Nat.reduceLT, Int.reduceLT, Int.reduceLE, Int.reduceEq, Int.reduceAdd, Int.reduceSub, Int.reduceNeg, Int.reduceToNat, List.mapM_cons, List.mapM_nil, Option.pure_def, Option.bind_eq_bind, eq_self, decide_true, decide_false], by omega, fun h => absurd (h x ((hcl x hxL).2 hc1)) hxG⟩
    obtain ⟨ρ1, c1, e1, q0, q5, q7, q11, q13, q12, hc1, hz1⟩ := hround
    obtain ⟨ρ2, c2, e2, p0, p5, p7, p11, p12, hz2⟩ := look7 O OG hG hHL key hcl hL hlG m (i + 1) (by omega) q7 q11 q13 q12 hc1 hz1
    rw [run_loop, e1]
    exact ⟨ρ2, c2, by simp (disch := first | omega | (simp only [rkl]; omega)) only [rk1, rk2, rk3, rk4, rk5, Arg.get, ret1, AV.cells, AV.isCell, addOff, minmaxL, Cap.room, Cap.cut, cutI, isSt, resultOf, Function.comp_apply, Function.comp_def, beq_self_eq_true, if_true, if_false, ite_true, ite_false, reduceCtorEq, bne_self_eq_false, Option.some.injEq, Prod.mk.injEq, ↓reduceIte, Nat.reduceEqDiff, Nat.reduceAdd, Nat.reduceMul, Nat.reduceSub, Nat.reduceLeDiff, Nat.reduceLT, Int.reduceLT, Int.reduceLE, Int.reduceEq, Int.reduceAdd, Int.reduceSub, Int.reduceNeg, Int.reduceToNat, List.mapM_cons, List.mapM_nil, Option.pure_def, Option.bind_eq_bind, eq_self, decide_true, decide_false]; exact e2, p0.trans q0, p5.trans q5, p7, p11, p12, hz2⟩

theorem rounds7_out {ρ : Env} {σ : St} {r} (hr : run (tab hsS) (.loop l7_14) ρ σ = r) {S M : Vm.Id} {bud : Int} {l : List Sc} {L H : List Vm.Id} {f : Vm.Id → Ky} {cl : Vm.Id → Bool} {cc a : AV} (I : Inv7 ρ σ S M bud 0 l L H f cl cc a) : Over7 S M bud r := by
  subst hr
  exact rounds7 (min l.length 100) 0 (by omega) I

theorem look7_out {ρ : Env} {σ : St} {r} (hr : run (tab hsS) (.loop l7_25) ρ σ = r) {L H G : List Vm.Id} {f : Vm.Id → Ky} {cl : Vm.Id → Bool} {a g : AV} (O : HavL σ a (rowsOf f cl L)) (OG : OutL σ f g G) (hG : ∀ x ∈ G, x ∈ H) (hHL : ∀ x ∈ H, x ∈ L) (key : ∀ x ∈ L, ∀ y ∈ L, (f x).v = (f y).v → (f x).u = (f y).u → x = y)
    (hcl : ∀ x ∈ L, x ∈ H ↔ cl x = true) (hL : L.length ≤ 100) (hlG : G.length ≤ 100) (r7 : ρ 7 = a) (r11 : ρ 11 = g) (r13 : ρ 13 = .int .i64 0) (r12 : ρ 12 = .int .i64 0) :
    ∃ ρ' c', r = some (.exit 2, ρ', σ) ∧ ρ' 0 = ρ 0 ∧ ρ' 5 = ρ 5 ∧ ρ' 7 = a ∧ ρ' 11 = g ∧ ρ' 12 = .int .i64 (c' : Nat) ∧ ((∀ x ∈ H, x ∈ G) → c' = 0) := by
  subst hr
  exact look7 O OG hG hHL key hcl hL hlG L.length 0 (by omega) (c := 0) r7 r11 r13 r12 (Nat.le_refl _) (fun _ => rfl)

theorem keeps_pure (b : Int) (l : List Sc) {h : Hint} : pureOf (run (tab hsS)) ⟨133, 2, code7, [.tmp 4], h⟩ [.int .i64 b, .isl false (scs l) l.length none] = some (.bool true) := by
  obtain ⟨t, ht, hw⟩ := mod_small b 2000 (by omega) (by omega)
  have hw : IntKind.i64.wrap ((IntKind.u64.wrap b).tmod 2000) = t := hw
  obtain ⟨s1, e1, R1, f1⟩ := new_shelf emptySt (fun _ => ⟨0, 0, 0, 0⟩) (bud := (t : Int)) (by omega)
  rw [next_empty] at e1 R1
  simp (disch := first | omega | (simp only [rkl]; omega)) only [rk1, rk2, rk3, rk4, rk5, Arg.get, ret1, AV.cells, AV.isCell, addOff, minmaxL, Cap.room, Cap.cut, cutI, isSt, resultOf, Function.comp_apply, Function.comp_def, beq_self_eq_true, if_true, if_false, ite_true, ite_false, reduceCtorEq, bne_self_eq_false, Option.some.injEq, Prod.mk.injEq, ↓reduceIte, Nat.reduceEqDiff, Nat.reduceAdd, Nat.reduceMul, Nat.reduceSub, Nat.reduceLeDiff, Nat.reduceLT, Int.reduceLT, Int.reduceLE, Int.reduceEq, Int.reduceAdd, Int.reduceSub, Int.reduceNeg, Int.reduceToNat, List.mapM_cons, List.mapM_nil, Option.pure_def, Option.bind_eq_bind, eq_self, decide_true, decide_false, code7, p7_1, p7_2, p7_3, p7_4, p7_6, p7_7, hw, e1, awake41]
  generalize hr : run (tab hsS) (.loop l7_14) _ _ = r
  obtain ⟨ρ2, s2, L, H, f, cl, cc, a, rfl, R2, O2, la2, hcl, q0, q5, q7, hL⟩ := rounds7_out (l := l) hr (cl := fun _ => false) (a := .nilsl) ⟨R1, .inl ⟨rfl, rfl⟩, fun G h => by simp [refId] at h, fun x hx => by simp at hx, by simp (disch := first | omega | (simp only [rkl]; omega)) only [rk1, rk2, rk3, rk4, rk5, Arg.get, ret1, AV.cells, AV.isCell, addOff, minmaxL, Cap.room, Cap.cut, cutI, isSt, resultOf, Function.comp_apply, Function.comp_def, beq_self_eq_true, if_true, if_false, ite_true, ite_false, reduceCtorEq, bne_self_eq_false, Option.some.injEq, Prod.mk.injEq, ↓reduceIte, Nat.reduceEqDiff, Nat.reduceAdd, Nat.reduceMul, Nat.reduceSub, Nat.reduceLeDiff, Nat.reduceLT, Int.reduceLT, Int.reduceLE, Int.reduceEq, Int.reduceAdd, Int.reduceSub, Int.reduceNeg, Int.reduceToNat, List.mapM_cons, List.mapM_nil, Option.pure_def, Option.bind_eq_bind, eq_self, decide_true, decide_false], by simp (disch := first | omega | (simp only [rkl]; omega)) only [rk1, rk2, rk3, rk4, rk5, Arg.get, ret1, AV.cells, AV.isCell, addOff, minmaxL, Cap.room, Cap.cut, cutI, isSt, resultOf, Function.comp_apply, Function.comp_def, beq_self_eq_true, if_true, if_false, ite_true, ite_false, reduceCtorEq, bne_self_eq_false, Option.some.injEq, Prod.mk.injEq, ↓reduceIte, Nat.reduceEqDiff, Nat.reduceAdd, Nat.reduceMul, Nat.reduceSub, Nat.reduceLeDiff, Nat.reduceLT, Int.reduceLT, Int.reduceLE, Int.reduceEq, Int.reduceAdd, Int.reduceSub, Int.reduceNeg, Int.reduceToNat, List.mapM_cons, List.mapM_nil, Option.pure_def, Option.bind_eq_bind, eq_self, decide_true, decide_false], by simp (disch := first | omega | (simp only [rkl]; omega)) only [rk1, rk2, rk3, rk4, rk5, Arg.get, ret1, AV.cells, AV.isCell, addOff, minmaxL, Cap.room, Cap.cut, cutI, isSt, resultOf, Function.comp_apply, Function.comp_def, beq_self_eq_true, if_true, if_false, ite_true, ite_false, reduceCtorEq, bne_self_eq_false, Option.some.injEq, Prod.mk.injEq, ↓reduceIte, Nat.reduceEqDiff, Nat.reduceAdd, Nat.reduceMul, Nat.reduceSub, Nat.reduceLeDiff, Nat.reduceLT, Int.reduceLT, Int.reduceLE, Int.reduceEq, Int.reduceAdd, Int.reduceSub, Int.reduceNeg, Int.reduceToNat, List.mapM_cons, List.mapM_nil, Option.pure_def, Option.bind_eq_bind, eq_self, decide_true, decide_false], by simp (disch := first | omega | (simp only [rkl]; omega)) only [rk1, rk2, rk3, rk4, rk5, Arg.get, ret1, AV.cells, AV.isCell, addOff, minmaxL, Cap.room, Cap.cut, cutI, isSt, resultOf, Function.comp_apply, Function.comp_def, beq_self_eq_true, if_true, if_false, ite_true, ite_false, reduceCtorEq, bne_self_eq_false, Option.some.injEq, Prod.mk.injEq, ↓reduceIte, Nat.reduceEqDiff, Nat.reduceAdd, Nat.reduceMul, Nat.reduceSub, Nat.reduceLeDiff, Nat.reduceLT, Int.reduceLT, Int.reduceLE, Int.reduceEq, Int.reduceAdd, Int.reduceSub, Int.reduceNeg, Int.reduceToNat, List.mapM_cons, List.mapM_nil, Option.pure_def, Option.bind_eq_bind, eq_self, decide_true, decide_false], by simp (disch := first | omega | (simp only [rkl]; omega)) only [rk1, rk2, rk3, rk4, rk5, Arg.get, ret1, AV.cells, AV.isCell, addOff, minmaxL, Cap.room, Cap.cut, cutI, isSt, resultOf, Function.comp_apply, Function.comp_def, beq_self_eq_true, if_true, if_false, ite_true, ite_false, reduceCtorEq, bne_self_eq_false, Option.some.injEq, Prod.mk.injEq, ↓reduceIte, Nat.reduceEqDiff, Nat.reduceAdd, Nat.reduceMul, Nat.reduceSub, Nat.reduceLeDiff, Nat.reduceLT, Int.reduceLT, Int.reduceLE, Int.reduceEq, Int.reduceAdd, Int.reduceSub, Int.reduceNeg, Int.reduceToNat, List.mapM_cons, List.mapM_nil, Option.pure_def, Option.bind_eq_bind, eq_self, decide_true, decide_false]; rfl, by simp⟩
  obtain ⟨s3, cc3, g, e3, R3, OG, hcc3, f3, lg⟩ := evict_ev R2 (by omega)
  have W := went (t : Int) f L.length L H (Nat.le_refl _) R2.nd R2.hc.nd R2.sub R2.key
  generalize hG : (evS (t : Int) f L.length L H).1 = G at *
  generalize hL' : (evS (t : Int) f L.length L H).2.1 = L' at *
  generalize hH' : (evS (t : Int) f L.length L H).2.2 = H' at *
  have hlG : G.length ≤ 100 := by have := W.len; omega
  have O3 : HavL s3 a (rowsOf f cl L) := O2.keep fun Gi hGi => f3.get (la2 Gi hGi).1 (la2 Gi hGi).2
  simp (disch := first | omega | (simp only [rkl]; omega)) only [rk1, rk2, rk3, rk4, rk5, Arg.get, ret1, AV.cells, AV.isCell, addOff, minmaxL, Cap.room, Cap.cut, cutI, isSt, resultOf, Function.comp_apply, Function.comp_def, beq_self_eq_true, if_true, if_false, ite_true, ite_false, reduceCtorEq, bne_self_eq_false, Option.some.injEq, Prod.mk.injEq, ↓reduceIte, Nat.reduceEqDiff, Nat.reduceAdd, Nat.reduceMul, Nat.reduceSub, Nat.reduceLeDiff, Nat.reduceLT, Int.reduceLT, Int.reduceLE, Int.reduceEq, Int.reduceAdd, Int.reduceSub, Int.reduceNeg, Int.reduceToNat, List.mapM_cons, List.mapM_nil, Option.pure_def, Option.bind_eq_bind, eq_self, decide_true, decide_false, p7_15, p7_16, p7_17, q5, e3]
  generalize hr : run (tab hsS) (.loop l7_25) _ _ = r
  obtain ⟨ρ4, c, rfl, p0, p5, p7, p11, p12, hc⟩ := look7_out hr O3 OG W.sub R2.sub R2.key hcl hL hlG (by simp (disch := first | omega | (simp only [rkl]; omega)) only [rk1, rk2, rk3, rk4, rk5, Arg.get, ret1, AV.cells, AV.isCell, addOff, minmaxL, Cap.room, Cap.cut, cutI, isSt, resultOf, Function.comp_apply, Function.comp_def, beq_self_eq_true, if_true, if_false, ite_true, ite_false, reduceCtorEq, bne_self_eq_false, Option.some.injEq, Prod.mk.injEq, ↓reduceIte, Nat.reduceEqDiff, Nat.reduceAdd, Nat.reduceMul, Nat.reduceSub, Nat.reduceLeDiff, Nat.reduceLT, Int.reduceLT, Int.reduceLE, Int.reduceEq, Int.reduceAdd, Int.reduceSub, Int.reduceNeg, Int.reduceToNat, List.mapM_cons, List.mapM_nil, Option.pure_def, Option.bind_eq_bind, eq_self, decide_true, decide_false, q7]) (by simp (disch := first | omega | (simp only [rkl]; omega)) only [rk1, rk2, rk3, rk4, rk5, Arg.get, ret1, AV.cells, AV.isCell, addOff, minmaxL, Cap.room, Cap.cut, cutI, isSt, resultOf, Function.comp_apply, Function.comp_def, beq_self_eq_true, if_true, if_false, ite_true, ite_false, reduceCtorEq, bne_self_eq_false, Option.some.injEq, Prod.mk.injEq, ↓reduceIte, Nat.reduceEqDiff, Nat.reduceAdd, Nat.reduceMul, Nat.reduceSub, Nat.reduceLeDiff, Nat.reduceLT, Int.reduceLT, Int.reduceLE, Int.reduceEq, Int.reduceAdd, Int.reduceSub, Int.reduceNeg, Int.reduceToNat, List.mapM_cons, List.mapM_nil, Option.pure_def, Option.bind_eq_bind, eq_self, decide_true, decide_false]) (by simp (disch := first | omega | (simp only [rkl]; omega)) only [rk1, rk2, rk3, rk4, rk5, Arg.get, ret1, AV.cells, AV.isCell, addOff, minmaxL, Cap.room, Cap.cut, cutI, isSt, resultOf, Function.comp_apply, Function.comp_def, beq_self_eq_true, if_true, if_false, ite_true, ite_false, reduceCtorEq, bne_self_eq_false, Option.some.injEq, Prod.mk.injEq, ↓reduceIte, Nat.reduceEqDiff, Nat.reduceAdd, Nat.reduceMul, Nat.reduceSub, Nat.reduceLeDiff, Nat.reduceLT, Int.reduceLT, Int.reduceLE, Int.reduceEq, Int.reduceAdd, Int.reduceSub, Int.reduceNeg, Int.reduceToNat, List.mapM_cons, List.mapM_nil, Option.pure_def, Option.bind_eq_bind, eq_self, decide_true, decide_false]) (by simp (disch := first | omega | (simp only [rkl]; omega)) only [rk1, rk2, rk3, rk4, rk5, Arg.get, ret1, AV.cells, AV.isCell, addOff, minmaxL, Cap.room, Cap.cut, cutI, isSt, resultOf, Function.comp_apply, Function.comp_def, beq_self_eq_true, if_true, if_false, ite_true, ite_false, reduceCtorEq, bne_self_eq_false, Option.some.injEq, Prod.mk.injEq, ↓reduceIte, Nat.reduceEqDiff, Nat.reduceAdd, Nat.reduceMul, Nat.reduceSub, Nat.reduceLeDiff, Nat.reduceLT, Int.reduceLT, Int.reduceLE, Int.reduceEq, Int.reduceAdd, Int.reduceSub, Int.reduceNeg, Int.reduceToNat, List.mapM_cons, List.mapM_nil, Option.pure_def, Option.bind_eq_bind, eq_self, decide_true, decide_false])
  have p0 : ρ4 0 = .int .i64 t := by rw [p0]; simp (disch := first | omega | (simp only [rkl]; omega)) only [rk1, rk2, rk3, rk4, rk5, Arg.get, ret1, AV.cells, AV.isCell, addOff, minmaxL, Cap.room, Cap.cut, cutI, isSt, resultOf, Function.comp_apply, Function.comp_def, beq_self_eq_true, if_true, if_false, ite_true, ite_false, reduceCtorEq, bne_self_eq_false, Option.some.injEq, Prod.mk.injEq, ↓reduceIte, Nat.reduceEqDiff, Nat.reduceAdd, Nat.reduceMul, Nat.reduceSub, Nat.reduceLeDiff, Nat.reduceLT, Int.reduceLT, Int.reduceLE, Int.reduceEq, Int.reduceAdd, Int.reduceSub, Int.reduceNeg, Int.reduceToNat, List.mapM_cons, List.mapM_nil, Option.pure_def, Option.bind_eq_bind, eq_self, decide_true, decide_false, q0]
  have p5 : ρ4 5 = .ptr ⟨1, 0, 0⟩ 0 := by rw [p5]; simp (disch := first | omega | (simp only [rkl]; omega)) only [rk1, rk2, rk3, rk4, rk5, Arg.get, ret1, AV.cells, AV.isCell, addOff, minmaxL, Cap.room, Cap.cut, cutI, isSt, resultOf, Function.comp_apply, Function.comp_def, beq_self_eq_true, if_true, if_false, ite_true, ite_false, reduceCtorEq, bne_self_eq_false, Option.some.injEq, Prod.mk.injEq, ↓reduceIte, Nat.reduceEqDiff, Nat.reduceAdd, Nat.reduceMul, Nat.reduceSub, Nat.reduceLeDiff, Nat.reduceLT, Int.reduceLT, Int.reduceLE, Int.reduceEq, Int.reduceAdd, Int.reduceSub, Int.reduceNeg, Int.reduceToNat, List.mapM_cons, List.mapM_nil, Option.pure_def, Option.bind_eq_bind, eq_self, decide_true, decide_false, q5]
  have esz := size_shelf R3
  obtain ⟨s5, cc5, g5, e5, R5, OG5, hcc5, f5, lg5⟩ := evict_ev R3 (by omega)
  have hdone := evS_done W.done L'.length
  rw [hdone] at R5 OG5
  have elen := len_shelf R5
  have hlen5 := OG5.len
  have hlenG := OG.len
  have hlenO := O3.len
  rw [rowsOf_len] at hlenO
  have hWl := W.len
  have hdiff : (L.length : Int) - (G.length : Int) = (L'.length : Int) := by omega
  have hcond : ¬ (sumL f L' ≤ (t : Int)) → (c : Int) = 0 := fun hn => by
    have : H' = [] := Classical.byContradiction fun h => W.done ⟨by omega, h⟩
    have := hc fun x hx => Classical.byContradiction fun hxG => by
      have := (W.heap x).2 ⟨hx, hxG⟩
      simp_all
    omega
  by_cases hs : sumL f L' ≤ (t : Int)
  · simp (disch := first | omega | (simp only [rkl]; omega)) only [rk1, rk2, rk3, rk4, rk5, Arg.get, ret1, AV.cells, AV.isCell, addOff, minmaxL, Cap.room, Cap.cut, cutI, isSt, resultOf, Function.comp_apply, Function.comp_def, beq_self_eq_true, if_true, if_false, ite_true, ite_false, reduceCtorEq, bne_self_eq_false, Option.some.injEq, Prod.mk.injEq, ↓reduceIte, Nat.reduceEqDiff, Nat.reduceAdd, Nat.reduceMul, Nat.reduceSub, Nat.reduceLeDiff, Nat.reduceLT, Int.reduceLT, Int.reduceLE, Int.reduceEq, Int.reduceAdd, Int.reduceSub, Int.reduceNeg, Int.reduceToNat, List.mapM_cons, List.mapM_nil, Option.pure_def, Option.bind_eq_bind, eq_self, decide_true, decide_false, p7_26, p0, p5, p7, p11, p12, esz, hs, e5, elen, hlen5, hlenG, hlenO, hdiff]
  · have hc0 := hcond hs
    simp (disch := first | omega | (simp only [rkl]; omega)) only [rk1, rk2, rk3, rk4, rk5, Arg.get, ret1, AV.cells, AV.isCell, addOff, minmaxL, Cap.room, Cap.cut, cutI, isSt, resultOf, Function.comp_apply, Function.comp_def, beq_self_eq_true, if_true, if_false, ite_true, ite_false, reduceCtorEq, bne_self_eq_false, Option.some.injEq, Prod.mk.injEq, ↓reduceIte, Nat.reduceEqDiff, Nat.reduceAdd, Nat.reduceMul, Nat.reduceSub, Nat.reduceLeDiff, Nat.reduceLT, Int.reduceLT, Int.reduceLE, Int.reduceEq, Int.reduceAdd, Int.reduceSub, Int.reduceNeg, Int.reduceToNat, List.mapM_cons, List.mapM_nil, Option.pure_def, Option.bind_eq_bind, eq_self, decide_true, decide_false, p7_26, p0, p5, p7, p11, p12, esz, hs, hc0, e5, elen, hlen5, hlenG, hlenO, hdiff]
/-
  ShelfKeeps: the arguments that are handed in.
-/

def hsSn : FuncId → Hint
  | 41 => .pure
  | _ => .raw
theorem hsSn_plain : ∀ f g, hsSn f = .known g → Known Try.prog f g := by
  intro f g h
  unfold hsSn at h
  split at h <;> cases h

theorem sn_run : ∃ s, callC (auto Try.prog hsSn) (runC (auto Try.prog hsSn) 100000) 41 [] HS.zero = some (.bool true, s) := ⟨HS.zero, by kernel_rfl⟩

theorem auto_hint {P : Program} {h : FuncId → Hint} {f : FuncId} {fi : FnI} (hf : auto P h f = some fi) : fi.hint = h f := by
  unfold auto at hf
  split at hf
  · unfold autoFn at hf
    repeat' split at hf
    all_goals first | (simp only [Option.some.injEq] at hf; subst hf; rfl) | simp at hf
  · simp at hf

theorem awake_S : Known Try.prog 41 (just (.bool true)) := by
  obtain ⟨s, hr⟩ := sn_run
  cases h : auto Try.prog hsSn 41 with
  | none => simp [callC, fnC, h] at hr
  | some fi =>
    exact known_just Try.checked.mixed (auto_ok hsSn_plain) h (auto_hint h) hr

theorem hsS_known : ∀ f g, hsS f = .known g → Known Try.prog f g := by
  intro f g h
  unfold hsS at h
  split at h <;> first | (cases h; done) | (cases h; exact awake_S)

theorem sound_S : SoundE Try.prog (ev (tab hsS)) := tab_sound hsS hsS_known

abbrev scSh : Sh := .st [.int .i64, .st [.int .u32, .int .u32], .int .i64, .int .i64, .bool]

theorem sc_of {cs : List AV} (h : Sh.ok scSh cs) : ∃ x : Sc, cs = scc x := by
  obtain ⟨c1, r1, ⟨kd, rfl, _⟩, ⟨c2, r2, ⟨d1, t1, ⟨v, rfl, _⟩, ⟨d2, t2, ⟨u, rfl, _⟩, rfl, rfl⟩, rfl⟩, ⟨c3, r3, ⟨sz, rfl, _⟩, ⟨c4, r4, ⟨us, rfl, _⟩, ⟨c5, r5, ⟨c, rfl⟩, rfl, rfl⟩, rfl⟩, rfl⟩, rfl⟩, rfl⟩ := h
  exact ⟨⟨kd, v, u, sz, us, c⟩, rfl⟩

theorem scs_of {by_ : Nat} {cs : List AV} (h : Sh.ok (.sl by_ scSh) cs) : ∃ l : List Sc, cs = [.isl false (scs l) l.length none] := by
  obtain ⟨rows, h1, h2, _, rfl⟩ := h
  have key : ∀ rows : List (List AV), (∀ r, r ∈ rows → Sh.ok scSh r) → ∃ l : List Sc, rows.flatten = scs l ∧ l.length = rows.length := by
    intro rows
    induction rows with
    | nil => intro _; exact ⟨[], rfl, rfl⟩
    | cons r rows ih =>
      intro h
      obtain ⟨l, hk, hl⟩ := ih fun x hx => h x (by simp [hx])
      obtain ⟨x, rfl⟩ := sc_of (h r (by simp))
      exact ⟨x :: l, by rw [List.flatten_cons, hk]; rfl, by simp [hl]⟩
  obtain ⟨l, hk, hl⟩ := key rows h1
  exact ⟨l, by rw [hk, hl]⟩

theorem keeps_law : ∀ xs, ArgsOk [.int .i64, .sl 40 scSh] xs → ev (tab hsS) 7 xs emptySt = some (.bool true, emptySt) := by
  rintro xs ⟨c1, r1, ⟨n, rfl, _⟩, ⟨c2, r2, h2, rfl, rfl⟩, rfl⟩
  obtain ⟨l, rfl⟩ := scs_of h2
  exact pure_ev (tab7 hsS) (snaps_cons rfl (snaps_cons rfl (snaps_nil _))) (keeps_pure n l)
/-
  THE SHELF: who goes is settled by what is there, in whatever order it stands.
-/

theorem perm_sum {a b : List Int} (h : a.Perm b) : a.sum = b.sum := by
  induction h with
  | nil => rfl
  | cons x _ ih => simp [ih]
  | swap x y l => simp only [List.sum_cons]; omega
  | trans _ _ h1 h2 => exact h1.trans h2
theorem perm_erase {α : Type} : ∀ {L : List α} {j : Nat} (hj : j < L.length), L.Perm (L[j] :: L.eraseIdx j)
  | x :: L, 0, _ => List.Perm.refl _
  | x :: L, j + 1, hj => by
    have := perm_erase (L := L) (j := j) (by simpa using hj)
    exact (this.cons x).trans (List.Perm.swap _ _ _)

def sumR (l : List Rw) : Int := (l.map fun r => r.k.sz).sum
theorem sumR_perm {a b : List Rw} (h : a.Perm b) : sumR a = sumR b := by
  unfold sumR
  exact perm_sum (h.map _)

/-- Of what is there these go, in this order. -/
inductive Goes (bud : Int) : List Rw → List Rw → Prop
  | stop {l : List Rw} (h : ¬ (bud < sumR l ∧ ∃ r ∈ l, r.c = true)) : Goes bud l []
  | step {l l' g : List Rw} {m : Rw} (hb : bud < sumR l) (hm : m.c = true) (hp : l.Perm (m :: l')) (hmin : ∀ y ∈ l, y.c = true → ltK y.k m.k = false) (t : Goes bud l' g) : Goes bud l (m :: g)

def Kd (l : List Rw) : Prop := ∀ x ∈ l, ∀ y ∈ l, x.k.v = y.k.v → x.k.u = y.k.u → x = y

theorem lt_tie {a b : Ky} (h1 : ltK a b = false) (h2 : ltK b a = false) : a.v = b.v ∧ a.u = b.u := by
  have n : ∀ x y, ltK x y = false → ¬ (x.us < y.us ∨ x.us = y.us ∧ (x.v < y.v ∨ x.v = y.v ∧ x.u < y.u)) := fun x y h e => by
    rw [← ltK_iff] at e; rw [h] at e; cases e
  have := n _ _ h1
  have := n _ _ h2
  omega

theorem Goes.det {bud : Int} {l g : List Rw} (h : Goes bud l g) : ∀ {l2 g2 : List Rw}, Goes bud l2 g2 → l.Perm l2 → Kd l → g = g2 := by
  induction h with
  | stop h =>
    intro l2 g2 h2 hp hk
    cases h2 with
    | stop _ => rfl
    | step hb hm hp2 _ _ => exact absurd ⟨by rw [sumR_perm hp]; exact hb, _, hp.mem_iff.2 (hp2.mem_iff.2 (by simp)), hm⟩ h
  | step hb hm hp1 hmin t ih =>
    rename_i l l' g m
    intro l2 g2 h2 hp hk
    cases h2 with
    | stop h => exact absurd ⟨by rw [← sumR_perm hp]; exact hb, _, hp.mem_iff.1 (hp1.mem_iff.2 (by simp)), hm⟩ h
    | step hb2 hm2 hp2 hmin2 t2 =>
      rename_i l2' g2' m2
      have hml : m ∈ l := hp1.mem_iff.2 (by simp)
      have hm2l : m2 ∈ l := hp.mem_iff.2 (hp2.mem_iff.2 (by simp))
      have e1 := hmin m2 hm2l hm2
      have e2 := hmin2 m (hp.mem_iff.1 hml) hm
      have tie := lt_tie e1 e2
      have e : m = m2 := hk m hml m2 hm2l tie.1.symm tie.2.symm
      subst e
      have hp' : l'.Perm l2' := ((hp1.symm.trans hp).trans hp2).cons_inv
      rw [ih t2 hp' fun x hx y hy => hk x (hp1.mem_iff.2 (by simp [hx])) y (hp1.mem_iff.2 (by simp [hy]))]

theorem sumR_rows (f : Vm.Id → Ky) (cl : Vm.Id → Bool) (L : List Vm.Id) : sumR (rowsOf f cl L) = sumL f L := by
  simp [sumR, rowsOf, sumL, Function.comp_def]

theorem ok_drop {H : List Vm.Id} {f : Vm.Id → Ky} (h : Ok ltK f H.length H) (x : Vm.Id) : Ok ltK f (dropH f H x).length (dropH f H x) := by
  unfold dropH
  cases hs : slotOf H x with
  | none => exact h
  | some k =>
    obtain ⟨h1, _⟩ := slot_some hs
    have hc := cut_ok ordK h h1
    have hl : (cutL ltK f H k).length = H.length := (cutL_perm h1).length_eq
    intro i i0 hi
    have hi' : i < H.length - 1 := by simpa [hl] using hi
    rw [at_drop (by rw [hl]; exact hi'), at_drop (by rw [hl]; omega)]
    exact hc i i0 hi'

theorem evS_goes (bud : Int) (f : Vm.Id → Ky) (cl : Vm.Id → Bool) : ∀ (n : Nat) (L H : List Vm.Id), L.length ≤ n → L.Nodup → H.Nodup → (∀ x ∈ H, x ∈ L) → (∀ x ∈ L, ∀ y ∈ L, (f x).v = (f y).v → (f x).u = (f y).u → x = y) →
    (∀ x ∈ L, x ∈ H ↔ cl x = true) → Ok ltK f H.length H → Goes bud (rowsOf f cl L) (rowsOf f cl (evS bud f n L H).1) := by
  intro n
  have stop : ∀ (L H : List Vm.Id), (∀ x ∈ H, x ∈ L) → (∀ x ∈ L, x ∈ H ↔ cl x = true) → ¬ (bud < sumL f L ∧ H ≠ []) → Goes bud (rowsOf f cl L) [] := fun L H sub hcl h => by
    refine .stop fun ⟨h1, r, hr, hc⟩ => h ⟨by rw [sumR_rows] at h1; exact h1, fun e => ?_⟩
    simp only [rowsOf, List.mem_map] at hr
    obtain ⟨x, hx, rfl⟩ := hr
    have := (hcl x hx).2 hc
    rw [e] at this; simp at this
  induction n with
  | zero =>
    intro L H hL ndL ndH sub key hcl ok
    have h0 : L = [] := List.length_eq_zero_iff.1 (by omega)
    have hH : H = [] := by
      cases H with
      | nil => rfl
      | cons y H => have := sub y (by simp); rw [h0] at this; simp at this
    exact stop L H sub hcl (fun h => h.2 hH)
  | succ n ih =>
    intro L H hL ndL ndH sub key hcl ok
    unfold evS
    by_cases hb : bud < sumL f L ∧ H ≠ []
    · rw [if_pos hb]
      have h0 : 0 < H.length := List.length_pos_iff.2 hb.2
      have hx := at_mem h0
      have hleast := top_least ordK ok
      generalize at_ H 0 = x at *
      cases hp : posOf (kf f) L (f x).v (f x).u with
      | none => exact absurd ⟨rfl, rfl⟩ (posOf_none (kf f) hp x (sub x hx))
      | some j =>
        obtain ⟨hj, h1, h2⟩ := posOf_some (kf f) hp
        have hjx : at_ L j = x := by rw [at_get hj]; exact key _ (List.getElem_mem hj) x (sub x hx) h1 h2
        have hm := fun y => mem_erase ndL hj y
        rw [hjx] at hm
        obtain ⟨dm, dn⟩ := drop_mem ndH f x
        have hll : (L.eraseIdx j).length ≤ n := by rw [List.length_eraseIdx_of_lt hj]; omega
        have G := ih (L.eraseIdx j) (dropH f H x) hll (ndL.sublist (List.eraseIdx_sublist _ _)) dn (fun y hy => (hm y).2 ⟨sub y ((dm y).1 hy).1, ((dm y).1 hy).2⟩) (fun a ha b hb => key a ((hm a).1 ha).1 b ((hm b).1 hb).1)
          (fun y hy => by rw [dm, hcl y ((hm y).1 hy).1]; exact ⟨fun h => h.1, fun h => ⟨h, ((hm y).1 hy).2⟩⟩) (ok_drop ok x)
        have hperm : (rowsOf f cl L).Perm (⟨f x, cl x⟩ :: rowsOf f cl (L.eraseIdx j)) := by
          have hpl : L.Perm (x :: L.eraseIdx j) := by
            rw [← hjx, at_get hj]
            exact perm_erase hj
          exact hpl.map _
        refine .step (by rw [sumR_rows]; exact hb.1) ((hcl x (sub x hx)).1 hx) hperm (fun y hy hc => ?_) G
        simp only [rowsOf, List.mem_map] at hy
        obtain ⟨z, hz, rfl⟩ := hy
        have hzH := (hcl z hz).2 hc
        obtain ⟨k, hk, e⟩ := List.getElem_of_mem hzH
        have := hleast k hk
        rw [at_get hk, e] at this
        exact this
    · rw [if_neg hb]
      exact stop L H sub hcl hb

theorem kd_rows {f : Vm.Id → Ky} {cl : Vm.Id → Bool} {L : List Vm.Id} (key : ∀ x ∈ L, ∀ y ∈ L, (f x).v = (f y).v → (f x).u = (f y).u → x = y) : Kd (rowsOf f cl L) := by
  intro a ha b hb h1 h2
  simp only [rowsOf, List.mem_map] at ha hb
  obtain ⟨x, hx, rfl⟩ := ha
  obtain ⟨y, hy, rfl⟩ := hb
  rw [key x hx y hy h1 h2]

/-- What is told of those that go. -/
def gcR (g : List Rw) : List AV := g.flatMap fun r => [.int .u32 r.k.v, .int .u32 r.k.u]
theorem gc_rows (f : Vm.Id → Ky) (cl : Vm.Id → Bool) (G : List Vm.Id) : gc f G = gcR (rowsOf f cl G) := by
  simp [gc, gcR, rowsOf, List.flatMap_map]

theorem went_sum {bud : Int} {f : Vm.Id → Ky} {L H G L' H' : List Vm.Id} (W : Went bud f L H G L' H') (ndL : L.Nodup) (ndL' : L'.Nodup) (sub : ∀ x ∈ H, x ∈ L) : sumL f L' + sumL f G = sumL f L := by
  have hp : (L' ++ G).Perm L := by
    rw [List.perm_ext_iff_of_nodup (List.nodup_append.2 ⟨ndL', W.nd, fun x hx y hy e => ((W.left x).1 hx).2 (e ▸ hy)⟩) ndL]
    intro x
    rw [List.mem_append, W.left]
    by_cases h : x ∈ G
    · exact ⟨fun _ => sub x (W.sub x h), fun hx => .inr h⟩
    · exact ⟨fun e => e.elim (fun e => e.1) (fun e => absurd e h), fun hx => .inl ⟨hx, h⟩⟩
  have := perm_sum (hp.map fun x => (f x).sz)
  simpa [sumL] using this
/-
  THE SHELF's laws: two lists of names held against each other; lists that grow.
-/

theorem sq77_6 : drawSeq (tab hsS) d77_6 = true := rfl

theorem gcR_len : ∀ g : List Rw, (gcR g).length = g.length * 2
  | [] => rfl
  | x :: g => by have := gcR_len g; simp only [gcR, List.flatMap_cons, List.length_append, List.length_cons, List.length_nil] at this ⊢; omega
theorem gcR_at : ∀ {g : List Rw} {i : Nat} {x : Rw}, g[i]? = some x → ((gcR g).drop (i * 2)).take 2 = [.int .u32 x.k.v, .int .u32 x.k.u]
  | y :: g, 0, x, hx => by
    simp only [List.getElem?_cons_zero, Option.some.injEq] at hx; subst hx
    rw [gcR, List.flatMap_cons, Nat.zero_mul, List.drop_zero]
    exact List.take_left' rfl
  | y :: g, i + 1, x, hx => by
    rw [gcR, List.flatMap_cons, Nat.add_mul, Nat.one_mul, Nat.add_comm, ← List.drop_drop]
    show List.take 2 (List.drop (i * 2) (gcR g)) = _
    exact gcR_at (g := g) (by simpa using hx)

theorem eq78 (v u : Int) (σ : St) : ev (tab hsS) 78 [.agg [.int .u32 v, .int .u32 u], .agg [.int .u32 v, .int .u32 u]] σ = some (.bool true, σ) := by
  refine pure_ev (tab78 hsS) (snaps_cons (y := .agg [.int .u32 v, .int .u32 u]) rfl (snaps_cons (y := .agg [.int .u32 v, .int .u32 u]) rfl (snaps_nil _))) ?_
  have hz : ∀ s : St, newCells s [.int .u32 v, .int .u32 u] = some (⟨s.next, 0, 0⟩, s.new [.int .u32 v, .int .u32 u]) := fun s => newCells_ok rfl
  have he : eqv KT (.agg [.int .u32 v, .int .u32 u]) (.agg [.int .u32 v, .int .u32 u]) = some true := by
    have := eqv_kx v u v u
    simpa [kx] using this
  have g1 : ((emptySt.new [.int .u32 v, .int .u32 u]).new [.int .u32 v, .int .u32 u]).get ⟨0, 0, 0⟩ = some [.int .u32 v, .int .u32 u] := by
    rw [new_get (by show 0 < 0 + 1; omega), get_new]; exact if_pos rfl
  have g2 : ((emptySt.new [.int .u32 v, .int .u32 u]).new [.int .u32 v, .int .u32 u]).get ⟨1, 0, 0⟩ = some [.int .u32 v, .int .u32 u] := by
    rw [get_new]; exact if_pos rfl
  simp (disch := first | omega | (simp only [rkl]; omega)) only [rk1, rk2, rk3, rk4, rk5, Arg.get, ret1, AV.cells, AV.isCell, addOff, minmaxL, Cap.room, Cap.cut, cutI, isSt, resultOf, Function.comp_apply, Function.comp_def, beq_self_eq_true, if_true, if_false, ite_true, ite_false, reduceCtorEq, bne_self_eq_false, Option.some.injEq, Prod.mk.injEq, ↓reduceIte, Nat.reduceEqDiff, Nat.reduceAdd, Nat.reduceMul, Nat.reduceSub, Nat.reduceLeDiff, Nat.reduceLT, Int.reduceLT, Int.reduceLE, Int.reduceEq, Int.reduceAdd, Int.reduceSub, Int.reduceNeg, Int.reduceToNat, List.mapM_cons, List.mapM_nil, Option.pure_def, Option.bind_eq_bind, eq_self, decide_true, decide_false, code78, p78_1, p78_2, hz, g1, g2, he]

section
variable {g : List Rw} {fa fb : Bool}
theorem same77_loop (hl : g.length < 2 ^ 40) : ∀ (m i : Nat), i + m = g.length → ∀ {ρ : Env} {s : St}, ρ 0 = .isl fa (gcR g) g.length none → ρ 1 = .isl fb (gcR g) g.length none → ρ 2 = .func (.func 78) [] [] → ρ 7 = .int .i64 i →
    ∃ ρ', run (tab hsS) (.loop l77_9) ρ s = some (.exit 0, ρ', s)
  | 0, i, him, ρ, s, r0, r1, r2, r7 => by
    have hi : i = g.length := by omega
    subst hi
    rw [run_loop]
    simp (disch := first | omega | (simp only [rkl]; omega)) only [rk1, rk2, rk3, rk4, rk5, Arg.get, ret1, AV.cells, AV.isCell, addOff, minmaxL, Cap.room, Cap.cut, cutI, isSt, resultOf, Function.comp_apply, Function.comp_def, beq_self_eq_true, if_true, if_false, ite_true, ite_false, reduceCtorEq, bne_self_eq_false, Option.some.injEq, Prod.mk.injEq, ↓reduceIte, Nat.reduceEqDiff, Nat.reduceAdd, Nat.reduceMul, Nat.reduceSub, Nat.reduceLeDiff, Nat.reduceLT, Int.reduceLT, Int.reduceLE, Int.reduceEq, Int.reduceAdd, Int.reduceSub, Int.reduceNeg, Int.reduceToNat, List.mapM_cons, List.mapM_nil, Option.pure_def, Option.bind_eq_bind, eq_self, decide_true, decide_false, l77_9, p77_5, r0, r7]
    exact ⟨_, rfl⟩
  | m + 1, i, him, ρ, s, r0, r1, r2, r7 => by
    have hi : i < g.length := by omega
    have hx := List.getElem?_eq_getElem hi
    have hat := gcR_at hx
    generalize g[i] = x at hx hat
    have hm2 : (i + 1) * 2 ≤ g.length * 2 := Nat.mul_le_mul_right _ hi
    have hpt : Vm.part true 2 (i * 2) (gcR g) = some (.agg [.int .u32 x.k.v, .int .u32 x.k.u]) := by rw [part_t (by rw [gcR_len]; omega), hat]
    have hep : ∀ b : Bool, elemPtr 2 i (.isl b (gcR g) g.length none) = some (.iptr b (gcR g) (i * 2)) := fun b => elemPtr_isl hi (by rw [gcR_len]; omega)
    have him2 : (i : Int) < (g.length : Int) := by omega
    have hround : ∃ ρ1, run (tab hsS) l77_9 ρ s = some (.normal, ρ1, s) ∧ ρ1 0 = ρ 0 ∧ ρ1 1 = ρ 1 ∧ ρ1 2 = ρ 2 ∧ ρ1 7 = .int .i64 (i + 1 : Nat) := by
      simp (disch := first | omega | (simp only [rkl]; omega)) only [rk1, rk2, rk3, rk4, rk5, Arg.get, ret1, AV.cells, AV.isCell, addOff, minmaxL, Cap.room, Cap.cut, cutI, isSt, resultOf, Function.comp_apply, Function.comp_def, beq_self_eq_true, if_true, if_false, ite_true, ite_false, reduceCtorEq, bne_self_eq_false, Option.some.injEq, Prod.mk.injEq, ↓reduceIte, Nat.reduceEqDiff, Nat.reduceAdd, Nat.reduceMul, Nat.reduceSub, Nat.reduceLeDiff, Nat.reduceLT, Int.reduceLT, Int.reduceLE, Int.reduceEq, Int.reduceAdd, Int.reduceSub, Int.reduceNeg, Int.reduceToNat, List.mapM_cons, List.mapM_nil, Option.pure_def, Option.bind_eq_bind, eq_self, decide_true, decide_false, l77_9, p77_5, him2, r0, r1, r2, r7]
      rw [drawn sq77_6]
      simp (disch := first | omega | (simp only [rkl]; omega)) only [rk1, rk2, rk3, rk4, rk5, Arg.get, ret1, AV.cells, AV.isCell, addOff, minmaxL, Cap.room, Cap.cut, cutI, isSt, resultOf, Function.comp_apply, Function.comp_def, beq_self_eq_true, if_true, if_false, ite_true, ite_false, reduceCtorEq, bne_self_eq_false, Option.some.injEq, Prod.mk.injEq, ↓reduceIte, Nat.reduceEqDiff, Nat.reduceAdd, Nat.reduceMul, Nat.reduceSub, Nat.reduceLeDiff, Nat.reduceLT, Int.reduceLT, Int.reduceLE, Int.reduceEq, Int.reduceAdd, Int.reduceSub, Int.reduceNeg, Int.reduceToNat, List.mapM_cons, List.mapM_nil, Option.pure_def, Option.bind_eq_bind, eq_self, decide_true, decide_false, d77_6, p77_8, r0, r1, r2, r7, hep, hpt, eq78]
      exact ⟨_, rfl, by simp (disch := first | omega | (simp only [rkl]; omega)) only [rk1, rk2, rk3, rk4, rk5, Arg.get, ret1, AV.cells, AV.isCell, addOff, minmaxL, Cap.room, Cap.cut, cutI, isSt, resultOf, Function.comp_apply, Function.comp_def, beq_self_eq_true, if_true, if_false, ite_true, ite_false, reduceCtorEq, bne_self_eq_false, Option.some.injEq, Prod.mk.injEq, ↓reduceIte, Nat.reduceEqDiff, Nat.reduceAdd, Nat.reduceMul, Nat.reduceSub, Nat.reduceLeDiff, Nat.reduceLT, Int.reduceLT, Int.reduceLE, Int.reduceEq, Int.reduceAdd, Int.reduceSub, Int.reduceNeg, Int.reduceToNat, List.mapM_cons, List.mapM_nil, Option.pure_def, Option.bind_eq_bind, eq_self, decide_true, decide_false, r0], by simp (disch := first | omega | (simp only [rkl]; omega)) only [rk1, rk2, rk3, rk4, rk5, Arg.get, ret1, AV.cells, AV.isCell, addOff, minmaxL, Cap.room, Cap.cut, cutI, isSt, resultOf, Function.comp_apply, Function.comp_def, beq_self_eq_true, if_true, if_false, ite_true, ite_false, reduceCtorEq, bne_self_eq_false, Option.some.injEq, Prod.mk.injEq, ↓reduceIte, Nat.reduceEqDiff, Nat.reduceAdd, Nat.reduceMul, Nat.reduceSub, Nat.reduceLeDiff, Nat.reduceLT, Int.reduceLT, Int.reduceLE, Int.reduceEq, Int.reduceAdd, Int.reduceSub, Int.reduceNeg, Int.reduceToNat, List.mapM_cons, List.mapM_nil, Option.pure_def, Option.bind_eq_bind, eq_self, decide_true, decide_false, r1], by simp (disch := first | omega | (simp only [rkl]; omega)) only [rk1, rk2, rk3, rk4, rk5, Arg.get, ret1, AV.cells, AV.isCell, addOff, minmaxL, Cap.room, Cap.cut, cutI, isSt, resultOf, Function.comp_apply, Function.comp_def, beq_self_eq_true, if_true, if_false, ite_true, ite_false, reduceCtorEq, bne_self_eq_false, Option.some.injEq, Prod.mk.injEq, ↓reduceIte, Nat.reduceEqDiff, Nat.reduceAdd, Nat.reduceMul, Nat.reduceSub, Nat.reduceLeDiff, Nat.reduceLT, Int.reduceLT, Int.reduceLE, Int.reduceEq, Int.reduceAdd, Int.reduceSub, Int.reduceNeg, Int.reduceToNat, List.mapM_cons, List.mapM_nil, Option.pure_def, Option.bind_eq_bind, eq_self, decide_true, decide_false, r2], by simp (disch := first | omega | (simp only [rkl]; omega)) only [rk1, rk2, rk3, rk4, rk5, Arg.get, ret1, AV.cells, AV.isCell, addOff, minmaxL, Cap.room, Cap.cut, cutI, isSt, resultOf, Function.comp_apply, Function.comp_def, beq_self_eq_true, if_true, if_false, ite_true, ite_false, reduceCtorEq, bne_self_eq_false, Option.some.injEq, Prod.mk.injEq, ↓reduceIte, Nat.reduceEqDiff, Nat.reduceAdd, Nat.reduceMul, Nat.reduceSub, Nat.reduceLeDiff, Nat.reduceLT, Int.reduceLT, Int.reduceLE, Int.reduceEq, Int.reduceAdd, Int.reduceSub, Int.reduceNeg, Int.reduceToNat, List.mapM_cons, List.mapM_nil, Option.pure_def, Option.bind_eq_bind, eq_self, decide_true, decide_false, Int.natCast_add, Int.cast_ofNat_Int]⟩
    obtain ⟨ρ1, e1, q0, q1, q2, q7⟩ := hround
    obtain ⟨ρ2, e2⟩ := same77_loop hl m (i + 1) (by omega) (q0.trans r0) (q1.trans r1) (q2.trans r2) q7 (s := s)
    rw [run_loop, e1]
    exact ⟨ρ2, by simp (disch := first | omega | (simp only [rkl]; omega)) only [rk1, rk2, rk3, rk4, rk5, Arg.get, ret1, AV.cells, AV.isCell, addOff, minmaxL, Cap.room, Cap.cut, cutI, isSt, resultOf, Function.comp_apply, Function.comp_def, beq_self_eq_true, if_true, if_false, ite_true, ite_false, reduceCtorEq, bne_self_eq_false, Option.some.injEq, Prod.mk.injEq, ↓reduceIte, Nat.reduceEqDiff, Nat.reduceAdd, Nat.reduceMul, Nat.reduceSub, Nat.reduceLeDiff, Nat.reduceLT, Int.reduceLT, Int.reduceLE, Int.reduceEq, Int.reduceAdd, Int.reduceSub, Int.reduceNeg, Int.reduceToNat, List.mapM_cons, List.mapM_nil, Option.pure_def, Option.bind_eq_bind, eq_self, decide_true, decide_false]; exact e2⟩

theorem same77 (hl : g.length < 2 ^ 40) {h : Hint} : pureOf (run (tab hsS)) ⟨30, 3, code77, [.tmp 6], h⟩ [.isl fa (gcR g) g.length none, .isl fb (gcR g) g.length none, .func (.func 78) [] []] = some (.bool true) := by
  have key : ∀ (ρ : Env) r, run (tab hsS) (.loop l77_9) ρ emptySt = r → ρ 0 = .isl fa (gcR g) g.length none → ρ 1 = .isl fb (gcR g) g.length none → ρ 2 = .func (.func 78) [] [] → ρ 7 = .int .i64 0 → ∃ ρ', r = some (.exit 0, ρ', emptySt) := by
    intro ρ r hr r0 r1 r2 r7
    obtain ⟨ρ', h⟩ := same77_loop hl g.length 0 (by omega) r0 r1 r2 r7 (s := emptySt)
    exact ⟨ρ', hr ▸ h⟩
  simp (disch := first | omega | (simp only [rkl]; omega)) only [rk1, rk2, rk3, rk4, rk5, Arg.get, ret1, AV.cells, AV.isCell, addOff, minmaxL, Cap.room, Cap.cut, cutI, isSt, resultOf, Function.comp_apply, Function.comp_def, beq_self_eq_true, if_true, if_false, ite_true, ite_false, reduceCtorEq, bne_self_eq_false, Option.some.injEq, Prod.mk.injEq, ↓reduceIte, Nat.reduceEqDiff, Nat.reduceAdd, Nat.reduceMul, Nat.reduceSub, Nat.reduceLeDiff, Nat.reduceLT, Int.reduceLT, Int.reduceLE, Int.reduceEq, Int.reduceAdd, Int.reduceSub, Int.reduceNeg, Int.reduceToNat, List.mapM_cons, List.mapM_nil, Option.pure_def, Option.bind_eq_bind, eq_self, decide_true, decide_false, code77, p77_1, p77_2, p77_3, p77_4]
  generalize hr : run (tab hsS) (.loop l77_9) _ _ = r
  obtain ⟨ρ', rfl⟩ := key _ _ hr (by simp (disch := first | omega | (simp only [rkl]; omega)) only [rk1, rk2, rk3, rk4, rk5, Arg.get, ret1, AV.cells, AV.isCell, addOff, minmaxL, Cap.room, Cap.cut, cutI, isSt, resultOf, Function.comp_apply, Function.comp_def, beq_self_eq_true, if_true, if_false, ite_true, ite_false, reduceCtorEq, bne_self_eq_false, Option.some.injEq, Prod.mk.injEq, ↓reduceIte, Nat.reduceEqDiff, Nat.reduceAdd, Nat.reduceMul, Nat.reduceSub, Nat.reduceLeDiff, Nat.reduceLT, Int.reduceLT, Int.reduceLE, Int.reduceEq, Int.reduceAdd, Int.reduceSub, Int.reduceNeg, Int.reduceToNat, List.mapM_cons, List.mapM_nil, Option.pure_def, Option.bind_eq_bind, eq_self, decide_true, decide_false]) (by simp (disch := first | omega | (simp only [rkl]; omega)) only [rk1, rk2, rk3, rk4, rk5, Arg.get, ret1, AV.cells, AV.isCell, addOff, minmaxL, Cap.room, Cap.cut, cutI, isSt, resultOf, Function.comp_apply, Function.comp_def, beq_self_eq_true, if_true, if_false, ite_true, ite_false, reduceCtorEq, bne_self_eq_false, Option.some.injEq, Prod.mk.injEq, ↓reduceIte, Nat.reduceEqDiff, Nat.reduceAdd, Nat.reduceMul, Nat.reduceSub, Nat.reduceLeDiff, Nat.reduceLT, Int.reduceLT, Int.reduceLE, Int.reduceEq, Int.reduceAdd, Int.reduceSub, Int.reduceNeg, Int.reduceToNat, List.mapM_cons, List.mapM_nil, Option.pure_def, Option.bind_eq_bind, eq_self, decide_true, decide_false]) (by simp (disch := first | omega | (simp only [rkl]; omega)) only [rk1, rk2, rk3, rk4, rk5, Arg.get, ret1, AV.cells, AV.isCell, addOff, minmaxL, Cap.room, Cap.cut, cutI, isSt, resultOf, Function.comp_apply, Function.comp_def, beq_self_eq_true, if_true, if_false, ite_true, ite_false, reduceCtorEq, bne_self_eq_false, Option.some.injEq, Prod.mk.injEq, ↓reduceIte, Nat.reduceEqDiff, Nat.reduceAdd, Nat.reduceMul, Nat.reduceSub, Nat.reduceLeDiff, Nat.reduceLT, Int.reduceLT, Int.reduceLE, Int.reduceEq, Int.reduceAdd, Int.reduceSub, Int.reduceNeg, Int.reduceToNat, List.mapM_cons, List.mapM_nil, Option.pure_def, Option.bind_eq_bind, eq_self, decide_true, decide_false]) (by simp (disch := first | omega | (simp only [rkl]; omega)) only [rk1, rk2, rk3, rk4, rk5, Arg.get, ret1, AV.cells, AV.isCell, addOff, minmaxL, Cap.room, Cap.cut, cutI, isSt, resultOf, Function.comp_apply, Function.comp_def, beq_self_eq_true, if_true, if_false, ite_true, ite_false, reduceCtorEq, bne_self_eq_false, Option.some.injEq, Prod.mk.injEq, ↓reduceIte, Nat.reduceEqDiff, Nat.reduceAdd, Nat.reduceMul, Nat.reduceSub, Nat.reduceLeDiff, Nat.reduceLT, Int.reduceLT, Int.reduceLE, Int.reduceEq, Int.reduceAdd, Int.reduceSub, Int.reduceNeg, Int.reduceToNat, List.mapM_cons, List.mapM_nil, Option.pure_def, Option.bind_eq_bind, eq_self, decide_true, decide_false])
  simp (disch := first | omega | (simp only [rkl]; omega)) only [rk1, rk2, rk3, rk4, rk5, Arg.get, ret1, AV.cells, AV.isCell, addOff, minmaxL, Cap.room, Cap.cut, cutI, isSt, resultOf, Function.comp_apply, Function.comp_def, beq_self_eq_true, if_true, if_false, ite_true, ite_false, reduceCtorEq, bne_self_eq_false, Option.some.injEq, Prod.mk.injEq, ↓reduceIte, Nat.reduceEqDiff, Nat.reduceAdd, Nat.reduceMul, Nat.reduceSub, Nat.reduceLeDiff, Nat.reduceLT, Int.reduceLT, Int.reduceLE, Int.reduceEq, Int.reduceAdd, Int.reduceSub, Int.reduceNeg, Int.reduceToNat, List.mapM_cons, List.mapM_nil, Option.pure_def, Option.bind_eq_bind, eq_self, decide_true, decide_false, p77_10]

theorem plain47 {σ : St} {a b : AV} (ha : snap σ 7 a = some (.isl fa (gcR g) g.length none)) (hb : snap σ 7 b = some (.isl fb (gcR g) g.length none)) (hl : g.length < 2 ^ 40) : ev (tab hsS) 47 [a, b] σ = some (.bool true, σ) := by
  refine pure_ev (tab47 hsS) (snaps_cons ha (snaps_cons hb (snaps_nil _))) ?_
  have h77 : ∀ σ, ev (tab hsS) 77 [.isl fa (gcR g) g.length none, .isl fb (gcR g) g.length none, .func (.func 78) [] []] σ = some (.bool true, σ) := fun σ =>
    pure_ev (tab77 hsS) (snaps_cons rfl (snaps_cons rfl (snaps_cons rfl (snaps_nil _)))) (same77 hl)
  simp (disch := first | omega | (simp only [rkl]; omega)) only [rk1, rk2, rk3, rk4, rk5, Arg.get, ret1, AV.cells, AV.isCell, addOff, minmaxL, Cap.room, Cap.cut, cutI, isSt, resultOf, Function.comp_apply, Function.comp_def, beq_self_eq_true, if_true, if_false, ite_true, ite_false, reduceCtorEq, bne_self_eq_false, Option.some.injEq, Prod.mk.injEq, ↓reduceIte, Nat.reduceEqDiff, Nat.reduceAdd, Nat.reduceMul, Nat.reduceSub, Nat.reduceLeDiff, Nat.reduceLT, Int.reduceLT, Int.reduceLE, Int.reduceEq, Int.reduceAdd, Int.reduceSub, Int.reduceNeg, Int.reduceToNat, List.mapM_cons, List.mapM_nil, Option.pure_def, Option.bind_eq_bind, eq_self, decide_true, decide_false, code47, p47_1, p47_2, h77]
end

theorem gcR_snap (σ : St) (n : Nat) (g : List Rw) : (gcR g).mapM (Vm.snap σ (n + 1)) = some (gcR g) := mapM_id fun y hy => by
  simp only [gcR, List.mem_flatMap] at hy
  obtain ⟨x, _, hy⟩ := hy
  simp at hy
  rcases hy with rfl | rfl <;> rfl

/-- A list of names that is told. -/
theorem outL_snap {σ : St} {f : Vm.Id → Ky} {a : AV} {G : List Vm.Id} (O : OutL σ f a G) (cl : Vm.Id → Bool) {g : List Rw} (hg : rowsOf f cl G = g) : ∃ fl, snap σ 7 a = some (.isl fl (gcR g) g.length none) := by
  have hlen : G.length = g.length := by rw [← hg, rowsOf_len]
  rcases O with ⟨rfl, rfl⟩ | ⟨B, rfl, hB⟩
  · subst hg; exact ⟨false, rfl⟩
  · refine ⟨true, ?_⟩
    rw [gc_rows f cl, hg] at hB
    rw [snap_sl, hB]
    simp only [Option.bind_some, List.drop_zero, Nat.zero_add]
    rw [if_pos (by rw [gcR_len]; omega), List.take_of_length_le (by rw [gcR_len]; omega), gcR_snap, hlen]; rfl

/-- A list that only grows. -/
def LstC (σ : St) (sz : Nat) (a : AV) (n : Nat) (cells : List AV) : Prop := (a = .nilsl ∧ n = 0 ∧ cells = []) ∨ ∃ G : Vm.Id, a = .sl G 0 n (.ge n) sz ∧ σ.get G = some cells ∧ cells.length = n * sz ∧ cells.all AV.isCell = true

theorem LstC.keep {σ σ' : St} {sz n : Nat} {a : AV} {cells : List AV} (h : LstC σ sz a n cells) (hg : ∀ G, refId a = some G → σ'.get G = σ.get G) : LstC σ' sz a n cells := by
  rcases h with h | ⟨G, rfl, h1, h2⟩
  · exact .inl h
  · exact .inr ⟨G, rfl, (hg G rfl).trans h1, h2⟩
theorem LstC.len {σ : St} {sz n : Nat} {a : AV} {cells : List AV} (h : LstC σ sz a n cells) (s : St) : lenIn s .sl a = some n := by
  rcases h with ⟨rfl, rfl, _⟩ | ⟨G, rfl, _⟩ <;> rfl

theorem app_lst {s : St} {sz bytes n : Nat} {a : AV} {cells row : List AV} (h : LstC s sz a n cells) (hb : bytes ≤ 1000) (few : n < 2 ^ 30) (hrow : row.length = sz) (hc : row.all AV.isCell = true) :
    ∃ s', appendTo s sz bytes 1 row a = some (.sl ⟨s.next, 0, 0⟩ 0 (n + 1) (.ge (n + 1)) sz, s') ∧ LstC s' sz (.sl ⟨s.next, 0, 0⟩ 0 (n + 1) (.ge (n + 1)) sz) (n + 1) (cells ++ row) ∧ s'.next = s.next + 1 ∧ s'.ver = s.ver ∧ (∀ q, q.o < s.next → refId a ≠ some q → s'.heap q = s.heap q) := by
  rcases h with ⟨rfl, rfl, rfl⟩ | ⟨G, rfl, hg, hl, hcc⟩
  · refine ⟨s.new row, ?_, .inr ⟨_, rfl, by rw [get_new, if_pos rfl]; rfl, by simp [hrow], by simpa using hc⟩, rfl, rfl, fun q hq _ => (Frm.new s _ (fun _ => False)).heap q hq (fun h => h)⟩
    have hgm : 1 * bytes ≤ growMax := by have : growMax = 2 ^ 48 := rfl; omega
    rw [append_nil' (by omega) hgm hc]
  · have hmx : (n + 1) * bytes ≤ lenMax := by
      have : lenMax = 2 ^ 46 := rfl
      have := Nat.mul_le_mul (show n + 1 ≤ 2 ^ 30 by omega) hb
      omega
    have hcr : (cells ++ row).all AV.isCell = true := by rw [List.all_append, hcc, hc]; rfl
    refine ⟨(s.set G none).new (cells ++ row), ?_, .inr ⟨_, rfl, by rw [get_new]; exact if_pos rfl, by rw [List.length_append, hl, hrow, Nat.add_mul, Nat.one_mul], hcr⟩, rfl, rfl, fun q hq hne => ?_⟩
    · simp only [appendTo, hg, Cap.room]
      rw [if_neg (by simp), if_neg (by omega), if_pos ⟨by omega, hmx⟩]
      have e : List.take (n * sz) (List.drop 0 cells) ++ row = cells ++ row := by rw [List.drop_zero, List.take_of_length_le (by omega)]
      rw [e, newCells_ok hcr]
      rfl
    · have e1 : q ≠ G := fun e => hne (by simp [refId, e])
      have e2 : ¬ (q = ⟨s.next, 0, 0⟩) := fun e => by subst e; simp at hq
      simp [St.new, St.set, e1, e2]
/-
  ShelfOrder: the first shelf is filled.
-/

def rwOf (x : Sc) : Rw := ⟨⟨x.v, x.u, x.sz, x.us⟩, x.c⟩

/-- A shelf whose heap is one, with a mark on what is clean. -/
structure Shf (σ : St) (S M : Vm.Id) (bud : Int) (L H : List Vm.Id) (f : Vm.Id → Ky) (cl : Vm.Id → Bool) (cc : AV) : Prop where
  R : Rep σ S M bud L H f cc
  ok : Ok ltK f H.length H
  hcl : ∀ x ∈ L, x ∈ H ↔ cl x = true

theorem ok_cong {f g : Vm.Id → Ky} {H : List Vm.Id} (h : Ok ltK f H.length H) (e : ∀ x ∈ H, f x = g x) : Ok ltK g H.length H := fun k k0 hk => by
  rw [← e _ (at_mem hk), ← e _ (at_mem (show (k - 1) / 2 < H.length by omega))]
  exact h k k0 hk

theorem Shf.frm {σ σ' : St} {S M : Vm.Id} {bud : Int} {L H : List Vm.Id} {f : Vm.Id → Ky} {cl : Vm.Id → Bool} {cc : AV} (A : Shf σ S M bud L H f cl cc) {F : Vm.Id → Prop} (h : Frm σ σ' F) (hF : ∀ q, Fp S M L cc q → ¬ F q) : Shf σ' S M bud L H f cl cc := ⟨A.R.frm h hF, A.ok, A.hcl⟩

/-- Put, on such a shelf. -/
theorem Shf.put {σ : St} {S M : Vm.Id} {bud : Int} {L H : List Vm.Id} {f : Vm.Id → Ky} {cl : Vm.Id → Bool} {cc : AV} (A : Shf σ S M bud L H f cl cc) {v u sz us : Int} {c : Bool} (hsz : 0 ≤ sz ∧ sz ≤ 1048576) (hp : posOf (kf f) L v u = none) (hL : L.length < 65536) :
    ∃ σ' X H' f' cl' cc', ev (tab hsS) 42 [.ptr S 0, .agg [.int .u32 v, .int .u32 u], .int .i64 sz, .int .i64 us, .bool c] σ = some (.int .i64 0, σ') ∧ Shf σ' S M bud (L ++ [X]) H' f' cl' cc' ∧ rowsOf f' cl' (L ++ [X]) = rowsOf f cl L ++ [⟨⟨v, u, sz, us⟩, c⟩] ∧
      Frm σ σ' (Fp S M L cc) ∧ (∀ q, Fp S M (L ++ [X]) cc' q → Fp S M L cc q ∨ σ.next ≤ q.o) := by
  obtain ⟨σ1, X, cc1, e1, R1, f1, XL, lX, hw⟩ := put_ok A.R hsz hp us c hL
  have XH : X ∉ H := fun e => XL (A.R.sub X e)
  let f' := upd f X ⟨v, u, sz, us⟩
  let cl' : Vm.Id → Bool := fun z => if z = X then c else cl z
  have hf : ∀ y ∈ L, f' y = f y := fun y hy => upd_other (fun e => XL (e ▸ hy))
  have hrows : rowsOf f' cl' (L ++ [X]) = rowsOf f cl L ++ [⟨⟨v, u, sz, us⟩, c⟩] := by
    have : rowsOf f cl L = rowsOf f' cl' L := rowsOf_cong fun y hy => ⟨(hf y hy).symm, by
      have : y ≠ X := fun e => XL (e ▸ hy)
      simp [cl', this]⟩
    rw [this]; simp [rowsOf, f', cl', upd_same]
  have hup := upL_perm (lt := ltK) (f := f') H.length (H := H ++ [X]) (by simp)
  have okf : Ok ltK f' H.length H := ok_cong A.ok fun x hx => (hf x (A.R.sub x hx)).symm
  refine ⟨σ1, X, _, f', cl', cc1, e1, ⟨R1, ?_, fun y hy => ?_⟩, hrows, f1, hw⟩
  · cases c with
    | false => exact okf
    | true =>
      have := push_ok ordK (x := X) okf
      simp only [if_true]
      have hl : (upL ltK f' (H ++ [X]) H.length).length = H.length + 1 := by rw [hup.length_eq]; simp
      show Ok ltK f' (upL ltK f' (H ++ [X]) H.length).length (upL ltK f' (H ++ [X]) H.length)
      rw [hl]; exact this
  · rcases List.mem_append.1 hy with hy | hy
    · have hne : y ≠ X := fun e => XL (e ▸ hy)
      have : cl' y = cl y := by simp [cl', hne]
      rw [this, ← A.hcl y hy]
      split
      · rw [hup.mem_iff]; simp [hne]
      · rfl
    · have hyX : y = X := by simpa using hy
      subst hyX
      have : cl' y = c := by simp [cl']
      rw [this]
      split
      · rename_i h; rw [hup.mem_iff]; simp [h]
      · rename_i h; simp [h, XH]

structure Inv8 (ρ : Env) (σ : St) (S1 M1 S2 M2 : Vm.Id) (bud turn : Int) (i : Nat) (l ms : List Sc) (L H : List Vm.Id) (f : Vm.Id → Ky) (cl : Vm.Id → Bool) (cc a : AV) (f2 : Vm.Id → Ky) : Prop where
  A : Shf σ S1 M1 bud L H f cl cc
  B : Rep σ S2 M2 bud [] [] f2 .nilsl
  dj : ∀ q, Fp S1 M1 L cc q → ¬ Fp S2 M2 [] .nilsl q
  rows : rowsOf f cl L = ms.map rwOf
  szs : ∀ x ∈ ms, 0 ≤ x.sz ∧ x.sz ≤ 1048576
  O : LstC σ 6 a ms.length (scs ms)
  la : ∀ G, refId a = some G → G.o < σ.next ∧ ¬ Fp S1 M1 L cc G ∧ ¬ Fp S2 M2 [] .nilsl G
  r1 : ρ 1 = .int .i64 turn
  r2 : ρ 2 = .isl false (scs l) l.length none
  r7 : ρ 7 = .ptr S1 0
  r9 : ρ 9 = .ptr S2 0
  r11 : ρ 11 = a
  r12 : ρ 12 = .int .i64 i
  few : ms.length ≤ i

def Next8 (S1 M1 S2 M2 : Vm.Id) (bud turn : Int) (i : Nat) (l : List Sc) (f2 : Vm.Id → Ky) (r : Option (Ex × Env × St)) : Prop := ∃ ρ σ ms L H f cl cc a, r = some (.normal, ρ, σ) ∧ Inv8 ρ σ S1 M1 S2 M2 bud turn i l ms L H f cl cc a f2
theorem next8_mk {ρ : Env} {σ : St} {S1 M1 S2 M2 : Vm.Id} {bud turn : Int} {i : Nat} {l ms : List Sc} {L H : List Vm.Id} {f : Vm.Id → Ky} {cl : Vm.Id → Bool} {cc a : AV} {f2 : Vm.Id → Ky} (h : Inv8 ρ σ S1 M1 S2 M2 bud turn i l ms L H f cl cc a f2) : Next8 S1 M1 S2 M2 bud turn i l f2 (some (.normal, ρ, σ)) :=
  ⟨_, _, _, _, _, _, _, _, _, rfl, h⟩

theorem sc_fill (x : Sc) : fillV [.int .i64 0, .int .u32 0, .int .u32 0, .int .i64 0, .int .i64 0, .bool false] [(0, 6, scc x)] = some (scc x) := rfl
theorem scs_app (a b : List Sc) : scs (a ++ b) = scs a ++ scs b := by simp [scs]

theorem round8 {ρ : Env} {σ : St} {S1 M1 S2 M2 : Vm.Id} {bud turn : Int} {i : Nat} {l ms : List Sc} {L H : List Vm.Id} {f : Vm.Id → Ky} {cl : Vm.Id → Bool} {cc a : AV} {f2 : Vm.Id → Ky} (I : Inv8 ρ σ S1 M1 S2 M2 bud turn i l ms L H f cl cc a f2) (hi : i < l.length) (hi2 : i < 60) :
    Next8 S1 M1 S2 M2 bud turn (i + 1) l f2 (run (tab hsS) l8_15 ρ σ) := by
  have hx : l[i]? = some l[i] := List.getElem?_eq_getElem hi
  have hat := scs_at hx
  generalize l[i] = x at hx hat
  have hsl := scs_len l
  have hm : (i + 1) * 6 ≤ l.length * 6 := Nat.mul_le_mul_right _ hi
  have hpt : Vm.part true 6 (i * 6) (scs l) = some (.agg (scc x)) := by rw [part_t (by omega), hat]
  have hep : elemPtr 6 i (.isl false (scs l) l.length none) = some (.iptr false (scs l) (i * 6)) := elemPtr_isl hi (by omega)
  have hz : newCells σ [.int .i64 0, .int .u32 0, .int .u32 0, .int .i64 0, .int .i64 0, .bool false] = some (⟨σ.next, 0, 0⟩, σ.new [.int .i64 0, .int .u32 0, .int .u32 0, .int .i64 0, .int .i64 0, .bool false]) := newCells_ok rfl
  have hst : storeAt (σ.new [.int .i64 0, .int .u32 0, .int .u32 0, .int .i64 0, .int .i64 0, .bool false]) 6 (.ptr ⟨σ.next, 0, 0⟩ 0) (.agg (scc x)) = some (σ.new (scc x)) := new_store rfl rfl rfl
  have hg0 : (σ.new (scc x)).get ⟨σ.next, 0, 0⟩ = some (scc x) := by rw [get_new, if_pos rfl]
  have hp3 : Vm.part false 1 3 (scc x) = some (.int .i64 x.sz) := rfl
  obtain ⟨t, ht, hw⟩ := mod_small x.sz 200 (by omega) (by omega)
  have hw : IntKind.i64.wrap ((IntKind.u64.wrap x.sz).tmod 200) = t := hw
  have hst2 : storeAt (σ.new (scc x)) 1 (.ptr ⟨σ.next, 0, 0⟩ 3) (.int .i64 t) = some ((σ.new (scc x)).set ⟨σ.next, 0, 0⟩ (some (.cells (scc ⟨x.kind, x.v, x.u, t, x.us, x.c⟩)))) := by rw [store_one hg0 (by simp [scc]) (by simp) rfl]; rfl
  have hg : ((σ.new (scc x)).set ⟨σ.next, 0, 0⟩ (some (.cells (scc ⟨x.kind, x.v, x.u, t, x.us, x.c⟩)))).get ⟨σ.next, 0, 0⟩ = some (scc ⟨x.kind, x.v, x.u, t, x.us, x.c⟩) := get_set_same _ _ _
  have f1 : Frm σ ((σ.new (scc x)).set ⟨σ.next, 0, 0⟩ (some (.cells (scc ⟨x.kind, x.v, x.u, t, x.us, x.c⟩)))) (fun _ => False) := ⟨by show σ.next ≤ σ.next + 1; omega, rfl, fun q hq _ => by
    have e : ¬ (q = ⟨σ.next, 0, 0⟩) := fun e => by subst e; simp at hq
    simp [St.set, St.new, e]⟩
  have n1 : ((σ.new (scc x)).set ⟨σ.next, 0, 0⟩ (some (.cells (scc ⟨x.kind, x.v, x.u, t, x.us, x.c⟩)))).next = σ.next + 1 := rfl
  have him : (i : Int) < (l.length : Int) := by omega
  have him2 : (i : Int) < 60 := by omega
  have lA := I.A.R.lF
  have lB := I.B.lF
  generalize (σ.new (scc x)).set ⟨σ.next, 0, 0⟩ (some (.cells (scc ⟨x.kind, x.v, x.u, t, x.us, x.c⟩))) = s1 at *
  have A1 := I.A.frm f1 (fun _ _ h => h)
  have B1 := I.B.frm f1 (fun _ _ h => h)
  have O1 := I.O.keep (σ' := s1) fun G hG => f1.get (I.la G hG).1 (fun h => h)
  have hlr : L.length = ms.length := by have := congrArg List.length I.rows; simpa [rowsOf] using this
  have c1 : Vm.part true 2 1 (scc ⟨x.kind, x.v, x.u, t, x.us, x.c⟩) = some (.agg [.int .u32 x.v, .int .u32 x.u]) := rfl
  have c3 : Vm.part false 1 3 (scc ⟨x.kind, x.v, x.u, t, x.us, x.c⟩) = some (.int .i64 t) := rfl
  have c4 : Vm.part false 1 4 (scc ⟨x.kind, x.v, x.u, t, x.us, x.c⟩) = some (.int .i64 x.us) := rfl
  have c5 : Vm.part false 1 5 (scc ⟨x.kind, x.v, x.u, t, x.us, x.c⟩) = some (.bool x.c) := rfl
  have c6 : Vm.part true 6 0 (scc ⟨x.kind, x.v, x.u, t, x.us, x.c⟩) = some (.agg (scc ⟨x.kind, x.v, x.u, t, x.us, x.c⟩)) := rfl
  cases hp : posOf (kf f) L x.v x.u with
  | some j =>
    obtain ⟨s2, e2, f2'⟩ := put_twice A1.R (sz := t) (by omega) hp x.us x.c
    have hn2 := f2'.next
    simp (disch := first | omega | (simp only [rkl]; omega)) only [rk1, rk2, rk3, rk4, rk5, Arg.get, ret1, AV.cells, AV.isCell, addOff, minmaxL, Cap.room, Cap.cut, cutI, isSt, resultOf, Function.comp_apply, Function.comp_def, beq_self_eq_true, if_true, if_false, ite_true, ite_false, reduceCtorEq, bne_self_eq_false, Option.some.injEq, Prod.mk.injEq, ↓reduceIte, Nat.reduceEqDiff, Nat.reduceAdd, Nat.reduceMul, Nat.reduceSub, Nat.reduceLeDiff, Nat.reduceLT, Int.reduceLT, Int.reduceLE, Int.reduceEq, Int.reduceAdd, Int.reduceSub, Int.reduceNeg, Int.reduceToNat, List.mapM_cons, List.mapM_nil, Option.pure_def, Option.bind_eq_bind, eq_self, decide_true, decide_false, l8_15, p8_9, p8_10, p8_11, p8_12, p8_14, I.r2, I.r7, I.r12, him, him2, hep, hpt, hz, hst, hg0, hp3, hw, hst2, hg, c1, c3, c4, c5, e2]
    exact next8_mk ⟨A1.frm f2' (fun _ _ h => h), B1.frm f2' (fun _ _ h => h), I.dj, I.rows, I.szs, O1.keep fun G hG => f2'.get (by have := (I.la G hG).1; omega) (fun h => h), fun G hG => ⟨by have := (I.la G hG).1; omega, (I.la G hG).2⟩,
      by simp (disch := first | omega | (simp only [rkl]; omega)) only [rk1, rk2, rk3, rk4, rk5, Arg.get, ret1, AV.cells, AV.isCell, addOff, minmaxL, Cap.room, Cap.cut, cutI, isSt, resultOf, Function.comp_apply, Function.comp_def, beq_self_eq_true, if_true, if_false, ite_true, ite_false, reduceCtorEq, bne_self_eq_false, Option.some.injEq, Prod.mk.injEq, ↓reduceIte, Nat.reduceEqDiff, Nat.reduceAdd, Nat.reduceMul, Nat.reduceSub, Nat.reduceLeDiff, Nat.reduceLT, Int.reduceLT, Int.reduceLE, Int.reduceEq, Int.reduceAdd, Int.reduceSub, Int.reduceNeg, Int.reduceToNat, List.mapM_cons, List.mapM_nil, Option.pure_def, Option.bind_eq_bind, eq_self, decide_true, decide_false, I.r1], by simp (disch := first | omega | (simp only [rkl]; omega)) only [rk1, rk2, rk3, rk4, rk5, Arg.get, ret1, AV.cells, AV.isCell, addOff, minmaxL, Cap.room, Cap.cut, cutI, isSt, resultOf, Function.comp_apply, Function.comp_def, beq_self_eq_true, if_true, if_false, ite_true, ite_false, reduceCtorEq, bne_self_eq_false, Option.some.injEq, Prod.mk.injEq, ↓reduceIte, Nat.reduceEqDiff, Nat.reduceAdd, Nat.reduceMul, Nat.reduceSub, Nat.reduceLeDiff, Nat.reduceLT, Int.reduceLT, Int.reduceLE, Int.reduceEq, Int.reduceAdd, Int.reduceSub, Int.reduceNeg, Int.reduceToNat, List.mapM_cons, List.mapM_nil, Option.pure_def, Option.bind_eq_bind, eq_self, decide_true, decide_false, I.r2], by simp (disch := first | omega | (simp only [rkl]; omega)) only [rk1, rk2, rk3, rk4, rk5, Arg.get, ret1, AV.cells, AV.isCell, addOff, minmaxL, Cap.room, Cap.cut, cutI, isSt, resultOf, Function.comp_apply, Function.comp_def, beq_self_eq_true, if_true, if_false, ite_true, ite_false, reduceCtorEq, bne_self_eq_false, Option.some.injEq, Prod.mk.injEq, ↓reduceIte, Nat.reduceEqDiff, Nat.reduceAdd, Nat.reduceMul, Nat.reduceSub, Nat.reduceLeDiff, Nat.reduceLT, Int.reduceLT, Int.reduceLE, Int.reduceEq, Int.reduceAdd, Int.reduceSub, Int.reduceNeg, Int.reduceToNat, List.mapM_cons, List.mapM_nil, Option.pure_def, Option.bind_eq_bind, eq_self, decide_true, decide_false, I.r7], by simp (disch := first | omega | (simp only [rkl]; omega)) only [rk1, rk2, rk3, rk4, rk5, Arg.get, ret1, AV.cells, AV.isCell, addOff, minmaxL, Cap.room, Cap.cut, cutI, isSt, resultOf, Function.comp_apply, Function.comp_def, beq_self_eq_true, if_true, if_false, ite_true, ite_false, reduceCtorEq, bne_self_eq_false, Option.some.injEq, Prod.mk.injEq, ↓reduceIte, Nat.reduceEqDiff, Nat.reduceAdd, Nat.reduceMul, Nat.reduceSub, Nat.reduceLeDiff, Nat.reduceLT, Int.reduceLT, Int.reduceLE, Int.reduceEq, Int.reduceAdd, Int.reduceSub, Int.reduceNeg, Int.reduceToNat, List.mapM_cons, List.mapM_nil, Option.pure_def, Option.bind_eq_bind, eq_self, decide_true, decide_false, I.r9], by simp (disch := first | omega | (simp only [rkl]; omega)) only [rk1, rk2, rk3, rk4, rk5, Arg.get, ret1, AV.cells, AV.isCell, addOff, minmaxL, Cap.room, Cap.cut, cutI, isSt, resultOf, Function.comp_apply, Function.comp_def, beq_self_eq_true, if_true, if_false, ite_true, ite_false, reduceCtorEq, bne_self_eq_false, Option.some.injEq, Prod.mk.injEq, ↓reduceIte, Nat.reduceEqDiff, Nat.reduceAdd, Nat.reduceMul, Nat.reduceSub, Nat.reduceLeDiff, Nat.reduceLT, Int.reduceLT, Int.reduceLE, Int.reduceEq, Int.reduceAdd, Int.reduceSub, Int.reduceNeg, Int.reduceToNat, List.mapM_cons, List.mapM_nil, Option.pure_def, Option.bind_eq_bind, eq_self, decide_true, decide_false, I.r11], by simp (disch := first | omega | (simp only [rkl]; omega)) only [rk1, rk2, rk3, rk4, rk5, Arg.get, ret1, AV.cells, AV.isCell, addOff, minmaxL, Cap.room, Cap.cut, cutI, isSt, resultOf, Function.comp_apply, Function.comp_def, beq_self_eq_true, if_true, if_false, ite_true, ite_false, reduceCtorEq, bne_self_eq_false, Option.some.injEq, Prod.mk.injEq, ↓reduceIte, Nat.reduceEqDiff, Nat.reduceAdd, Nat.reduceMul, Nat.reduceSub, Nat.reduceLeDiff, Nat.reduceLT, Int.reduceLT, Int.reduceLE, Int.reduceEq, Int.reduceAdd, Int.reduceSub, Int.reduceNeg, Int.reduceToNat, List.mapM_cons, List.mapM_nil, Option.pure_def, Option.bind_eq_bind, eq_self, decide_true, decide_false, Int.natCast_add, Int.cast_ofNat_Int], by have := I.few; omega⟩
  | none =>
    obtain ⟨s2, X, H', f', cl', cc', e2, A2, hrows, fr2, hw2⟩ := A1.put (sz := t) (us := x.us) (c := x.c) (by omega) hp (by have := I.few; omega)
    have hn2 := fr2.next
    have kF : ¬ Fp S1 M1 L cc ⟨σ.next, 0, 0⟩ := fun h => by have := lA _ h; simp at this
    have hg2 : s2.get ⟨σ.next, 0, 0⟩ = some (scc ⟨x.kind, x.v, x.u, t, x.us, x.c⟩) := (fr2.get (by rw [n1]; show σ.next < _; omega) kF).trans hg
    have B2 := B1.frm fr2 (fun q h1 h2 => I.dj q h2 h1)
    have O2 : LstC (s2.new (scc ⟨x.kind, x.v, x.u, t, x.us, x.c⟩)) 6 a ms.length (scs ms) := O1.keep fun G hG => by
      rw [new_get (by have := (I.la G hG).1; omega)]; exact fr2.get (by have := (I.la G hG).1; omega) (I.la G hG).2.1
    obtain ⟨s4, e4, O4, n4, v4, h4⟩ := app_lst O2 (bytes := 40) (row := scc ⟨x.kind, x.v, x.u, t, x.us, x.c⟩) (by omega) (by have := I.few; omega) rfl rfl
    have n3 : (s2.new (scc ⟨x.kind, x.v, x.u, t, x.us, x.c⟩)).next = s2.next + 1 := rfl
    rw [n3] at e4 O4
    have hz2 : newCells s2 (scc ⟨x.kind, x.v, x.u, t, x.us, x.c⟩) = some (⟨s2.next, 0, 0⟩, s2.new (scc ⟨x.kind, x.v, x.u, t, x.us, x.c⟩)) := newCells_ok rfl
    have hel : elems (s2.new (scc ⟨x.kind, x.v, x.u, t, x.us, x.c⟩)) 6 1 (.sl ⟨s2.next, 0, 0⟩ 0 1 (.ex 1) 6) = some (scc ⟨x.kind, x.v, x.u, t, x.us, x.c⟩) := by
      have : (s2.new (scc ⟨x.kind, x.v, x.u, t, x.us, x.c⟩)).get ⟨s2.next, 0, 0⟩ = some (scc ⟨x.kind, x.v, x.u, t, x.us, x.c⟩) := by rw [get_new, if_pos rfl]
      simp only [elems, this]; rfl
    have hfl := sc_fill ⟨x.kind, x.v, x.u, t, x.us, x.c⟩
    have heap4 : ∀ z, z.o < s2.next → refId a ≠ some z → s4.heap z = s2.heap z := fun z hz hne => by
      rw [h4 z (by rw [n3]; omega) hne]
      exact (Frm.new s2 _ (fun _ => False)).heap z hz (fun h => h)
    have fr4 : Frm s2 s4 (fun z => refId a = some z) := ⟨by rw [n4, n3]; omega, v4, fun z hz hne => heap4 z hz hne⟩
    have A4 := A2.frm fr4 (fun z hz e => by
      have h1 := I.la z e
      rcases hw2 z hz with h | h
      · exact h1.2.1 h
      · omega)
    have B4 := B2.frm fr4 (fun z hz e => (I.la z e).2.2 hz)
    have lA2 := A2.R.lF
    have key : ∀ {ρ' : Env}, ρ' 1 = ρ 1 → ρ' 2 = ρ 2 → ρ' 7 = ρ 7 → ρ' 9 = ρ 9 → ρ' 11 = .sl ⟨s2.next + 1, 0, 0⟩ 0 (ms.length + 1) (.ge (ms.length + 1)) 6 → ρ' 12 = .int .i64 (i + 1 : Nat) → Next8 S1 M1 S2 M2 bud turn (i + 1) l f2 (some (.normal, ρ', s4)) := by
      intro ρ' h1 h2 h7 h9 h11 h12
      refine next8_mk (ms := ms ++ [⟨x.kind, x.v, x.u, t, x.us, x.c⟩]) ⟨A4, B4, fun q hq hB => ?_, by rw [hrows, I.rows]; simp [rwOf], fun y hy => ?_, by rw [scs_app, List.length_append]; simpa [scs] using O4, fun G hG => ?_, h1.trans I.r1, h2.trans I.r2, h7.trans I.r7, h9.trans I.r9, h11, h12, by have := I.few; simp; omega⟩
      · rcases hw2 q hq with h | h
        · exact I.dj q h hB
        · have := lB q hB; omega
      · rcases List.mem_append.1 hy with hy | hy
        · exact I.szs y hy
        · simp at hy; subst hy; simp only; omega
      · simp only [refId, Option.some.injEq] at hG; subst hG
        refine ⟨by rw [n4, n3]; show s2.next + 1 < _; omega, fun h => ?_, fun h => ?_⟩
        · have := lA2 _ h; simp at this; omega
        · have := lB _ h; simp at this; omega
    have hla := I.r11
    generalize scc ⟨x.kind, x.v, x.u, t, x.us, x.c⟩ = cells at *
    simp (disch := first | omega | (simp only [rkl]; omega)) only [rk1, rk2, rk3, rk4, rk5, Arg.get, ret1, AV.cells, AV.isCell, addOff, minmaxL, Cap.room, Cap.cut, cutI, isSt, resultOf, Function.comp_apply, Function.comp_def, beq_self_eq_true, if_true, if_false, ite_true, ite_false, reduceCtorEq, bne_self_eq_false, Option.some.injEq, Prod.mk.injEq, ↓reduceIte, Nat.reduceEqDiff, Nat.reduceAdd, Nat.reduceMul, Nat.reduceSub, Nat.reduceLeDiff, Nat.reduceLT, Int.reduceLT, Int.reduceLE, Int.reduceEq, Int.reduceAdd, Int.reduceSub, Int.reduceNeg, Int.reduceToNat, List.mapM_cons, List.mapM_nil, Option.pure_def, Option.bind_eq_bind, eq_self, decide_true, decide_false, l8_15, p8_9, p8_10, p8_11, p8_12, p8_13, p8_14, I.r2, I.r7, I.r11, I.r12, him, him2, hep, hpt, hz, hst, hg0, hp3, hw, hst2, hg, c1, c3, c4, c5, e2, hg2, c6, hfl, hz2, hel, e4]
    exact key (by simp (disch := first | omega | (simp only [rkl]; omega)) only [rk1, rk2, rk3, rk4, rk5, Arg.get, ret1, AV.cells, AV.isCell, addOff, minmaxL, Cap.room, Cap.cut, cutI, isSt, resultOf, Function.comp_apply, Function.comp_def, beq_self_eq_true, if_true, if_false, ite_true, ite_false, reduceCtorEq, bne_self_eq_false, Option.some.injEq, Prod.mk.injEq, ↓reduceIte, Nat.reduceEqDiff, Nat.reduceAdd, Nat.reduceMul, Nat.reduceSub, Nat.reduceLeDiff, Nat.reduceLT, Int.reduceLT, Int.reduceLE, Int.reduceEq, Int.reduceAdd, Int.reduceSub, Int.reduceNeg, Int.reduceToNat, List.mapM_cons, List.mapM_nil, Option.pure_def, Option.bind_eq_bind, eq_self, decide_true, decide_false]) (by simp (disch := first | omega | (simp only [rkl]; omega)) only [rk1, rk2, rk3, rk4, rk5, Arg.get, ret1, AV.cells, AV.isCell, addOff, minmaxL, Cap.room, Cap.cut, cutI, isSt, resultOf, Function.comp_apply, Function.comp_def, beq_self_eq_true, if_true, if_false, ite_true, ite_false, reduceCtorEq, bne_self_eq_false, Option.some.injEq, Prod.mk.injEq, ↓reduceIte, Nat.reduceEqDiff, Nat.reduceAdd, Nat.reduceMul, Nat.reduceSub, Nat.reduceLeDiff, Nat.reduceLT, Int.reduceLT, Int.reduceLE, Int.reduceEq, Int.reduceAdd, Int.reduceSub, Int.reduceNeg, Int.reduceToNat, List.mapM_cons, List.mapM_nil, Option.pure_def, Option.bind_eq_bind, eq_self, decide_true, decide_false, I.r2]) (by simp (disch := first | omega | (simp only [rkl]; omega)) only [rk1, rk2, rk3, rk4, rk5, Arg.get, ret1, AV.cells, AV.isCell, addOff, minmaxL, Cap.room, Cap.cut, cutI, isSt, resultOf, Function.comp_apply, Function.comp_def, beq_self_eq_true, if_true, if_false, ite_true, ite_false, reduceCtorEq, bne_self_eq_false, Option.some.injEq, Prod.mk.injEq, ↓reduceIte, Nat.reduceEqDiff, Nat.reduceAdd, Nat.reduceMul, Nat.reduceSub, Nat.reduceLeDiff, Nat.reduceLT, Int.reduceLT, Int.reduceLE, Int.reduceEq, Int.reduceAdd, Int.reduceSub, Int.reduceNeg, Int.reduceToNat, List.mapM_cons, List.mapM_nil, Option.pure_def, Option.bind_eq_bind, eq_self, decide_true, decide_false, I.r7]) (by simp (disch := first | omega | (simp only [rkl]; omega)) only [rk1, rk2, rk3, rk4, rk5, Arg.get, ret1, AV.cells, AV.isCell, addOff, minmaxL, Cap.room, Cap.cut, cutI, isSt, resultOf, Function.comp_apply, Function.comp_def, beq_self_eq_true, if_true, if_false, ite_true, ite_false, reduceCtorEq, bne_self_eq_false, Option.some.injEq, Prod.mk.injEq, ↓reduceIte, Nat.reduceEqDiff, Nat.reduceAdd, Nat.reduceMul, Nat.reduceSub, Nat.reduceLeDiff, Nat.reduceLT, Int.reduceLT, Int.reduceLE, Int.reduceEq, Int.reduceAdd, Int.reduceSub, Int.reduceNeg, Int.reduceToNat, List.mapM_cons, List.mapM_nil, Option.pure_def, Option.bind_eq_bind, eq_self, decide_true, decide_false]) (by simp (disch := first | omega | (simp only [rkl]; omega)) only [rk1, rk2, rk3, rk4, rk5, Arg.get, ret1, AV.cells, AV.isCell, addOff, minmaxL, Cap.room, Cap.cut, cutI, isSt, resultOf, Function.comp_apply, Function.comp_def, beq_self_eq_true, if_true, if_false, ite_true, ite_false, reduceCtorEq, bne_self_eq_false, Option.some.injEq, Prod.mk.injEq, ↓reduceIte, Nat.reduceEqDiff, Nat.reduceAdd, Nat.reduceMul, Nat.reduceSub, Nat.reduceLeDiff, Nat.reduceLT, Int.reduceLT, Int.reduceLE, Int.reduceEq, Int.reduceAdd, Int.reduceSub, Int.reduceNeg, Int.reduceToNat, List.mapM_cons, List.mapM_nil, Option.pure_def, Option.bind_eq_bind, eq_self, decide_true, decide_false]) (by simp (disch := first | omega | (simp only [rkl]; omega)) only [rk1, rk2, rk3, rk4, rk5, Arg.get, ret1, AV.cells, AV.isCell, addOff, minmaxL, Cap.room, Cap.cut, cutI, isSt, resultOf, Function.comp_apply, Function.comp_def, beq_self_eq_true, if_true, if_false, ite_true, ite_false, reduceCtorEq, bne_self_eq_false, Option.some.injEq, Prod.mk.injEq, ↓reduceIte, Nat.reduceEqDiff, Nat.reduceAdd, Nat.reduceMul, Nat.reduceSub, Nat.reduceLeDiff, Nat.reduceLT, Int.reduceLT, Int.reduceLE, Int.reduceEq, Int.reduceAdd, Int.reduceSub, Int.reduceNeg, Int.reduceToNat, List.mapM_cons, List.mapM_nil, Option.pure_def, Option.bind_eq_bind, eq_self, decide_true, decide_false, Int.natCast_add, Int.cast_ofNat_Int])
end Go.Proofs.Ytkhalpmmdlppkaa
