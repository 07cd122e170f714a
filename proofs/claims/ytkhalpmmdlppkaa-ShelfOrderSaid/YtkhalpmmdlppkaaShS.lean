/-
  THE SHELF's laws: two lists of names held against each other; lists that grow.
-/
import Derived.Test.YtkhalpmmdlppkaaShR
namespace Go.Proofs.Ytkhalpmmdlppkaa
set_option linter.unusedSimpArgs false
set_option linter.unusedVariables false
open Go.Vm

theorem sq77_6 : drawSeq (tab hsS) d77_6 = true := rfl

theorem gcR_len : ∀ g : List Rw, (gcR g).length = g.length * 2
  | [] => rfl
  | x :: g => by have := gcR_len g; simp only [gcR, List.flatMap_cons, List.length_append, List.length_cons, List.length_nil] at this ⊢; omega
theorem gcR_at : ∀ {g : List Rw} {i : Nat} {x : Rw}, g[i]? = some x → ((gcR g).drop (i * 2)).take 2 = [.int .u32 x.k.v, .int .u32 x.k.u]
  | y :: g, 0, x, hx => by
    simp only [List.getElem?_cons_zero, Option.some.injEq] at hx; subst hx
    rw [gcR, List.flatMap_cons, Nat.zero_mul, List.drop_zero]
    exact List.take_left' rfl
  | y :: g, i + 1, x, hx => by
    rw [gcR, List.flatMap_cons, Nat.add_mul, Nat.one_mul, Nat.add_comm, ← List.drop_drop]
    show List.take 2 (List.drop (i * 2) (gcR g)) = _
    exact gcR_at (g := g) (by simpa using hx)

theorem eq78 (v u : Int) (σ : St) : ev (tab hsS) 78 [.agg [.int .u32 v, .int .u32 u], .agg [.int .u32 v, .int .u32 u]] σ = some (.bool true, σ) := by
  refine pure_ev (tab78 hsS) (snaps_cons (y := .agg [.int .u32 v, .int .u32 u]) rfl (snaps_cons (y := .agg [.int .u32 v, .int .u32 u]) rfl (snaps_nil _))) ?_
  have hz : ∀ s : St, newCells s [.int .u32 v, .int .u32 u] = some (⟨s.next, 0, 0⟩, s.new [.int .u32 v, .int .u32 u]) := fun s => newCells_ok rfl
  have he : eqv KT (.agg [.int .u32 v, .int .u32 u]) (.agg [.int .u32 v, .int .u32 u]) = some true := by
    have := eqv_kx v u v u
    simpa [kx] using this
  have g1 : ((emptySt.new [.int .u32 v, .int .u32 u]).new [.int .u32 v, .int .u32 u]).get ⟨0, 0, 0⟩ = some [.int .u32 v, .int .u32 u] := by
    rw [new_get (by show 0 < 0 + 1; omega), get_new]; exact if_pos rfl
  have g2 : ((emptySt.new [.int .u32 v, .int .u32 u]).new [.int .u32 v, .int .u32 u]).get ⟨1, 0, 0⟩ = some [.int .u32 v, .int .u32 u] := by
    rw [get_new]; exact if_pos rfl
  simp (disch := first | omega | (simp only [rkl]; omega)) only [rk1, rk2, rk3, rk4, rk5, Arg.get, ret1, AV.cells, AV.isCell, addOff, minmaxL, Cap.room, Cap.cut, cutI, isSt, resultOf, Function.comp_apply, Function.comp_def, beq_self_eq_true, if_true, if_false, ite_true, ite_false, reduceCtorEq, bne_self_eq_false, Option.some.injEq, Prod.mk.injEq, ↓reduceIte, Nat.reduceEqDiff, Nat.reduceAdd, Nat.reduceMul, Nat.reduceSub, Nat.reduceLeDiff, Nat.reduceLT, Int.reduceLT, Int.reduceLE, Int.reduceEq, Int.reduceAdd, Int.reduceSub, Int.reduceNeg, Int.reduceToNat, List.mapM_cons, List.mapM_nil, Option.pure_def, Option.bind_eq_bind, eq_self, decide_true, decide_false, code78, p78_1, p78_2, hz, g1, g2, he]

section
variable {g : List Rw} {fa fb : Bool}
theorem same77_loop (hl : g.length < 2 ^ 40) : ∀ (m i : Nat), i + m = g.length → ∀ {ρ : Env} {s : St}, ρ 0 = .isl fa (gcR g) g.length none → ρ 1 = .isl fb (gcR g) g.length none → ρ 2 = .func (.func 78) [] [] → ρ 7 = .int .i64 i →
    ∃ ρ', run (tab hsS) (.loop l77_9) ρ s = some (.exit 0, ρ', s)
  | 0, i, him, ρ, s, r0, r1, r2, r7 => by
    have hi : i = g.length := by omega
    subst hi
    rw [run_loop]
    simp (disch := first | omega | (simp only [rkl]; omega)) only [rk1, rk2, rk3, rk4, rk5, Arg.get, ret1, AV.cells, AV.isCell, addOff, minmaxL, Cap.room, Cap.cut, cutI, isSt, resultOf, Function.comp_apply, Function.comp_def, beq_self_eq_true, if_true, if_false, ite_true, ite_false, reduceCtorEq, bne_self_eq_false, Option.some.injEq, Prod.mk.injEq, ↓reduceIte, Nat.reduceEqDiff, Nat.reduceAdd, Nat.reduceMul, Nat.reduceSub, Nat.reduceLeDiff, Nat.reduceLT, Int.reduceLT, Int.reduceLE, Int.reduceEq, Int.reduceAdd, Int.reduceSub, Int.reduceNeg, Int.reduceToNat, List.mapM_cons, List.mapM_nil, Option.pure_def, Option.bind_eq_bind, eq_self, decide_true, decide_false, l77_9, p77_5, r0, r7]
    exact ⟨_, rfl⟩
  | m + 1, i, him, ρ, s, r0, r1, r2, r7 => by
    have hi : i < g.length := by omega
    have hx := List.getElem?_eq_getElem hi
    have hat := gcR_at hx
    generalize g[i] = x at hx hat
    have hm2 : (i + 1) * 2 ≤ g.length * 2 := Nat.mul_le_mul_right _ hi
    have hpt : Vm.part true 2 (i * 2) (gcR g) = some (.agg [.int .u32 x.k.v, .int .u32 x.k.u]) := by rw [part_t (by rw [gcR_len]; omega), hat]
    have hep : ∀ b : Bool, elemPtr 2 i (.isl b (gcR g) g.length none) = some (.iptr b (gcR g) (i * 2)) := fun b => elemPtr_isl hi (by rw [gcR_len]; omega)
    have him2 : (i : Int) < (g.length : Int) := by omega
    have hround : ∃ ρ1, run (tab hsS) l77_9 ρ s = some (.normal, ρ1, s) ∧ ρ1 0 = ρ 0 ∧ ρ1 1 = ρ 1 ∧ ρ1 2 = ρ 2 ∧ ρ1 7 = .int .i64 (i + 1 : Nat) := by
      simp (disch := first | omega | (simp only [rkl]; omega)) only [rk1, rk2, rk3, rk4, rk5, Arg.get, ret1, AV.cells, AV.isCell, addOff, minmaxL, Cap.room, Cap.cut, cutI, isSt, resultOf, Function.comp_apply, Function.comp_def, beq_self_eq_true, if_true, if_false, ite_true, ite_false, reduceCtorEq, bne_self_eq_false, Option.some.injEq, Prod.mk.injEq, ↓reduceIte, Nat.reduceEqDiff, Nat.reduceAdd, Nat.reduceMul, Nat.reduceSub, Nat.reduceLeDiff, Nat.reduceLT, Int.reduceLT, Int.reduceLE, Int.reduceEq, Int.reduceAdd, Int.reduceSub, Int.reduceNeg, Int.reduceToNat, List.mapM_cons, List.mapM_nil, Option.pure_def, Option.bind_eq_bind, eq_self, decide_true, decide_false, l77_9, p77_5, him2, r0, r1, r2, r7]
      rw [drawn sq77_6]
      simp (disch := first | omega | (simp only [rkl]; omega)) only [rk1, rk2, rk3, rk4, rk5, Arg.get, ret1, AV.cells, AV.isCell, addOff, minmaxL, Cap.room, Cap.cut, cutI, isSt, resultOf, Function.comp_apply, Function.comp_def, beq_self_eq_true, if_true, if_false, ite_true, ite_false, reduceCtorEq, bne_self_eq_false, Option.some.injEq, Prod.mk.injEq, ↓reduceIte, Nat.reduceEqDiff, Nat.reduceAdd, Nat.reduceMul, Nat.reduceSub, Nat.reduceLeDiff, Nat.reduceLT, Int.reduceLT, Int.reduceLE, Int.reduceEq, Int.reduceAdd, Int.reduceSub, Int.reduceNeg, Int.reduceToNat, List.mapM_cons, List.mapM_nil, Option.pure_def, Option.bind_eq_bind, eq_self, decide_true, decide_false, d77_6, p77_8, r0, r1, r2, r7, hep, hpt, eq78]
      exact ⟨_, rfl, by simp (disch := first | omega | (simp only [rkl]; omega)) only [rk1, rk2, rk3, rk4, rk5, Arg.get, ret1, AV.cells, AV.isCell, addOff, minmaxL, Cap.room, Cap.cut, cutI, isSt, resultOf, Function.comp_apply, Function.comp_def, beq_self_eq_true, if_true, if_false, ite_true, ite_false, reduceCtorEq, bne_self_eq_false, Option.some.injEq, Prod.mk.injEq, ↓reduceIte, Nat.reduceEqDiff, Nat.reduceAdd, Nat.reduceMul, Nat.reduceSub, Nat.reduceLeDiff, Nat.reduceLT, Int.reduceLT, Int.reduceLE, Int.reduceEq, Int.reduceAdd, Int.reduceSub, Int.reduceNeg, Int.reduceToNat, List.mapM_cons, List.mapM_nil, Option.pure_def, Option.bind_eq_bind, eq_self, decide_true, decide_false, r0], by simp (disch := first | omega | (simp only [rkl]; omega)) only [rk1, rk2, rk3, rk4, rk5, Arg.get, ret1, AV.cells, AV.isCell, addOff, minmaxL, Cap.room, Cap.cut, cutI, isSt, resultOf, Function.comp_apply, Function.comp_def, beq_self_eq_true, if_true, if_false, ite_true, ite_false, reduceCtorEq, bne_self_eq_false, Option.some.injEq, Prod.mk.injEq, ↓reduceIte, Nat.reduceEqDiff, Nat.reduceAdd, Nat.reduceMul, Nat.reduceSub, Nat.reduceLeDiff, Nat.reduceLT, Int.reduceLT, Int.reduceLE, Int.reduceEq, Int.reduceAdd, Int.reduceSub, Int.reduceNeg, Int.reduceToNat, List.mapM_cons, List.mapM_nil, Option.pure_def, Option.bind_eq_bind, eq_self, decide_true, decide_false, r1], by simp (disch := first | omega | (simp only [rkl]; omega)) only [rk1, rk2, rk3, rk4, rk5, Arg.get, ret1, AV.cells, AV.isCell, addOff, minmaxL, Cap.room, Cap.cut, cutI, isSt, resultOf, Function.comp_apply, Function.comp_def, beq_self_eq_true, if_true, if_false, ite_true, ite_false, reduceCtorEq, bne_self_eq_false, Option.some.injEq, Prod.mk.injEq, ↓reduceIte, Nat.reduceEqDiff, Nat.reduceAdd, Nat.reduceMul, Nat.reduceSub, Nat.reduceLeDiff, Nat.reduceLT, Int.reduceLT, Int.reduceLE, Int.reduceEq, Int.reduceAdd, Int.reduceSub, Int.reduceNeg, Int.reduceToNat, List.mapM_cons, List.mapM_nil, Option.pure_def, Option.bind_eq_bind, eq_self, decide_true, decide_false, r2], by simp (disch := first | omega | (simp only [rkl]; omega)) only [rk1, rk2, rk3, rk4, rk5, Arg.get, ret1, AV.cells, AV.isCell, addOff, minmaxL, Cap.room, Cap.cut, cutI, isSt, resultOf, Function.comp_apply, Function.comp_def, beq_self_eq_true, if_true, if_false, ite_true, ite_false, reduceCtorEq, bne_self_eq_false, Option.some.injEq, Prod.mk.injEq, ↓reduceIte, Nat.reduceEqDiff, Nat.reduceAdd, Nat.reduceMul, Nat.reduceSub, Nat.reduceLeDiff, Nat.reduceLT, Int.reduceLT, Int.reduceLE, Int.reduceEq, Int.reduceAdd, Int.reduceSub, Int.reduceNeg, Int.reduceToNat, List.mapM_cons, List.mapM_nil, Option.pure_def, Option.bind_eq_bind, eq_self, decide_true, decide_false, Int.natCast_add, Int.cast_ofNat_Int]⟩
    obtain ⟨ρ1, e1, q0, q1, q2, q7⟩ := hround
    obtain ⟨ρ2, e2⟩ := same77_loop hl m (i + 1) (by omega) (q0.trans r0) (q1.trans r1) (q2.trans r2) q7 (s := s)
    rw [run_loop, e1]
    exact ⟨ρ2, by simp (disch := first | omega | (simp only [rkl]; omega)) only [rk1, rk2, rk3, rk4, rk5, Arg.get, ret1, AV.cells, AV.isCell, addOff, minmaxL, Cap.room, Cap.cut, cutI, isSt, resultOf, Function.comp_apply, Function.comp_def, beq_self_eq_true, if_true, if_false, ite_true, ite_false, reduceCtorEq, bne_self_eq_false, Option.some.injEq, Prod.mk.injEq, ↓reduceIte, Nat.reduceEqDiff, Nat.reduceAdd, Nat.reduceMul, Nat.reduceSub, Nat.reduceLeDiff, Nat.reduceLT, Int.reduceLT, Int.reduceLE, Int.reduceEq, Int.reduceAdd, Int.reduceSub, Int.reduceNeg, Int.reduceToNat, List.mapM_cons, List.mapM_nil, Option.pure_def, Option.bind_eq_bind, eq_self, decide_true, decide_false]; exact e2⟩

theorem same77 (hl : g.length < 2 ^ 40) {h : Hint} : pureOf (run (tab hsS)) ⟨30, 3, code77, [.tmp 6], h⟩ [.isl fa (gcR g) g.length none, .isl fb (gcR g) g.length none, .func (.func 78) [] []] = some (.bool true) := by
  have key : ∀ (ρ : Env) r, run (tab hsS) (.loop l77_9) ρ emptySt = r → ρ 0 = .isl fa (gcR g) g.length none → ρ 1 = .isl fb (gcR g) g.length none → ρ 2 = .func (.func 78) [] [] → ρ 7 = .int .i64 0 → ∃ ρ', r = some (.exit 0, ρ', emptySt) := by
    intro ρ r hr r0 r1 r2 r7
    obtain ⟨ρ', h⟩ := same77_loop hl g.length 0 (by omega) r0 r1 r2 r7 (s := emptySt)
    exact ⟨ρ', hr ▸ h⟩
  simp (disch := first | omega | (simp only [rkl]; omega)) only [rk1, rk2, rk3, rk4, rk5, Arg.get, ret1, AV.cells, AV.isCell, addOff, minmaxL, Cap.room, Cap.cut, cutI, isSt, resultOf, Function.comp_apply, Function.comp_def, beq_self_eq_true, if_true, if_false, ite_true, ite_false, reduceCtorEq, bne_self_eq_false, Option.some.injEq, Prod.mk.injEq, ↓reduceIte, Nat.reduceEqDiff, Nat.reduceAdd, Nat.reduceMul, Nat.reduceSub, Nat.reduceLeDiff, Nat.reduceLT, Int.reduceLT, Int.reduceLE, Int.reduceEq, Int.reduceAdd, Int.reduceSub, Int.reduceNeg, Int.reduceToNat, List.mapM_cons, List.mapM_nil, Option.pure_def, Option.bind_eq_bind, eq_self, decide_true, decide_false, code77, p77_1, p77_2, p77_3, p77_4]
  generalize hr : run (tab hsS) (.loop l77_9) _ _ = r
  obtain ⟨ρ', rfl⟩ := key _ _ hr (by simp (disch := first | omega | (simp only [rkl]; omega)) only [rk1, rk2, rk3, rk4, rk5, Arg.get, ret1, AV.cells, AV.isCell, addOff, minmaxL, Cap.room, Cap.cut, cutI, isSt, resultOf, Function.comp_apply, Function.comp_def, beq_self_eq_true, if_true, if_false, ite_true, ite_false, reduceCtorEq, bne_self_eq_false, Option.some.injEq, Prod.mk.injEq, ↓reduceIte, Nat.reduceEqDiff, Nat.reduceAdd, Nat.reduceMul, Nat.reduceSub, Nat.reduceLeDiff, Nat.reduceLT, Int.reduceLT, Int.reduceLE, Int.reduceEq, Int.reduceAdd, Int.reduceSub, Int.reduceNeg, Int.reduceToNat, List.mapM_cons, List.mapM_nil, Option.pure_def, Option.bind_eq_bind, eq_self, decide_true, decide_false]) (by simp (disch := first | omega | (simp only [rkl]; omega)) only [rk1, rk2, rk3, rk4, rk5, Arg.get, ret1, AV.cells, AV.isCell, addOff, minmaxL, Cap.room, Cap.cut, cutI, isSt, resultOf, Function.comp_apply, Function.comp_def, beq_self_eq_true, if_true, if_false, ite_true, ite_false, reduceCtorEq, bne_self_eq_false, Option.some.injEq, Prod.mk.injEq, ↓reduceIte, Nat.reduceEqDiff, Nat.reduceAdd, Nat.reduceMul, Nat.reduceSub, Nat.reduceLeDiff, Nat.reduceLT, Int.reduceLT, Int.reduceLE, Int.reduceEq, Int.reduceAdd, Int.reduceSub, Int.reduceNeg, Int.reduceToNat, List.mapM_cons, List.mapM_nil, Option.pure_def, Option.bind_eq_bind, eq_self, decide_true, decide_false]) (by simp (disch := first | omega | (simp only [rkl]; omega)) only [rk1, rk2, rk3, rk4, rk5, Arg.get, ret1, AV.cells, AV.isCell, addOff, minmaxL, Cap.room, Cap.cut, cutI, isSt, resultOf, Function.comp_apply, Function.comp_def, beq_self_eq_true, if_true, if_false, ite_true, ite_false, reduceCtorEq, bne_self_eq_false, Option.some.injEq, Prod.mk.injEq, ↓reduceIte, Nat.reduceEqDiff, Nat.reduceAdd, Nat.reduceMul, Nat.reduceSub, Nat.reduceLeDiff, Nat.reduceLT, Int.reduceLT, Int.reduceLE, Int.reduceEq, Int.reduceAdd, Int.reduceSub, Int.reduceNeg, Int.reduceToNat, List.mapM_cons, List.mapM_nil, Option.pure_def, Option.bind_eq_bind, eq_self, decide_true, decide_false]) (by simp (disch := first | omega | (simp only [rkl]; omega)) only [rk1, rk2, rk3, rk4, rk5, Arg.get, ret1, AV.cells, AV.isCell, addOff, minmaxL, Cap.room, Cap.cut, cutI, isSt, resultOf, Function.comp_apply, Function.comp_def, beq_self_eq_true, if_true, if_false, ite_true, ite_false, reduceCtorEq, bne_self_eq_false, Option.some.injEq, Prod.mk.injEq, ↓reduceIte, Nat.reduceEqDiff, Nat.reduceAdd, Nat.reduceMul, Nat.reduceSub, Nat.reduceLeDiff, Nat.reduceLT, Int.reduceLT, Int.reduceLE, Int.reduceEq, Int.reduceAdd, Int.reduceSub, Int.reduceNeg, Int.reduceToNat, List.mapM_cons, List.mapM_nil, Option.pure_def, Option.bind_eq_bind, eq_self, decide_true, decide_false])
  simp (disch := first | omega | (simp only [rkl]; omega)) only [rk1, rk2, rk3, rk4, rk5, Arg.get, ret1, AV.cells, AV.isCell, addOff, minmaxL, Cap.room, Cap.cut, cutI, isSt, resultOf, Function.comp_apply, Function.comp_def, beq_self_eq_true, if_true, if_false, ite_true, ite_false, reduceCtorEq, bne_self_eq_false, Option.some.injEq, Prod.mk.injEq, ↓reduceIte, Nat.reduceEqDiff, Nat.reduceAdd, Nat.reduceMul, Nat.reduceSub, Nat.reduceLeDiff, Nat.reduceLT, Int.reduceLT, Int.reduceLE, Int.reduceEq, Int.reduceAdd, Int.reduceSub, Int.reduceNeg, Int.reduceToNat, List.mapM_cons, List.mapM_nil, Option.pure_def, Option.bind_eq_bind, eq_self, decide_true, decide_false, p77_10]

theorem plain47 {σ : St} {a b : AV} (ha : snap σ 7 a = some (.isl fa (gcR g) g.length none)) (hb : snap σ 7 b = some (.isl fb (gcR g) g.length none)) (hl : g.length < 2 ^ 40) : ev (tab hsS) 47 [a, b] σ = some (.bool true, σ) := by
  refine pure_ev (tab47 hsS) (snaps_cons ha (snaps_cons hb (snaps_nil _))) ?_
  have h77 : ∀ σ, ev (tab hsS) 77 [.isl fa (gcR g) g.length none, .isl fb (gcR g) g.length none, .func (.func 78) [] []] σ = some (.bool true, σ) := fun σ =>
    pure_ev (tab77 hsS) (snaps_cons rfl (snaps_cons rfl (snaps_cons rfl (snaps_nil _)))) (same77 hl)
  simp (disch := first | omega | (simp only [rkl]; omega)) only [rk1, rk2, rk3, rk4, rk5, Arg.get, ret1, AV.cells, AV.isCell, addOff, minmaxL, Cap.room, Cap.cut, cutI, isSt, resultOf, Function.comp_apply, Function.comp_def, beq_self_eq_true, if_true, if_false, ite_true, ite_false, reduceCtorEq, bne_self_eq_false, Option.some.injEq, Prod.mk.injEq, ↓reduceIte, Nat.reduceEqDiff, Nat.reduceAdd, Nat.reduceMul, Nat.reduceSub, Nat.reduceLeDiff, Nat.reduceLT, Int.reduceLT, Int.reduceLE, Int.reduceEq, Int.reduceAdd, Int.reduceSub, Int.reduceNeg, Int.reduceToNat, List.mapM_cons, List.mapM_nil, Option.pure_def, Option.bind_eq_bind, eq_self, decide_true, decide_false, code47, p47_1, p47_2, h77]
end

theorem gcR_snap (σ : St) (n : Nat) (g : List Rw) : (gcR g).mapM (Vm.snap σ (n + 1)) = some (gcR g) := mapM_id fun y hy => by
  simp only [gcR, List.mem_flatMap] at hy
  obtain ⟨x, _, hy⟩ := hy
  simp at hy
  rcases hy with rfl | rfl <;> rfl

/-- A list of names that is told. -/
theorem outL_snap {σ : St} {f : Vm.Id → Ky} {a : AV} {G : List Vm.Id} (O : OutL σ f a G) (cl : Vm.Id → Bool) {g : List Rw} (hg : rowsOf f cl G = g) : ∃ fl, snap σ 7 a = some (.isl fl (gcR g) g.length none) := by
  have hlen : G.length = g.length := by rw [← hg, rowsOf_len]
  rcases O with ⟨rfl, rfl⟩ | ⟨B, rfl, hB⟩
  · subst hg; exact ⟨false, rfl⟩
  · refine ⟨true, ?_⟩
    rw [gc_rows f cl, hg] at hB
    rw [snap_sl, hB]
    simp only [Option.bind_some, List.drop_zero, Nat.zero_add]
    rw [if_pos (by rw [gcR_len]; omega), List.take_of_length_le (by rw [gcR_len]; omega), gcR_snap, hlen]; rfl

/-- A list that only grows. -/
def LstC (σ : St) (sz : Nat) (a : AV) (n : Nat) (cells : List AV) : Prop := (a = .nilsl ∧ n = 0 ∧ cells = []) ∨ ∃ G : Vm.Id, a = .sl G 0 n (.ge n) sz ∧ σ.get G = some cells ∧ cells.length = n * sz ∧ cells.all AV.isCell = true

theorem LstC.keep {σ σ' : St} {sz n : Nat} {a : AV} {cells : List AV} (h : LstC σ sz a n cells) (hg : ∀ G, refId a = some G → σ'.get G = σ.get G) : LstC σ' sz a n cells := by
  rcases h with h | ⟨G, rfl, h1, h2⟩
  · exact .inl h
  · exact .inr ⟨G, rfl, (hg G rfl).trans h1, h2⟩
theorem LstC.len {σ : St} {sz n : Nat} {a : AV} {cells : List AV} (h : LstC σ sz a n cells) (s : St) : lenIn s .sl a = some n := by
  rcases h with ⟨rfl, rfl, _⟩ | ⟨G, rfl, _⟩ <;> rfl

theorem app_lst {s : St} {sz bytes n : Nat} {a : AV} {cells row : List AV} (h : LstC s sz a n cells) (hb : bytes ≤ 1000) (few : n < 2 ^ 30) (hrow : row.length = sz) (hc : row.all AV.isCell = true) :
    ∃ s', appendTo s sz bytes 1 row a = some (.sl ⟨s.next, 0, 0⟩ 0 (n + 1) (.ge (n + 1)) sz, s') ∧ LstC s' sz (.sl ⟨s.next, 0, 0⟩ 0 (n + 1) (.ge (n + 1)) sz) (n + 1) (cells ++ row) ∧ s'.next = s.next + 1 ∧ s'.ver = s.ver ∧ (∀ q, q.o < s.next → refId a ≠ some q → s'.heap q = s.heap q) := by
  rcases h with ⟨rfl, rfl, rfl⟩ | ⟨G, rfl, hg, hl, hcc⟩
  · refine ⟨s.new row, ?_, .inr ⟨_, rfl, by rw [get_new, if_pos rfl]; rfl, by simp [hrow], by simpa using hc⟩, rfl, rfl, fun q hq _ => (Frm.new s _ (fun _ => False)).heap q hq (fun h => h)⟩
    have hgm : 1 * bytes ≤ growMax := by have : growMax = 2 ^ 48 := rfl; omega
    rw [append_nil' (by omega) hgm hc]
  · have hmx : (n + 1) * bytes ≤ lenMax := by
      have : lenMax = 2 ^ 46 := rfl
      have := Nat.mul_le_mul (show n + 1 ≤ 2 ^ 30 by omega) hb
      omega
    have hcr : (cells ++ row).all AV.isCell = true := by rw [List.all_append, hcc, hc]; rfl
    refine ⟨(s.set G none).new (cells ++ row), ?_, .inr ⟨_, rfl, by rw [get_new]; exact if_pos rfl, by rw [List.length_append, hl, hrow, Nat.add_mul, Nat.one_mul], hcr⟩, rfl, rfl, fun q hq hne => ?_⟩
    · simp only [appendTo, hg, Cap.room]
      rw [if_neg (by simp), if_neg (by omega), if_pos ⟨by omega, hmx⟩]
      have e : List.take (n * sz) (List.drop 0 cells) ++ row = cells ++ row := by rw [List.drop_zero, List.take_of_length_le (by omega)]
      rw [e, newCells_ok hcr]
      rfl
    · have e1 : q ≠ G := fun e => hne (by simp [refId, e])
      have e2 : ¬ (q = ⟨s.next, 0, 0⟩) := fun e => by subst e; simp at hq
      simp [St.new, St.set, e1, e2]
end Go.Proofs.Ytkhalpmmdlppkaa
