/-
  ShelfPlays: the law's own list: looks at it.
-/
import Derived.Test.YtkhalpmmdlppkaaQaD
namespace Go.Proofs.Ytkhalpmmdlppkaa
set_option linter.unusedSimpArgs false
set_option linter.unusedVariables false
open Go.Vm

def rk (r : Rw) : Int × Int := (r.k.v, r.k.u)
theorem pos_rows (f : Vm.Id → Ky) (cl : Vm.Id → Bool) (L : List Vm.Id) (v u : Int) : posOf rk (rowsOf f cl L) v u = posOf (kf f) L v u := by
  unfold posOf rowsOf
  rw [List.findIdx?_map]
  rfl
def posI (o : Option Nat) : Int := match o with | some j => j | none => -1

/-- The list of what is there, with whatever room behind it. -/
def RowL (σ : St) (a : AV) (rows : List Rw) : Prop := (a = .nilsl ∧ rows = []) ∨ ∃ (G : Vm.Id) (cap : Cap) (junk : List AV), a = .sl G 0 rows.length cap 5 ∧ σ.get G = some (rws rows ++ junk) ∧ rows.length ≤ cap.room ∧ cap.room * 5 ≤ rows.length * 5 + junk.length

theorem RowL.keep {σ σ' : St} {a : AV} {rows : List Rw} (h : RowL σ a rows) (hg : ∀ G, refId a = some G → σ'.get G = σ.get G) : RowL σ' a rows := by
  rcases h with h | ⟨G, cap, junk, rfl, h1, h2, h3⟩
  · exact .inl h
  · exact .inr ⟨G, cap, junk, rfl, (hg G rfl).trans h1, h2, h3⟩
theorem RowL.len {σ : St} {a : AV} {rows : List Rw} (h : RowL σ a rows) (s : St) : lenIn s .sl a = some rows.length := by
  rcases h with ⟨rfl, rfl⟩ | ⟨G, cap, junk, rfl, _⟩ <;> rfl
theorem rws_snap (σ : St) (n : Nat) (rows : List Rw) : (rws rows).mapM (Vm.snap σ (n + 1)) = some (rws rows) := mapM_id fun y hy => by
  simp only [rws, List.mem_flatMap] at hy
  obtain ⟨x, _, hy⟩ := hy
  simp [rwc] at hy
  rcases hy with rfl | rfl | rfl | rfl | rfl <;> rfl
theorem RowL.snap {σ : St} {a : AV} {rows : List Rw} (h : RowL σ a rows) : ∃ fl, snap σ 7 a = some (.isl fl (rws rows) rows.length none) := by
  rcases h with ⟨rfl, rfl⟩ | ⟨G, cap, junk, rfl, h1, h2, h3⟩
  · exact ⟨false, rfl⟩
  · refine ⟨true, ?_⟩
    rw [snap_sl, h1]
    simp only [Option.bind_some, List.drop_zero, Nat.zero_add]
    rw [if_pos (by rw [List.length_append, rws_len]; omega), List.take_left' (rws_len rows), rws_snap]; rfl

section
variable {fl : Bool} {v u : Int}

theorem at_loop {rows : List Rw} (hl : rows.length < 2 ^ 40) {σ : St} {q : Vm.Id} (hg : σ.get q = some [.int .u32 v, .int .u32 u]) : ∀ (m i : Nat), i + m = rows.length → ∀ {ρ : Env}, ρ 0 = .isl fl (rws rows) rows.length none → ρ 3 = .ptr q 0 → ρ 5 = .int .i64 i →
    ∃ ρ', match (rows.drop i).findIdx? (hit rk v u) with
      | some j => run (tab hsS) (.loop l48_7) ρ σ = some (.ret, ρ', σ) ∧ ρ' 4 = .int .i64 (i + j : Nat)
      | none => run (tab hsS) (.loop l48_7) ρ σ = some (.exit 0, ρ', σ)
  | 0, i, him, ρ, r0, r3, r5 => by
    have hi : i = rows.length := by omega
    subst hi
    rw [List.drop_length]
    simp only [List.findIdx?_nil]
    rw [run_loop]
    simp (disch := first | omega | (simp only [rkl]; omega)) only [rk1, rk2, rk3, rk4, rk5, Arg.get, ret1, AV.cells, AV.isCell, addOff, minmaxL, Cap.room, Cap.cut, cutI, isSt, resultOf, Function.comp_apply, Function.comp_def, beq_self_eq_true, if_true, if_false, ite_true, ite_false, reduceCtorEq, bne_self_eq_false, Option.some.injEq, Prod.mk.injEq, ↓reduceIte, Nat.reduceEqDiff, Nat.reduceAdd, Nat.reduceMul, Nat.reduceSub, Nat.reduceLeDiff, Nat.reduceLT, Int.reduceLT, Int.reduceLE, Int.reduceEq, Int.reduceAdd, Int.reduceSub, Int.reduceNeg, Int.reduceToNat, List.mapM_cons, List.mapM_nil, Option.pure_def, Option.bind_eq_bind, eq_self, decide_true, decide_false, l48_7, p48_3, r0, r5]
    exact ⟨_, rfl⟩
  | m + 1, i, him, ρ, r0, r3, r5 => by
    have hi : i < rows.length := by omega
    have hx := List.getElem?_eq_getElem hi
    have hat := rws_at (junk := []) hx
    have hm5 : (i + 1) * 5 ≤ rows.length * 5 := Nat.mul_le_mul_right _ hi
    have hdrop := List.drop_eq_getElem_cons hi
    generalize rows[i] = x at *
    rw [List.append_nil] at hat
    have hpt : Vm.part true 2 (i * 5) (rws rows) = some (.agg [.int .u32 x.k.v, .int .u32 x.k.u]) := by
      rw [part_t (by rw [rws_len]; omega)]
      have : List.take 2 (List.drop (i * 5) (rws rows)) = List.take 2 (List.take 5 (List.drop (i * 5) (rws rows))) := by rw [List.take_take]; rfl
      rw [this, hat]; rfl
    have hep : elemPtr 5 i (.isl fl (rws rows) rows.length none) = some (.iptr fl (rws rows) (i * 5)) := elemPtr_isl hi (by rw [rws_len]; omega)
    have him2 : (i : Int) < (rows.length : Int) := by omega
    have he : eqv KT (.agg [.int .u32 x.k.v, .int .u32 x.k.u]) (.agg [.int .u32 v, .int .u32 u]) = some (decide (x.k.v = v) && decide (x.k.u = u)) := eqv_kx _ _ _ _
    have hh : hit rk v u x = (decide (x.k.v = v) && decide (x.k.u = u)) := by
      rw [Bool.eq_iff_iff]
      unfold hit rk
      simp only [Bool.and_eq_true, decide_eq_true_eq]
      exact ⟨fun h => ⟨h.1.symm, h.2.symm⟩, fun h => ⟨h.1.symm, h.2.symm⟩⟩
    rw [hdrop, List.findIdx?_cons, hh]
    cases hb : (decide (x.k.v = v) && decide (x.k.u = u)) with
    | true =>
      rw [hb] at he
      simp only [if_true]
      have hrun : ∃ ρ', run (tab hsS) (.loop l48_7) ρ σ = some (.ret, ρ', σ) ∧ ρ' 4 = .int .i64 i := by
        rw [run_loop]
        simp (disch := first | omega | (simp only [rkl]; omega)) only [rk1, rk2, rk3, rk4, rk5, Arg.get, ret1, AV.cells, AV.isCell, addOff, minmaxL, Cap.room, Cap.cut, cutI, isSt, resultOf, Function.comp_apply, Function.comp_def, beq_self_eq_true, if_true, if_false, ite_true, ite_false, reduceCtorEq, bne_self_eq_false, Option.some.injEq, Prod.mk.injEq, ↓reduceIte, Nat.reduceEqDiff, Nat.reduceAdd, Nat.reduceMul, Nat.reduceSub, Nat.reduceLeDiff, Nat.reduceLT, Int.reduceLT, Int.reduceLE, Int.reduceEq, Int.reduceAdd, Int.reduceSub, Int.reduceNeg, Int.reduceToNat, List.mapM_cons, List.mapM_nil, Option.pure_def, Option.bind_eq_bind, eq_self, decide_true, decide_false, l48_7, p48_3, r0, r5, him2]
        rw [drawn (seq_d48_4 _)]
        simp (disch := first | omega | (simp only [rkl]; omega)) only [rk1, rk2, rk3, rk4, rk5, Arg.get, ret1, AV.cells, AV.isCell, addOff, minmaxL, Cap.room, Cap.cut, cutI, isSt, resultOf, Function.comp_apply, Function.comp_def, beq_self_eq_true, if_true, if_false, ite_true, ite_false, reduceCtorEq, bne_self_eq_false, Option.some.injEq, Prod.mk.injEq, ↓reduceIte, Nat.reduceEqDiff, Nat.reduceAdd, Nat.reduceMul, Nat.reduceSub, Nat.reduceLeDiff, Nat.reduceLT, Int.reduceLT, Int.reduceLE, Int.reduceEq, Int.reduceAdd, Int.reduceSub, Int.reduceNeg, Int.reduceToNat, List.mapM_cons, List.mapM_nil, Option.pure_def, Option.bind_eq_bind, eq_self, decide_true, decide_false, d48_4, r0, r3, r5, hep, hpt, hg, he, p48_5]
        exact ⟨_, rfl, by simp (disch := first | omega | (simp only [rkl]; omega)) only [rk1, rk2, rk3, rk4, rk5, Arg.get, ret1, AV.cells, AV.isCell, addOff, minmaxL, Cap.room, Cap.cut, cutI, isSt, resultOf, Function.comp_apply, Function.comp_def, beq_self_eq_true, if_true, if_false, ite_true, ite_false, reduceCtorEq, bne_self_eq_false, Option.some.injEq, Prod.mk.injEq, ↓reduceIte, Nat.reduceEqDiff, Nat.reduceAdd, Nat.reduceMul, Nat.reduceSub, Nat.reduceLeDiff, Nat.reduceLT, Int.reduceLT, Int.reduceLE, Int.reduceEq, Int.reduceAdd, Int.reduceSub, Int.reduceNeg, Int.reduceToNat, List.mapM_cons, List.mapM_nil, Option.pure_def, Option.bind_eq_bind, eq_self, decide_true, decide_false]⟩
      obtain ⟨ρ', h1, h2⟩ := hrun
      exact ⟨ρ', h1, by simpa using h2⟩
    | false =>
      rw [hb] at he
      have hround : ∃ ρ1, run (tab hsS) l48_7 ρ σ = some (.normal, ρ1, σ) ∧ ρ1 0 = ρ 0 ∧ ρ1 3 = ρ 3 ∧ ρ1 5 = .int .i64 (i + 1 : Nat) := by
        simp (disch := first | omega | (simp only [rkl]; omega)) only [rk1, rk2, rk3, rk4, rk5, Arg.get, ret1, AV.cells, AV.isCell, addOff, minmaxL, Cap.room, Cap.cut, cutI, isSt, resultOf, Function.comp_apply, Function.comp_def, beq_self_eq_true, if_true, if_false, ite_true, ite_false, reduceCtorEq, bne_self_eq_false, Option.some.injEq, Prod.mk.injEq, ↓reduceIte, Nat.reduceEqDiff, Nat.reduceAdd, Nat.reduceMul, Nat.reduceSub, Nat.reduceLeDiff, Nat.reduceLT, Int.reduceLT, Int.reduceLE, Int.reduceEq, Int.reduceAdd, Int.reduceSub, Int.reduceNeg, Int.reduceToNat, List.mapM_cons, List.mapM_nil, Option.pure_def, Option.bind_eq_bind, eq_self, decide_true, decide_false, l48_7, p48_3, r0, r5, him2]
        rw [drawn (seq_d48_4 _)]
        simp (disch := first | omega | (simp only [rkl]; omega)) only [rk1, rk2, rk3, rk4, rk5, Arg.get, ret1, AV.cells, AV.isCell, addOff, minmaxL, Cap.room, Cap.cut, cutI, isSt, resultOf, Function.comp_apply, Function.comp_def, beq_self_eq_true, if_true, if_false, ite_true, ite_false, reduceCtorEq, bne_self_eq_false, Option.some.injEq, Prod.mk.injEq, ↓reduceIte, Nat.reduceEqDiff, Nat.reduceAdd, Nat.reduceMul, Nat.reduceSub, Nat.reduceLeDiff, Nat.reduceLT, Int.reduceLT, Int.reduceLE, Int.reduceEq, Int.reduceAdd, Int.reduceSub, Int.reduceNeg, Int.reduceToNat, List.mapM_cons, List.mapM_nil, Option.pure_def, Option.bind_eq_bind, eq_self, decide_true, decide_false, d48_4, r0, r3, r5, hep, hpt, hg, he, p48_6]
        exact ⟨_, rfl, by simp (disch := first | omega | (simp only [rkl]; omega)) only [rk1, rk2, rk3, rk4, rk5, Arg.get, ret1, AV.cells, AV.isCell, addOff, minmaxL, Cap.room, Cap.cut, cutI, isSt, resultOf, Function.comp_apply, Function.comp_def, beq_self_eq_true, if_true, if_false, ite_true, ite_false, reduceCtorEq, bne_self_eq_false, Option.some.injEq, Prod.mk.injEq, ↓reduceIte, Nat.reduceEqDiff, Nat.reduceAdd, Nat.reduceMul, Nat.reduceSub, Nat.reduceLeDiff, Nat.reduceLT, Int.reduceLT, Int.reduceLE, Int.reduceEq, Int.reduceAdd, Int.reduceSub, Int.reduceNeg, Int.reduceToNat, List.mapM_cons, List.mapM_nil, Option.pure_def, Option.bind_eq_bind, eq_self, decide_true, decide_false, r0], by simp (disch := first | omega | (simp only [rkl]; omega)) only [rk1, rk2, rk3, rk4, rk5, Arg.get, ret1, AV.cells, AV.isCell, addOff, minmaxL, Cap.room, Cap.cut, cutI, isSt, resultOf, Function.comp_apply, Function.comp_def, beq_self_eq_true, if_true, if_false, ite_true, ite_false, reduceCtorEq, bne_self_eq_false, Option.some.injEq, Prod.mk.injEq, ↓reduceIte, Nat.reduceEqDiff, Nat.reduceAdd, Nat.reduceMul, Nat.reduceSub, Nat.reduceLeDiff, Nat.reduceLT, Int.reduceLT, Int.reduceLE, Int.reduceEq, Int.reduceAdd, Int.reduceSub, Int.reduceNeg, Int.reduceToNat, List.mapM_cons, List.mapM_nil, Option.pure_def, Option.bind_eq_bind, eq_self, decide_true, decide_false, r3], by simp (disch := first | omega | (simp only [rkl]; omega)) only [rk1, rk2, rk3, rk4, rk5, Arg.get, ret1, AV.cells, AV.isCell, addOff, minmaxL, Cap.room, Cap.cut, cutI, isSt, resultOf, Function.comp_apply, Function.comp_def, beq_self_eq_true, if_true, if_false, ite_true, ite_false, reduceCtorEq, bne_self_eq_false, Option.some.injEq, Prod.mk.injEq, ↓reduceIte, Nat.reduceEqDiff, Nat.reduceAdd, Nat.reduceMul, Nat.reduceSub, Nat.reduceLeDiff, Nat.reduceLT, Int.reduceLT, Int.reduceLE, Int.reduceEq, Int.reduceAdd, Int.reduceSub, Int.reduceNeg, Int.reduceToNat, List.mapM_cons, List.mapM_nil, Option.pure_def, Option.bind_eq_bind, eq_self, decide_true, decide_false, Int.natCast_add, Int.cast_ofNat_Int]⟩
      obtain ⟨ρ1, e1, q0, q3, q5⟩ := hround
      obtain ⟨ρ2, h2⟩ := at_loop hl hg m (i + 1) (by omega) (q0.trans r0) (q3.trans r3) q5
      refine ⟨ρ2, ?_⟩
      rw [run_loop, e1]
      cases hf : (rows.drop (i + 1)).findIdx? (hit rk v u) with
      | none =>
        rw [hf] at h2
        simp only [Bool.false_eq_true, if_false, Option.map_none]
        simp (disch := first | omega | (simp only [rkl]; omega)) only [rk1, rk2, rk3, rk4, rk5, Arg.get, ret1, AV.cells, AV.isCell, addOff, minmaxL, Cap.room, Cap.cut, cutI, isSt, resultOf, Function.comp_apply, Function.comp_def, beq_self_eq_true, if_true, if_false, ite_true, ite_false, reduceCtorEq, bne_self_eq_false, Option.some.injEq, Prod.mk.injEq, ↓reduceIte, Nat.reduceEqDiff, Nat.reduceAdd, Nat.reduceMul, Nat.reduceSub, Nat.reduceLeDiff, Nat.reduceLT, Int.reduceLT, Int.reduceLE, Int.reduceEq, Int.reduceAdd, Int.reduceSub, Int.reduceNeg, Int.reduceToNat, List.mapM_cons, List.mapM_nil, Option.pure_def, Option.bind_eq_bind, eq_self, decide_true, decide_false]; exact h2
      | some j =>
        rw [hf] at h2
        simp only [Bool.false_eq_true, if_false, Option.map_some]
        refine ⟨by simp (disch := first | omega | (simp only [rkl]; omega)) only [rk1, rk2, rk3, rk4, rk5, Arg.get, ret1, AV.cells, AV.isCell, addOff, minmaxL, Cap.room, Cap.cut, cutI, isSt, resultOf, Function.comp_apply, Function.comp_def, beq_self_eq_true, if_true, if_false, ite_true, ite_false, reduceCtorEq, bne_self_eq_false, Option.some.injEq, Prod.mk.injEq, ↓reduceIte, Nat.reduceEqDiff, Nat.reduceAdd, Nat.reduceMul, Nat.reduceSub, Nat.reduceLeDiff, Nat.reduceLT, Int.reduceLT, Int.reduceLE, Int.reduceEq, Int.reduceAdd, Int.reduceSub, Int.reduceNeg, Int.reduceToNat, List.mapM_cons, List.mapM_nil, Option.pure_def, Option.bind_eq_bind, eq_self, decide_true, decide_false]; exact h2.1, ?_⟩
        rw [h2.2]; congr 1; omega

theorem at_pure {rows : List Rw} (hl : rows.length < 2 ^ 40) {h : Hint} : pureOf (run (tab hsS)) ⟨20, 2, code48, [.tmp 4], h⟩ [.isl fl (rws rows) rows.length none, .agg [.int .u32 v, .int .u32 u]] = some (.int .i64 (posI (posOf rk rows v u))) := by
  have hz : newCells emptySt [.int .u32 v, .int .u32 u] = some (⟨0, 0, 0⟩, emptySt.new [.int .u32 v, .int .u32 u]) := newCells_ok rfl
  have hg : (emptySt.new [.int .u32 v, .int .u32 u]).get ⟨0, 0, 0⟩ = some [.int .u32 v, .int .u32 u] := by rw [get_new]; exact if_pos rfl
  have key : ∀ (ρ : Env) r, run (tab hsS) (.loop l48_7) ρ (emptySt.new [.int .u32 v, .int .u32 u]) = r → ρ 0 = .isl fl (rws rows) rows.length none → ρ 3 = .ptr ⟨0, 0, 0⟩ 0 → ρ 5 = .int .i64 0 →
      ∃ ρ', match posOf rk rows v u with
        | some j => r = some (.ret, ρ', emptySt.new [.int .u32 v, .int .u32 u]) ∧ ρ' 4 = .int .i64 j
        | none => r = some (.exit 0, ρ', emptySt.new [.int .u32 v, .int .u32 u]) := by
    intro ρ r hr r0 r3 r5
    subst hr
    have := at_loop (fl := fl) hl hg rows.length 0 (by omega) r0 r3 r5
    rw [List.drop_zero] at this
    unfold posOf
    simpa using this
  simp (disch := first | omega | (simp only [rkl]; omega)) only [rk1, rk2, rk3, rk4, rk5, Arg.get, ret1, AV.cells, AV.isCell, addOff, minmaxL, Cap.room, Cap.cut, cutI, isSt, resultOf, Function.comp_apply, Function.comp_def, beq_self_eq_true, if_true, if_false, ite_true, ite_false, reduceCtorEq, bne_self_eq_false, Option.some.injEq, Prod.mk.injEq, ↓reduceIte, Nat.reduceEqDiff, Nat.reduceAdd, Nat.reduceMul, Nat.reduceSub, Nat.reduceLeDiff, Nat.reduceLT, Int.reduceLT, Int.reduceLE, Int.reduceEq, Int.reduceAdd, Int.reduceSub, Int.reduceNeg, Int.reduceToNat, List.mapM_cons, List.mapM_nil, Option.pure_def, Option.bind_eq_bind, eq_self, decide_true, decide_false, code48, p48_1, p48_2, hz]
  generalize hr : run (tab hsS) (.loop l48_7) _ _ = r
  obtain ⟨ρ', h'⟩ := key _ _ hr (by simp (disch := first | omega | (simp only [rkl]; omega)) only [rk1, rk2, rk3, rk4, rk5, Arg.get, ret1, AV.cells, AV.isCell, addOff, minmaxL, Cap.room, Cap.cut, cutI, isSt, resultOf, Function.comp_apply, Function.comp_def, beq_self_eq_true, if_true, if_false, ite_true, ite_false, reduceCtorEq, bne_self_eq_false, Option.some.injEq, Prod.mk.injEq, ↓reduceIte, Nat.reduceEqDiff, Nat.reduceAdd, Nat.reduceMul, Nat.reduceSub, Nat.reduceLeDiff, Nat.reduceLT, Int.reduceLT, Int.reduceLE, Int.reduceEq, Int.reduceAdd, Int.reduceSub, Int.reduceNeg, Int.reduceToNat, List.mapM_cons, List.mapM_nil, Option.pure_def, Option.bind_eq_bind, eq_self, decide_true, decide_false]) (by simp (disch := first | omega | (simp only [rkl]; omega)) only [rk1, rk2, rk3, rk4, rk5, Arg.get, ret1, AV.cells, AV.isCell, addOff, minmaxL, Cap.room, Cap.cut, cutI, isSt, resultOf, Function.comp_apply, Function.comp_def, beq_self_eq_true, if_true, if_false, ite_true, ite_false, reduceCtorEq, bne_self_eq_false, Option.some.injEq, Prod.mk.injEq, ↓reduceIte, Nat.reduceEqDiff, Nat.reduceAdd, Nat.reduceMul, Nat.reduceSub, Nat.reduceLeDiff, Nat.reduceLT, Int.reduceLT, Int.reduceLE, Int.reduceEq, Int.reduceAdd, Int.reduceSub, Int.reduceNeg, Int.reduceToNat, List.mapM_cons, List.mapM_nil, Option.pure_def, Option.bind_eq_bind, eq_self, decide_true, decide_false]) (by simp (disch := first | omega | (simp only [rkl]; omega)) only [rk1, rk2, rk3, rk4, rk5, Arg.get, ret1, AV.cells, AV.isCell, addOff, minmaxL, Cap.room, Cap.cut, cutI, isSt, resultOf, Function.comp_apply, Function.comp_def, beq_self_eq_true, if_true, if_false, ite_true, ite_false, reduceCtorEq, bne_self_eq_false, Option.some.injEq, Prod.mk.injEq, ↓reduceIte, Nat.reduceEqDiff, Nat.reduceAdd, Nat.reduceMul, Nat.reduceSub, Nat.reduceLeDiff, Nat.reduceLT, Int.reduceLT, Int.reduceLE, Int.reduceEq, Int.reduceAdd, Int.reduceSub, Int.reduceNeg, Int.reduceToNat, List.mapM_cons, List.mapM_nil, Option.pure_def, Option.bind_eq_bind, eq_self, decide_true, decide_false])
  cases hp : posOf rk rows v u with
  | none =>
    rw [hp] at h'
    subst h'
    simp (disch := first | omega | (simp only [rkl]; omega)) only [rk1, rk2, rk3, rk4, rk5, Arg.get, ret1, AV.cells, AV.isCell, addOff, minmaxL, Cap.room, Cap.cut, cutI, isSt, resultOf, Function.comp_apply, Function.comp_def, beq_self_eq_true, if_true, if_false, ite_true, ite_false, reduceCtorEq, bne_self_eq_false, Option.some.injEq, Prod.mk.injEq, ↓reduceIte, Nat.reduceEqDiff, Nat.reduceAdd, Nat.reduceMul, Nat.reduceSub, Nat.reduceLeDiff, Nat.reduceLT, Int.reduceLT, Int.reduceLE, Int.reduceEq, Int.reduceAdd, Int.reduceSub, Int.reduceNeg, Int.reduceToNat, List.mapM_cons, List.mapM_nil, Option.pure_def, Option.bind_eq_bind, eq_self, decide_true, decide_false, p48_8, posI]
  | some j =>
    rw [hp] at h'
    obtain ⟨rfl, q4⟩ := h'
    simp (disch := first | omega | (simp only [rkl]; omega)) only [rk1, rk2, rk3, rk4, rk5, Arg.get, ret1, AV.cells, AV.isCell, addOff, minmaxL, Cap.room, Cap.cut, cutI, isSt, resultOf, Function.comp_apply, Function.comp_def, beq_self_eq_true, if_true, if_false, ite_true, ite_false, reduceCtorEq, bne_self_eq_false, Option.some.injEq, Prod.mk.injEq, ↓reduceIte, Nat.reduceEqDiff, Nat.reduceAdd, Nat.reduceMul, Nat.reduceSub, Nat.reduceLeDiff, Nat.reduceLT, Int.reduceLT, Int.reduceLE, Int.reduceEq, Int.reduceAdd, Int.reduceSub, Int.reduceNeg, Int.reduceToNat, List.mapM_cons, List.mapM_nil, Option.pure_def, Option.bind_eq_bind, eq_self, decide_true, decide_false, q4, posI]

theorem at_ev {σ : St} {a : AV} {rows : List Rw} (h : RowL σ a rows) (hl : rows.length < 2 ^ 40) : ev (tab hsS) 48 [a, .agg [.int .u32 v, .int .u32 u]] σ = some (.int .i64 (posI (posOf rk rows v u)), σ) := by
  obtain ⟨fl, hs⟩ := h.snap
  exact pure_ev (tab48 hsS) (snaps_cons hs (snaps_cons rfl (snaps_nil _))) (at_pure hl)
end

section
variable {fl : Bool}
theorem size_loop {rows : List Rw} (hl : rows.length ≤ 1000) (hb : ∀ r ∈ rows, 0 ≤ r.k.sz ∧ r.k.sz ≤ 1048576) {σ : St} : ∀ (m i : Nat), i + m = rows.length → ∀ {ρ : Env} {t : Int}, ρ 0 = .isl fl (rws rows) rows.length none → ρ 3 = .int .i64 t → ρ 4 = .int .i64 i → 0 ≤ t → t ≤ (i : Int) * 1048576 →
    ∃ ρ', run (tab hsS) (.loop l53_7) ρ σ = some (.exit 0, ρ', σ) ∧ ρ' 3 = .int .i64 (t + sumR (rows.drop i)) := by
  intro m
  induction m with
  | zero =>
    intro i him ρ t r0 r3 r4 h0 h1
    have hi : i = rows.length := by omega
    subst hi
    rw [List.drop_length, run_loop]
    simp (disch := first | omega | (simp only [rkl]; omega)) only [rk1, rk2, rk3, rk4, rk5, Arg.get, ret1, AV.cells, AV.isCell, addOff, minmaxL, Cap.room, Cap.cut, cutI, isSt, resultOf, Function.comp_apply, Function.comp_def, beq_self_eq_true, if_true, if_false, ite_true, ite_false, reduceCtorEq, bne_self_eq_false, Option.some.injEq, Prod.mk.injEq, ↓reduceIte, Nat.reduceEqDiff, Nat.reduceAdd, Nat.reduceMul, Nat.reduceSub, Nat.reduceLeDiff, Nat.reduceLT, Int.reduceLT, Int.reduceLE, Int.reduceEq, Int.reduceAdd, Int.reduceSub, Int.reduceNeg, Int.reduceToNat, List.mapM_cons, List.mapM_nil, Option.pure_def, Option.bind_eq_bind, eq_self, decide_true, decide_false, l53_7, p53_4, r0, r4]
    exact ⟨_, rfl, by simp (disch := first | omega | (simp only [rkl]; omega)) only [rk1, rk2, rk3, rk4, rk5, Arg.get, ret1, AV.cells, AV.isCell, addOff, minmaxL, Cap.room, Cap.cut, cutI, isSt, resultOf, Function.comp_apply, Function.comp_def, beq_self_eq_true, if_true, if_false, ite_true, ite_false, reduceCtorEq, bne_self_eq_false, Option.some.injEq, Prod.mk.injEq, ↓reduceIte, Nat.reduceEqDiff, Nat.reduceAdd, Nat.reduceMul, Nat.reduceSub, Nat.reduceLeDiff, Nat.reduceLT, Int.reduceLT, Int.reduceLE, Int.reduceEq, Int.reduceAdd, Int.reduceSub, Int.reduceNeg, Int.reduceToNat, List.mapM_cons, List.mapM_nil, Option.pure_def, Option.bind_eq_bind, eq_self, decide_true, decide_false, r3]; simp [sumR]⟩
  | succ m ih =>
    intro i him ρ t r0 r3 r4 h0 h1
    have hi : i < rows.length := by omega
    have hx := List.getElem?_eq_getElem hi
    have hat := rws_at (junk := []) hx
    have hm5 : (i + 1) * 5 ≤ rows.length * 5 := Nat.mul_le_mul_right _ hi
    have hdrop := List.drop_eq_getElem_cons hi
    have hbx := hb _ (List.getElem_mem hi)
    generalize rows[i] = x at *
    rw [List.append_nil] at hat
    have hp1 : Vm.part false 1 (i * 5 + 2) (rws rows) = some (.int .i64 x.k.sz) := by
      rw [part_one (by rw [rws_len]; omega)]
      have h1 : (List.take 5 (List.drop (i * 5) (rws rows)))[2]? = some (.int .i64 x.k.sz) := by rw [hat]; rfl
      rw [List.getElem?_take] at h1
      simpa using h1
    have hep : elemPtr 5 i (.isl fl (rws rows) rows.length none) = some (.iptr fl (rws rows) (i * 5)) := elemPtr_isl hi (by rw [rws_len]; omega)
    have him2 : (i : Int) < (rows.length : Int) := by omega
    have hround : ∃ ρ1, run (tab hsS) l53_7 ρ σ = some (.normal, ρ1, σ) ∧ ρ1 0 = ρ 0 ∧ ρ1 3 = .int .i64 (t + x.k.sz) ∧ ρ1 4 = .int .i64 (i + 1 : Nat) := by
      simp (disch := first | omega | (simp only [rkl]; omega)) only [rk1, rk2, rk3, rk4, rk5, Arg.get, ret1, AV.cells, AV.isCell, addOff, minmaxL, Cap.room, Cap.cut, cutI, isSt, resultOf, Function.comp_apply, Function.comp_def, beq_self_eq_true, if_true, if_false, ite_true, ite_false, reduceCtorEq, bne_self_eq_false, Option.some.injEq, Prod.mk.injEq, ↓reduceIte, Nat.reduceEqDiff, Nat.reduceAdd, Nat.reduceMul, Nat.reduceSub, Nat.reduceLeDiff, Nat.reduceLT, Int.reduceLT, Int.reduceLE, Int.reduceEq, Int.reduceAdd, Int.reduceSub, Int.reduceNeg, Int.reduceToNat, List.mapM_cons, List.mapM_nil, Option.pure_def, Option.bind_eq_bind, eq_self, decide_true, decide_false, l53_7, p53_4, p53_5, p53_6, r0, r3, r4, him2, hep, hp1]
      exact ⟨_, rfl, by simp (disch := first | omega | (simp only [rkl]; omega)) only [rk1, rk2, rk3, rk4, rk5, Arg.get, ret1, AV.cells, AV.isCell, addOff, minmaxL, Cap.room, Cap.cut, cutI, isSt, resultOf, Function.comp_apply, Function.comp_def, beq_self_eq_true, if_true, if_false, ite_true, ite_false, reduceCtorEq, bne_self_eq_false, Option.some.injEq, Prod.mk.injEq, ↓reduceIte, Nat.reduceEqDiff, Nat.reduceAdd, Nat.reduceMul, Nat.reduceSub, Nat.reduceLeDiff, Nat.reduceLT, Int.reduceLT, Int.reduceLE, Int.reduceEq, Int.reduceAdd, Int.reduceSub, Int.reduceNeg, Int.reduceToNat, List.mapM_cons, List.mapM_nil, Option.pure_def, Option.bind_eq_bind, eq_self, decide_true, decide_false, r0], by simp (disch := first | omega | (simp only [rkl]; omega)) only [rk1, rk2, rk3, rk4, rk5, Arg.get, ret1, AV.cells, AV.isCell, addOff, minmaxL, Cap.room, Cap.cut, cutI, isSt, resultOf, Function.comp_apply, Function.comp_def, beq_self_eq_true, if_true, if_false, ite_true, ite_false, reduceCtorEq, bne_self_eq_false, Option.some.injEq, Prod.mk.injEq, ↓reduceIte, Nat.reduceEqDiff, Nat.reduceAdd, Nat.reduceMul, Nat.reduceSub, Nat.reduceLeDiff, Nat.reduceLT, Int.reduceLT, Int.reduceLE, Int.reduceEq, Int.reduceAdd, Int.reduceSub, Int.reduceNeg, Int.reduceToNat, List.mapM_cons, List.mapM_nil, Option.pure_def, Option.bind_eq_bind, eq_self, decide_true, decide_false], by simp (disch := first | omega | (simp only [rkl]; omega)) only [rk1, rk2, rk3, rk4, rk5, Arg.get, ret1, AV.cells, AV.isCell, addOff, minmaxL, Cap.room, Cap.cut, cutI, isSt, resultOf, Function.comp_apply, Function.comp_def, beq_self_eq_true, if_true, if_false, ite_true, ite_false, reduceCtorEq, bne_self_eq_false, Option.some.injEq, Prod.mk.injEq, ↓reduceIte, Nat.reduceEqDiff, Nat.reduceAdd, Nat.reduceMul, Nat.reduceSub, Nat.reduceLeDiff, Nat.reduceLT, Int.reduceLT, Int.reduceLE, Int.reduceEq, Int.reduceAdd, Int.reduceSub, Int.reduceNeg, Int.reduceToNat, List.mapM_cons, List.mapM_nil, Option.pure_def, Option.bind_eq_bind, eq_self, decide_true, decide_false, Int.natCast_add, Int.cast_ofNat_Int]⟩
    obtain ⟨ρ1, e1, q0, q3, q4⟩ := hround
    obtain ⟨ρ2, e2, p3⟩ := ih (i + 1) (by omega) (q0.trans r0) q3 q4 (by omega) (by rw [Int.natCast_add, Int.add_mul]; omega)
    refine ⟨ρ2, by rw [run_loop, e1]; simp (disch := first | omega | (simp only [rkl]; omega)) only [rk1, rk2, rk3, rk4, rk5, Arg.get, ret1, AV.cells, AV.isCell, addOff, minmaxL, Cap.room, Cap.cut, cutI, isSt, resultOf, Function.comp_apply, Function.comp_def, beq_self_eq_true, if_true, if_false, ite_true, ite_false, reduceCtorEq, bne_self_eq_false, Option.some.injEq, Prod.mk.injEq, ↓reduceIte, Nat.reduceEqDiff, Nat.reduceAdd, Nat.reduceMul, Nat.reduceSub, Nat.reduceLeDiff, Nat.reduceLT, Int.reduceLT, Int.reduceLE, Int.reduceEq, Int.reduceAdd, Int.reduceSub, Int.reduceNeg, Int.reduceToNat, List.mapM_cons, List.mapM_nil, Option.pure_def, Option.bind_eq_bind, eq_self, decide_true, decide_false]; exact e2, ?_⟩
    rw [p3, hdrop]
    simp only [sumR, List.map_cons, List.sum_cons]
    congr 1; omega

theorem size_rows {σ : St} {a : AV} {rows : List Rw} (h : RowL σ a rows) (hl : rows.length ≤ 1000) (hb : ∀ r ∈ rows, 0 ≤ r.k.sz ∧ r.k.sz ≤ 1048576) : ev (tab hsS) 53 [a] σ = some (.int .i64 (sumR rows), σ) := by
  obtain ⟨fl, hs⟩ := h.snap
  refine pure_ev (tab53 hsS) (snaps_cons hs (snaps_nil _)) ?_
  have key : ∀ (ρ : Env) r, run (tab hsS) (.loop l53_7) ρ emptySt = r → ρ 0 = .isl fl (rws rows) rows.length none → ρ 3 = .int .i64 0 → ρ 4 = .int .i64 0 → ∃ ρ', r = some (.exit 0, ρ', emptySt) ∧ ρ' 3 = .int .i64 (sumR rows) := by
    intro ρ r hr r0 r3 r4
    subst hr
    have := size_loop hl hb (σ := emptySt) rows.length 0 (by omega) r0 r3 r4 (by omega) (by omega)
    simpa using this
  simp (disch := first | omega | (simp only [rkl]; omega)) only [rk1, rk2, rk3, rk4, rk5, Arg.get, ret1, AV.cells, AV.isCell, addOff, minmaxL, Cap.room, Cap.cut, cutI, isSt, resultOf, Function.comp_apply, Function.comp_def, beq_self_eq_true, if_true, if_false, ite_true, ite_false, reduceCtorEq, bne_self_eq_false, Option.some.injEq, Prod.mk.injEq, ↓reduceIte, Nat.reduceEqDiff, Nat.reduceAdd, Nat.reduceMul, Nat.reduceSub, Nat.reduceLeDiff, Nat.reduceLT, Int.reduceLT, Int.reduceLE, Int.reduceEq, Int.reduceAdd, Int.reduceSub, Int.reduceNeg, Int.reduceToNat, List.mapM_cons, List.mapM_nil, Option.pure_def, Option.bind_eq_bind, eq_self, decide_true, decide_false, code53, p53_1, p53_2, p53_3]
  generalize hr : run (tab hsS) (.loop l53_7) _ _ = r
  obtain ⟨ρ', rfl, q3⟩ := key _ _ hr (by simp (disch := first | omega | (simp only [rkl]; omega)) only [rk1, rk2, rk3, rk4, rk5, Arg.get, ret1, AV.cells, AV.isCell, addOff, minmaxL, Cap.room, Cap.cut, cutI, isSt, resultOf, Function.comp_apply, Function.comp_def, beq_self_eq_true, if_true, if_false, ite_true, ite_false, reduceCtorEq, bne_self_eq_false, Option.some.injEq, Prod.mk.injEq, ↓reduceIte, Nat.reduceEqDiff, Nat.reduceAdd, Nat.reduceMul, Nat.reduceSub, Nat.reduceLeDiff, Nat.reduceLT, Int.reduceLT, Int.reduceLE, Int.reduceEq, Int.reduceAdd, Int.reduceSub, Int.reduceNeg, Int.reduceToNat, List.mapM_cons, List.mapM_nil, Option.pure_def, Option.bind_eq_bind, eq_self, decide_true, decide_false]) (by simp (disch := first | omega | (simp only [rkl]; omega)) only [rk1, rk2, rk3, rk4, rk5, Arg.get, ret1, AV.cells, AV.isCell, addOff, minmaxL, Cap.room, Cap.cut, cutI, isSt, resultOf, Function.comp_apply, Function.comp_def, beq_self_eq_true, if_true, if_false, ite_true, ite_false, reduceCtorEq, bne_self_eq_false, Option.some.injEq, Prod.mk.injEq, ↓reduceIte, Nat.reduceEqDiff, Nat.reduceAdd, Nat.reduceMul, Nat.reduceSub, Nat.reduceLeDiff, Nat.reduceLT, Int.reduceLT, Int.reduceLE, Int.reduceEq, Int.reduceAdd, Int.reduceSub, Int.reduceNeg, Int.reduceToNat, List.mapM_cons, List.mapM_nil, Option.pure_def, Option.bind_eq_bind, eq_self, decide_true, decide_false]) (by simp (disch := first | omega | (simp only [rkl]; omega)) only [rk1, rk2, rk3, rk4, rk5, Arg.get, ret1, AV.cells, AV.isCell, addOff, minmaxL, Cap.room, Cap.cut, cutI, isSt, resultOf, Function.comp_apply, Function.comp_def, beq_self_eq_true, if_true, if_false, ite_true, ite_false, reduceCtorEq, bne_self_eq_false, Option.some.injEq, Prod.mk.injEq, ↓reduceIte, Nat.reduceEqDiff, Nat.reduceAdd, Nat.reduceMul, Nat.reduceSub, Nat.reduceLeDiff, Nat.reduceLT, Int.reduceLT, Int.reduceLE, Int.reduceEq, Int.reduceAdd, Int.reduceSub, Int.reduceNeg, Int.reduceToNat, List.mapM_cons, List.mapM_nil, Option.pure_def, Option.bind_eq_bind, eq_self, decide_true, decide_false])
  simp (disch := first | omega | (simp only [rkl]; omega)) only [rk1, rk2, rk3, rk4, rk5, Arg.get, ret1, AV.cells, AV.isCell, addOff, minmaxL, Cap.room, Cap.cut, cutI, isSt, resultOf, Function.comp_apply, Function.comp_def, beq_self_eq_true, if_true, if_false, ite_true, ite_false, reduceCtorEq, bne_self_eq_false, Option.some.injEq, Prod.mk.injEq, ↓reduceIte, Nat.reduceEqDiff, Nat.reduceAdd, Nat.reduceMul, Nat.reduceSub, Nat.reduceLeDiff, Nat.reduceLT, Int.reduceLT, Int.reduceLE, Int.reduceEq, Int.reduceAdd, Int.reduceSub, Int.reduceNeg, Int.reduceToNat, List.mapM_cons, List.mapM_nil, Option.pure_def, Option.bind_eq_bind, eq_self, decide_true, decide_false, p53_8, q3]

theorem less82 (a b : Rw) (σ : St) : ev (tab hsS) 82 [.agg (rwc a), .agg (rwc b)] σ = some (.bool (ltK a.k b.k), σ) := by
  refine pure_ev (tab82 hsS) (snaps_cons (y := .agg (rwc a)) rfl (snaps_cons (y := .agg (rwc b)) rfl (snaps_nil _))) ?_
  have hz : ∀ (s : St) (r : Rw), newCells s (rwc r) = some (⟨s.next, 0, 0⟩, s.new (rwc r)) := fun s r => newCells_ok rfl
  have g1 : ((emptySt.new (rwc a)).new (rwc b)).get ⟨0, 0, 0⟩ = some (rwc a) := by rw [new_get (by show 0 < 0 + 1; omega), get_new]; exact if_pos rfl
  have g2 : ((emptySt.new (rwc a)).new (rwc b)).get ⟨1, 0, 0⟩ = some (rwc b) := by rw [get_new]; exact if_pos rfl
  have p0 : ∀ r : Rw, Vm.part false 1 0 (rwc r) = some (.int .u32 r.k.v) := fun r => rfl
  have p1 : ∀ r : Rw, Vm.part false 1 1 (rwc r) = some (.int .u32 r.k.u) := fun r => rfl
  have p3 : ∀ r : Rw, Vm.part false 1 3 (rwc r) = some (.int .i64 r.k.us) := fun r => rfl
  by_cases h1 : a.k.us = b.k.us
  · by_cases h2 : a.k.v = b.k.v
    · have hlt : ltK a.k b.k = decide (a.k.u < b.k.u) := by
        rw [Bool.eq_iff_iff, ltK_iff, decide_eq_true_iff]; omega
      simp (disch := first | omega | (simp only [rkl]; omega)) only [rk1, rk2, rk3, rk4, rk5, Arg.get, ret1, AV.cells, AV.isCell, addOff, minmaxL, Cap.room, Cap.cut, cutI, isSt, resultOf, Function.comp_apply, Function.comp_def, beq_self_eq_true, if_true, if_false, ite_true, ite_false, reduceCtorEq, bne_self_eq_false, Option.some.injEq, Prod.mk.injEq, ↓reduceIte, Nat.reduceEqDiff, Nat.reduceAdd, Nat.reduceMul, Nat.reduceSub, Nat.reduceLeDiff, Nat.reduceLT, Int.reduceLT, Int.reduceLE, Int.reduceEq, Int.reduceAdd, Int.reduceSub, Int.reduceNeg, Int.reduceToNat, List.mapM_cons, List.mapM_nil, Option.pure_def, Option.bind_eq_bind, eq_self, decide_true, decide_false, code82, p82_1, p82_2, p82_4, p82_6, hz, g1, g2, p0, p1, p3, h1, h2, hlt]
    · have hlt : ltK a.k b.k = decide (a.k.v < b.k.v) := by
        rw [Bool.eq_iff_iff, ltK_iff, decide_eq_true_iff]; omega
      simp (disch := first | omega | (simp only [rkl]; omega)) only [rk1, rk2, rk3, rk4, rk5, Arg.get, ret1, AV.cells, AV.isCell, addOff, minmaxL, Cap.room, Cap.cut, cutI, isSt, resultOf, Function.comp_apply, Function.comp_def, beq_self_eq_true, if_true, if_false, ite_true, ite_false, reduceCtorEq, bne_self_eq_false, Option.some.injEq, Prod.mk.injEq, ↓reduceIte, Nat.reduceEqDiff, Nat.reduceAdd, Nat.reduceMul, Nat.reduceSub, Nat.reduceLeDiff, Nat.reduceLT, Int.reduceLT, Int.reduceLE, Int.reduceEq, Int.reduceAdd, Int.reduceSub, Int.reduceNeg, Int.reduceToNat, List.mapM_cons, List.mapM_nil, Option.pure_def, Option.bind_eq_bind, eq_self, decide_true, decide_false, code82, p82_1, p82_2, p82_4, p82_5, hz, g1, g2, p0, p1, p3, h1, h2, hlt]
  · have hlt : ltK a.k b.k = decide (a.k.us < b.k.us) := by
      rw [Bool.eq_iff_iff, ltK_iff, decide_eq_true_iff]; omega
    simp (disch := first | omega | (simp only [rkl]; omega)) only [rk1, rk2, rk3, rk4, rk5, Arg.get, ret1, AV.cells, AV.isCell, addOff, minmaxL, Cap.room, Cap.cut, cutI, isSt, resultOf, Function.comp_apply, Function.comp_def, beq_self_eq_true, if_true, if_false, ite_true, ite_false, reduceCtorEq, bne_self_eq_false, Option.some.injEq, Prod.mk.injEq, ↓reduceIte, Nat.reduceEqDiff, Nat.reduceAdd, Nat.reduceMul, Nat.reduceSub, Nat.reduceLeDiff, Nat.reduceLT, Int.reduceLT, Int.reduceLE, Int.reduceEq, Int.reduceAdd, Int.reduceSub, Int.reduceNeg, Int.reduceToNat, List.mapM_cons, List.mapM_nil, Option.pure_def, Option.bind_eq_bind, eq_self, decide_true, decide_false, code82, p82_1, p82_2, p82_3, hz, g1, g2, p0, p1, p3, h1, hlt]
end
/-
  ShelfPlays: the law's own list is changed.
-/

theorem rws_set : ∀ {rows : List Rw} {k c : Nat} {r r' : Rw} {v : AV} {junk : List AV}, rows[k]? = some r → c < 5 → (rwc r).set c v = rwc r' → (rws rows ++ junk).set (k * 5 + c) v = rws (rows.set k r') ++ junk
  | y :: rows, 0, c, r, r', v, junk, h, hc, he => by
    simp only [List.getElem?_cons_zero, Option.some.injEq] at h; subst h
    simp only [rws, List.flatMap_cons, List.set_cons_zero, Nat.zero_mul, Nat.zero_add, List.append_assoc]
    rw [List.set_append_left _ _ (by simp [rwc]; omega), he]
  | y :: rows, k + 1, c, r, r', v, junk, h, hc, he => by
    have ih := rws_set (rows := rows) (k := k) (junk := junk) (by simpa using h) hc he
    have e : (k + 1) * 5 + c = (rwc y).length + (k * 5 + c) := by rw [show (rwc y).length = 5 from rfl]; omega
    simp only [rws, List.flatMap_cons, List.set_cons_succ, List.append_assoc] at ih ⊢
    rw [e, List.set_append_right _ _ (by omega), Nat.add_sub_cancel_left, ih]

theorem row_set {σ : St} {a : AV} {rows : List Rw} (h : RowL σ a rows) {k c : Nat} {r r' : Rw} {v : AV} (hk : rows[k]? = some r) (hc : c < 5) (he : (rwc r).set c v = rwc r') (hv : ∀ l, v ≠ .agg l) (hcell : v.isCell = true) :
    ∃ G cap, a = .sl G 0 rows.length cap 5 ∧ elemPtr 5 k a = some (.ptr G (k * 5)) ∧ ∃ σ', storeAt σ 1 (.ptr G (k * 5 + c)) v = some σ' ∧ RowL σ' a (rows.set k r') ∧ Only σ σ' (fun q => q = G) := by
  have hkl : k < rows.length := (List.getElem?_eq_some_iff.1 hk).1
  rcases h with ⟨_, h⟩ | ⟨G, cap, junk, rfl, h1, h2, h3⟩
  · subst h; simp at hkl
  · have hm5 : (k + 1) * 5 ≤ rows.length * 5 := Nat.mul_le_mul_right _ hkl
    refine ⟨G, cap, rfl, by rw [elemPtr_sl hkl]; simp, σ.set G (some (.cells (rws (rows.set k r') ++ junk))), ?_, .inr ⟨G, cap, junk, by simp, get_set_same _ _ _, by simpa using h2, by simpa using h3⟩, ⟨rfl, rfl, fun q hq => by simp [St.set, hq]⟩⟩
    rw [store_one h1 (by rw [List.length_append, rws_len]; omega) hv hcell, rws_set hk hc he]

/-- One more. -/
theorem app_rowL {s : St} {a : AV} {rows : List Rw} (h : RowL s a rows) (few : rows.length < 2 ^ 30) (r : Rw) :
    ∃ s' a', appendTo s 5 32 1 (rwc r) a = some (a', s') ∧ RowL s' a' (rows ++ [r]) ∧ s.next ≤ s'.next ∧ s'.ver = s.ver ∧ (∀ q, q.o < s.next → refId a ≠ some q → s'.heap q = s.heap q) ∧ (∀ G, refId a' = some G → refId a = some G ∨ (s.next ≤ G.o ∧ G.o < s'.next)) := by
  have e1 : rws [r] = rwc r := by simp [rws]
  have hc1 : (rwc r).all AV.isCell = true := rfl
  rcases h with ⟨rfl, rfl⟩ | ⟨G, cap, junk, rfl, hg, h2, h3⟩
  · refine ⟨s.new (rwc r), .sl ⟨s.next, 0, 0⟩ 0 1 (.ge 1) 5, ?_, .inr ⟨_, _, [], rfl, ?_, by simp [Cap.room], by simp [Cap.room]⟩, by simp [St.new], rfl, fun q hq _ => (Frm.new s _ (fun _ => False)).heap q hq (fun h => h), fun G hG => ?_⟩
    · rw [append_nil' (by omega) (by decide) hc1]
    · rw [get_new, if_pos rfl]; simp [rws]
    · simp only [refId, Option.some.injEq] at hG; subst hG; exact .inr ⟨Nat.le_refl _, by simp [St.new]⟩
  · by_cases hr : rows.length + 1 ≤ cap.room
    · refine ⟨s.set G (some (.cells (rws (rows ++ [r]) ++ junk.drop 5))), .sl G 0 (rows.length + 1) cap 5, ?_, .inr ⟨G, cap, junk.drop 5, by simp, get_set_same _ _ _, by simpa using hr, by simp only [List.length_append, List.length_cons, List.length_nil, List.length_drop]; omega⟩, by simp [St.set], rfl, fun q hq hne => ?_, fun G' hG => .inl hG⟩
      · simp only [appendTo, hg]
        rw [if_neg (by simp), if_pos hr]
        simp only [Vm.storeCells, hg]
        rw [if_pos ⟨by rw [List.length_append, rws_len]; simp [rwc]; omega, hc1⟩]
        simp only [Option.map_some, Nat.zero_add]
        congr 3
        simp only [splice]
        rw [List.take_left' (rws_len rows), rws_app, e1, List.append_assoc]
        have hd : List.drop (rows.length * 5 + (rwc r).length) (rws rows ++ junk) = junk.drop 5 := by
          rw [← List.drop_drop, List.drop_left' (rws_len rows)]; rfl
        rw [hd]
      · have e : q ≠ G := fun e => hne (by simp [refId, e])
        simp [St.set, e]
    · have hmx : (rows.length + 1) * 32 ≤ lenMax := by have : lenMax = 2 ^ 46 := rfl; omega
      have e : List.take (rows.length * 5) (List.drop 0 (rws rows ++ junk)) ++ rwc r = rws (rows ++ [r]) := by
        rw [List.drop_zero, List.take_left' (rws_len rows), rws_app, e1]
      have gn : ∀ (s : St) (cs : List AV), (s.new cs).next = s.next + 1 := fun _ _ => rfl
      cases cap with
      | ex c =>
        refine ⟨s.new (rws (rows ++ [r])), .sl ⟨s.next, 0, 0⟩ 0 (rows.length + 1) (.ge (rows.length + 1)) 5, ?_, (.inr ⟨⟨s.next, 0, 0⟩, .ge (rows.length + 1), [], by simp, by rw [get_new, if_pos rfl, List.append_nil], by simp [Cap.room], by simp [Cap.room]⟩), by simp [St.new], rfl, fun q hq _ => (Frm.new s _ (fun _ => False)).heap q hq (fun h => h), fun G' hG => ?_⟩
        · simp only [appendTo, hg]
          rw [if_neg (by simp), if_neg hr, if_pos ⟨by rw [List.length_append, rws_len]; omega, hmx⟩, e, newCells_ok (rws_cell _)]
          rfl
        · simp only [refId, Option.some.injEq] at hG; subst hG; exact .inr ⟨Nat.le_refl _, by simp [St.new]⟩
      | ge c =>
        refine ⟨(s.set G none).new (rws (rows ++ [r])), .sl ⟨s.next, 0, 0⟩ 0 (rows.length + 1) (.ge (rows.length + 1)) 5, ?_, (.inr ⟨⟨s.next, 0, 0⟩, .ge (rows.length + 1), [], by simp, by rw [get_new]; rw [List.append_nil]; exact if_pos rfl, by simp [Cap.room], by simp [Cap.room]⟩), by simp [St.new, St.set], rfl, fun q hq hne => ?_, fun G' hG => ?_⟩
        · simp only [appendTo, hg]
          rw [if_neg (by simp), if_neg hr, if_pos ⟨by rw [List.length_append, rws_len]; omega, hmx⟩, e, newCells_ok (rws_cell _)]
          rfl
        · have e1 : q ≠ G := fun e => hne (by simp [refId, e])
          have e2 : ¬ (q = ⟨s.next, 0, 0⟩) := fun e => by subst e; simp at hq
          simp [St.new, St.set, e1, e2]
        · simp only [refId, Option.some.injEq] at hG; subst hG; exact .inr ⟨Nat.le_refl _, by simp [St.new, St.set]⟩

theorem erase_td (rows : List Rw) (k : Nat) : rows.take k ++ rows.drop (k + 1) = rows.eraseIdx k := (List.eraseIdx_eq_take_drop_succ rows k).symm
theorem rws_take : ∀ (rows : List Rw) (k : Nat) (junk : List AV), k ≤ rows.length → (rws rows ++ junk).take (k * 5) = rws (rows.take k)
  | rows, 0, junk, _ => by simp [rws]
  | [], k + 1, junk, h => by simp at h
  | y :: rows, k + 1, junk, h => by
    have ih := rws_take rows k junk (by simpa using h)
    have e : (k + 1) * 5 = (rwc y).length + k * 5 := by rw [show (rwc y).length = 5 from rfl]; omega
    simp only [rws, List.flatMap_cons, List.take_succ_cons, List.append_assoc] at ih ⊢
    rw [e, List.take_length_add_append, ih]
theorem rws_drop : ∀ (rows : List Rw) (k : Nat) (junk : List AV), k ≤ rows.length → (rws rows ++ junk).drop (k * 5) = rws (rows.drop k) ++ junk
  | rows, 0, junk, _ => by simp
  | [], k + 1, junk, h => by simp at h
  | y :: rows, k + 1, junk, h => by
    have ih := rws_drop rows k junk (by simpa using h)
    have e : (k + 1) * 5 = (rwc y).length + k * 5 := by rw [show (rwc y).length = 5 from rfl]; omega
    simp only [rws, List.flatMap_cons, List.drop_succ_cons, List.append_assoc] at ih ⊢
    rw [e, List.drop_length_add_append, ih]

/-- What stands from the l-th on, as a slice of its own. -/
def tailOf (G : Vm.Id) (n : Nat) (cap : Cap) (l : Nat) : Option AV :=
  if n ≤ cap.room then (if l = 0 then some (.sl G 0 n (cap.cut false cap.room 0) 5) else if l = cap.room then some .esl else some (.sl G (0 + l * 5) (n - l) (cap.cut false cap.room l) 5)) else none
theorem slice_tail (G : Vm.Id) (n : Nat) (cap : Cap) (t : Nat) (ρ : Env) : sliceSl 5 (.sl G 0 n cap 5) (some (.t t)) none none ρ = (bndV (ρ t) n).bind (tailOf G n cap) := by
  simp only [sliceSl, ne_eq, not_true_eq_false, if_false, bnd, Option.bind_some, Arg.get]
  rfl
theorem slice_head (G : Vm.Id) (n : Nat) (cap : Cap) (t u : Nat) (ρ : Env) : sliceSl 5 (.sl G 0 n cap 5) none (some (.t t)) (some (.t u)) ρ = (bndV (ρ u) cap.room).bind fun m => (bndV (ρ t) m).bind fun h => if h ≤ m then some (.sl G 0 h (.ex m) 5) else none := by
  simp only [sliceSl, ne_eq, not_true_eq_false, if_false, bnd, Option.bind_some, Arg.get, if_true, Option.isSome_some]
  have e : ∀ m, cap.cut true m 0 = .ex m := fun m => by cases cap <;> rfl
  simp only [e]
  rfl
theorem slice_head0 (G : Vm.Id) (n : Nat) (cap : Cap) (t : Nat) (ρ : Env) : sliceSl 5 (.sl G 0 n cap 5) none (some (.t t)) none ρ = (bndV (ρ t) cap.room).bind fun h => if h ≤ cap.room then some (.sl G 0 h cap 5) else none := by
  simp only [sliceSl, ne_eq, not_true_eq_false, if_false, bnd, Option.bind_some, Arg.get, if_true, Option.isSome_none]
  have e : cap.cut false cap.room 0 = cap := by cases cap <;> rfl
  simp only [e]
  rfl

theorem tail_elems {s : St} {G : Vm.Id} {rows : List Rw} {junk : List AV} {cap : Cap} {k : Nat} (hk : k < rows.length) (hg : s.get G = some (rws rows ++ junk)) (h2 : rows.length ≤ cap.room) :
    ∃ y, tailOf G rows.length cap (k + 1) = some y ∧ lenOf y = some (rows.length - (k + 1)) ∧ elems s 5 (rows.length - (k + 1)) y = some (rws (rows.drop (k + 1))) := by
  unfold tailOf
  rw [if_pos h2, if_neg (Nat.succ_ne_zero k)]
  by_cases he : k + 1 = cap.room
  · refine ⟨.esl, by rw [if_pos he], ?_, ?_⟩
    · rw [show rows.length - (k + 1) = 0 by omega]; rfl
    · have h0 : rows.drop (k + 1) = [] := List.drop_of_length_le (by omega)
      rw [h0, show rows.length - (k + 1) = 0 by omega]; rfl
  · refine ⟨.sl G ((k + 1) * 5) (rows.length - (k + 1)) (cap.cut false cap.room (k + 1)) 5, by rw [if_neg he, Nat.zero_add], rfl, ?_⟩
    simp only [elems, hg, Option.bind_some]
    have hll : (rws rows ++ junk).length = rows.length * 5 + junk.length := by rw [List.length_append, rws_len]
    rw [if_pos (by rw [hll]; omega), rws_drop rows (k + 1) junk (by omega), List.take_left' (by rw [rws_len, List.length_drop])]

theorem erase_len {rows : List Rw} {k : Nat} (hk : k < rows.length) : (rows.eraseIdx k).length = rows.length - 1 := List.length_eraseIdx_of_lt hk

/-- The k-th goes, in place. -/
theorem app_cut_in {s : St} {G : Vm.Id} {rows : List Rw} {junk : List AV} {cap : Cap} {k : Nat} (hk : k < rows.length) (hg : s.get G = some (rws rows ++ junk)) (h2 : rows.length ≤ cap.room) (h3 : cap.room * 5 ≤ rows.length * 5 + junk.length) :
    ∃ s', appendTo s 5 32 (rows.length - (k + 1)) (rws (rows.drop (k + 1))) (.sl G 0 k cap 5) = some (.sl G 0 (rows.length - 1) cap 5, s') ∧ RowL s' (.sl G 0 (rows.length - 1) cap 5) (rows.eraseIdx k) ∧ Only s s' (fun q => q = G) := by
  have hl := erase_len hk
  have hrl : (rws (rows.drop (k + 1))).length = (rows.length - (k + 1)) * 5 := by rw [rws_len, List.length_drop]
  have hll : (rws rows ++ junk).length = rows.length * 5 + junk.length := by rw [List.length_append, rws_len]
  refine ⟨s.set G (some (.cells (rws (rows.eraseIdx k) ++ (rws rows ++ junk).drop (k * 5 + (rws (rows.drop (k + 1))).length)))), ?_, .inr ⟨G, cap, _, by rw [hl], get_set_same _ _ _, by rw [hl]; omega, by rw [hl, List.length_drop, hrl, hll]; omega⟩, ⟨rfl, rfl, fun q hq => by simp [St.set, hq]⟩⟩
  simp only [appendTo, hg]
  rw [if_neg (by simp), if_pos (by omega)]
  simp only [Vm.storeCells, hg]
  rw [if_pos ⟨by rw [hrl, hll]; omega, rws_cell _⟩]
  simp only [Option.map_some, Nat.zero_add, splice]
  rw [rws_take rows k junk (by omega), ← List.append_assoc, ← rws_app, erase_td, show k + (rows.length - (k + 1)) = rows.length - 1 by omega]

/-- The k-th goes; the others may be moved. -/
theorem app_cut_ex {s : St} {G : Vm.Id} {rows : List Rw} {junk : List AV} {k : Nat} (hk : k < rows.length) (hg : s.get G = some (rws rows ++ junk)) (few : rows.length < 2 ^ 30) :
    ∃ s' a', appendTo s 5 32 (rows.length - (k + 1)) (rws (rows.drop (k + 1))) (.sl G 0 k (.ex k) 5) = some (a', s') ∧ RowL s' a' (rows.eraseIdx k) ∧ s.next ≤ s'.next ∧ s'.ver = s.ver ∧ (∀ q, q.o < s.next → q ≠ G → s'.heap q = s.heap q) ∧ (∀ B, refId a' = some B → B = G ∨ (s.next ≤ B.o ∧ B.o < s'.next)) := by
  have hl := erase_len hk
  by_cases h0 : rows.length = k + 1
  · have hd : rows.drop (k + 1) = [] := List.drop_of_length_le (by omega)
    have ht : rows.take k = rows.eraseIdx k := by rw [← erase_td, hd, List.append_nil]
    refine ⟨s.set G (some (.cells (rws rows ++ junk))), .sl G 0 k (.ex k) 5, ?_, .inr ⟨G, .ex k, (rws rows ++ junk).drop (k * 5), by rw [hl]; congr 1; omega, ?_, by rw [hl]; simp only [Cap.room]; omega, by rw [hl]; simp only [Cap.room]; omega⟩, by simp [St.set], rfl, fun q _ hq => by simp [St.set, hq], fun B hB => .inl (by simpa [refId] using hB.symm)⟩
    · rw [hd, show rows.length - (k + 1) = 0 by omega]
      simp only [appendTo, hg, Cap.room]
      rw [if_neg (by simp), if_pos (by omega)]
      simp only [Vm.storeCells, hg]
      rw [if_pos ⟨by simp only [List.length_append, rws_len, List.length_nil]; omega, rfl⟩]
      simp only [Option.map_some, Nat.zero_add, splice, rws, List.flatMap_nil, List.nil_append, List.length_nil, Nat.add_zero, List.take_append_drop]
    · rw [get_set_same, ← ht, ← rws_take rows k junk (by omega), List.take_append_drop]
  · have hmx : (k + (rows.length - (k + 1))) * 32 ≤ lenMax := by have : lenMax = 2 ^ 46 := rfl; omega
    have e : List.take (k * 5) (List.drop 0 (rws rows ++ junk)) ++ rws (rows.drop (k + 1)) = rws (rows.eraseIdx k) := by
      rw [List.drop_zero, rws_take rows k junk (by omega), ← rws_app, erase_td]
    refine ⟨s.new (rws (rows.eraseIdx k)), .sl ⟨s.next, 0, 0⟩ 0 (k + (rows.length - (k + 1))) (.ge (k + (rows.length - (k + 1)))) 5, ?_, .inr ⟨⟨s.next, 0, 0⟩, .ge (k + (rows.length - (k + 1))), [], by rw [hl]; congr 1; omega, by rw [get_new, if_pos rfl, List.append_nil], by rw [hl]; simp only [Cap.room]; omega, by rw [hl]; simp only [Cap.room]; omega⟩, by simp [St.new], rfl,
      fun q hq _ => (Frm.new s _ (fun _ => False)).heap q hq (fun h => h), fun B hB => ?_⟩
    · simp only [appendTo, hg, Cap.room]
      rw [if_neg (by simp), if_neg (by omega), if_pos ⟨by rw [List.length_append, rws_len]; omega, hmx⟩, e, newCells_ok (rws_cell _)]
      rfl
    · simp only [refId, Option.some.injEq] at hB; subst hB; exact .inr ⟨Nat.le_refl _, by simp [St.new]⟩
/-
  ShelfPlays: the law's own eviction.
-/

inductive GoesL (bud : Int) : List Rw → List Rw → List Rw → Prop
  | stop {l : List Rw} (h : ¬ (bud < sumR l ∧ ∃ r ∈ l, r.c = true)) : GoesL bud l [] l
  | step {l g l' : List Rw} {k : Nat} {m : Rw} (hb : bud < sumR l) (hk : l[k]? = some m) (hm : m.c = true) (hmin : ∀ y ∈ l, y.c = true → ltK y.k m.k = false) (t : GoesL bud (l.eraseIdx k) g l') : GoesL bud l (m :: g) l'

theorem GoesL.det {bud : Int} {l g l' : List Rw} (h : GoesL bud l g l') : ∀ {g2 l2 : List Rw}, GoesL bud l g2 l2 → (l.Pairwise fun a b => ¬ (a.k.v = b.k.v ∧ a.k.u = b.k.u)) → g = g2 ∧ l' = l2 := by
  induction h with
  | stop h =>
    intro g2 l2 h2 pk
    cases h2 with
    | stop _ => exact ⟨rfl, rfl⟩
    | step hb hk hm _ _ => exact absurd ⟨hb, _, List.mem_of_getElem? hk, hm⟩ h
  | step hb hk hm hmin t ih =>
    rename_i l g l' k m
    intro g2 l2 h2 pk
    cases h2 with
    | stop h => exact absurd ⟨hb, _, List.mem_of_getElem? hk, hm⟩ h
    | step hb2 hk2 hm2 hmin2 t2 =>
      rename_i g2 k2 m2
      have e1 := hmin m2 (List.mem_of_getElem? hk2) hm2
      have e2 := hmin2 m (List.mem_of_getElem? hk) hm
      have tie := lt_tie e1 e2
      obtain ⟨hkl, ek⟩ := List.getElem?_eq_some_iff.1 hk
      obtain ⟨hkl2, ek2⟩ := List.getElem?_eq_some_iff.1 hk2
      have pw := List.pairwise_iff_getElem.1 pk
      have ekk : k = k2 := by
        rcases Nat.lt_trichotomy k k2 with h | h | h
        · exact absurd ⟨by rw [ek, ek2]; exact tie.1.symm, by rw [ek, ek2]; exact tie.2.symm⟩ (pw k k2 hkl hkl2 h)
        · exact h
        · exact absurd ⟨by rw [ek, ek2]; exact tie.1, by rw [ek, ek2]; exact tie.2⟩ (pw k2 k hkl2 hkl h)
      subst ekk
      have em : m = m2 := by rw [hk] at hk2; exact Option.some.inj hk2
      subst em
      obtain ⟨a1, a2⟩ := ih t2 (pk.sublist (List.eraseIdx_sublist _ _))
      exact ⟨by rw [a1], a2⟩

theorem guard_tup (E : CallH) (d : Option Nat) (i : Ins) (l : List Vm.Op) (ρ : Env) (σ : St) (vs : List AV) (b : Bool) : guardEv E d i l ρ σ (.tup vs) b = opsEv E l (ρ.put d (.tup [])) σ := rfl

theorem sq52_8 : drawSeq (tab hsS) d52_8 = true := rfl

/-- The best one among the first i. -/
def Best (rows : List Rw) (i : Nat) : Option Nat → Prop
  | none => ∀ j r, j < i → rows[j]? = some r → r.c = false
  | some k => ∃ m, k < i ∧ rows[k]? = some m ∧ m.c = true ∧ ∀ j r, j < i → rows[j]? = some r → r.c = true → ltK r.k m.k = false

theorem row_part {rows : List Rw} {i : Nat} {x : Rw} {junk : List AV} (hx : rows[i]? = some x) : Vm.part true 5 (i * 5) (rws rows ++ junk) = some (.agg (rwc x)) ∧ Vm.part false 1 (i * 5 + 4) (rws rows ++ junk) = some (.bool x.c) ∧ Vm.part true 2 (i * 5) (rws rows ++ junk) = some (.agg [.int .u32 x.k.v, .int .u32 x.k.u]) := by
  have hi : i < rows.length := (List.getElem?_eq_some_iff.1 hx).1
  have hat := rws_at (junk := junk) hx
  have hm5 : (i + 1) * 5 ≤ rows.length * 5 := Nat.mul_le_mul_right _ hi
  have hll : (rws rows ++ junk).length = rows.length * 5 + junk.length := by rw [List.length_append, rws_len]
  refine ⟨by rw [part_t (by omega), hat], ?_, ?_⟩
  · rw [part_one (by omega)]
    have h1 : (List.take 5 (List.drop (i * 5) (rws rows ++ junk)))[4]? = some (.bool x.c) := by rw [hat]; rfl
    rw [List.getElem?_take] at h1
    simpa using h1
  · rw [part_t (by omega)]
    have : List.take 2 (List.drop (i * 5) (rws rows ++ junk)) = List.take 2 (List.take 5 (List.drop (i * 5) (rws rows ++ junk))) := by rw [List.take_take]; rfl
    rw [this, hat]; rfl

theorem min_round {σ : St} {G : Vm.Id} {cap : Cap} {rows : List Rw} {junk : List AV} (hg : σ.get G = some (rws rows ++ junk)) {i : Nat} (hi : i < rows.length) (few : rows.length < 2 ^ 40) {ρ : Env} {kk : Option Nat} (hb : Best rows i kk) (r0 : ρ 0 = .sl G 0 rows.length cap 5) (r7 : ρ 7 = .int .i64 (posI kk)) (r8 : ρ 8 = .int .i64 i) :
    ∃ ρ' kk', run (tab hsS) l52_11 ρ σ = some (.normal, ρ', σ) ∧ Best rows (i + 1) kk' ∧ ρ' 0 = ρ 0 ∧ ρ' 1 = ρ 1 ∧ ρ' 6 = ρ 6 ∧ ρ' 7 = .int .i64 (posI kk') ∧ ρ' 8 = .int .i64 (i + 1 : Nat) := by
  have hx : rows[i]? = some rows[i] := List.getElem?_eq_getElem hi
  generalize rows[i] = x at hx
  obtain ⟨p5, p1, _⟩ := row_part (junk := junk) hx
  have hep : elemPtr 5 i (.sl G 0 rows.length cap 5) = some (.ptr G (i * 5)) := by rw [elemPtr_sl hi]; simp
  have him : (i : Int) < (rows.length : Int) := by omega
  have last : ∀ j r, j < i + 1 → rows[j]? = some r → j < i ∨ (j = i ∧ r = x) := fun j r hj hr => by
    by_cases e : j = i
    · subst e; rw [hx] at hr; exact .inr ⟨rfl, (Option.some.inj hr).symm⟩
    · exact .inl (by omega)
  cases hc : x.c with
  | false =>
    rw [hc] at p1
    have hrun : ∃ ρ', run (tab hsS) l52_11 ρ σ = some (.normal, ρ', σ) ∧ ρ' 0 = ρ 0 ∧ ρ' 1 = ρ 1 ∧ ρ' 6 = ρ 6 ∧ ρ' 7 = ρ 7 ∧ ρ' 8 = .int .i64 (i + 1 : Nat) := by
      simp (disch := first | omega | (simp only [rkl]; omega)) only [rk1, rk2, rk3, rk4, rk5, Arg.get, ret1, AV.cells, AV.isCell, addOff, minmaxL, Cap.room, Cap.cut, cutI, isSt, resultOf, Function.comp_apply, Function.comp_def, beq_self_eq_true, if_true, if_false, ite_true, ite_false, reduceCtorEq, bne_self_eq_false, Option.some.injEq, Prod.mk.injEq, ↓reduceIte, Nat.reduceEqDiff, Nat.reduceAdd, Nat.reduceMul, Nat.reduceSub, Nat.reduceLeDiff, Nat.reduceLT, Int.reduceLT, Int.reduceLE, Int.reduceEq, Int.reduceAdd, Int.reduceSub, Int.reduceNeg, Int.reduceToNat, List.mapM_cons, List.mapM_nil, Option.pure_def, Option.bind_eq_bind, eq_self, decide_true, decide_false, l52_11, p52_7, r0, r8, him]
      rw [drawn sq52_8]
      simp (disch := first | omega | (simp only [rkl]; omega)) only [rk1, rk2, rk3, rk4, rk5, Arg.get, ret1, AV.cells, AV.isCell, addOff, minmaxL, Cap.room, Cap.cut, cutI, isSt, resultOf, Function.comp_apply, Function.comp_def, beq_self_eq_true, if_true, if_false, ite_true, ite_false, reduceCtorEq, bne_self_eq_false, Option.some.injEq, Prod.mk.injEq, ↓reduceIte, Nat.reduceEqDiff, Nat.reduceAdd, Nat.reduceMul, Nat.reduceSub, Nat.reduceLeDiff, Nat.reduceLT, Int.reduceLT, Int.reduceLE, Int.reduceEq, Int.reduceAdd, Int.reduceSub, Int.reduceNeg, Int.reduceToNat, List.mapM_cons, List.mapM_nil, Option.pure_def, Option.bind_eq_bind, eq_self, decide_true, decide_false, d52_8, guard_tup, r0, r7, r8, hep, hg, p1, p52_10]
      exact ⟨_, rfl, by simp (disch := first | omega | (simp only [rkl]; omega)) only [rk1, rk2, rk3, rk4, rk5, Arg.get, ret1, AV.cells, AV.isCell, addOff, minmaxL, Cap.room, Cap.cut, cutI, isSt, resultOf, Function.comp_apply, Function.comp_def, beq_self_eq_true, if_true, if_false, ite_true, ite_false, reduceCtorEq, bne_self_eq_false, Option.some.injEq, Prod.mk.injEq, ↓reduceIte, Nat.reduceEqDiff, Nat.reduceAdd, Nat.reduceMul, Nat.reduceSub, Nat.reduceLeDiff, Nat.reduceLT, Int.reduceLT, Int.reduceLE, Int.reduceEq, Int.reduceAdd, Int.reduceSub, Int.reduceNeg, Int.reduceToNat, List.mapM_cons, List.mapM_nil, Option.pure_def, Option.bind_eq_bind, eq_self, decide_true, decide_false, r0], by simp (disch := first | omega | (simp only [rkl]; omega)) only [rk1, rk2, rk3, rk4, rk5, Arg.get, ret1, AV.cells, AV.isCell, addOff, minmaxL, Cap.room, Cap.cut, cutI, isSt, resultOf, Function.comp_apply, Function.comp_def, beq_self_eq_true, if_true, if_false, ite_true, ite_false, reduceCtorEq, bne_self_eq_false, Option.some.injEq, Prod.mk.injEq, ↓reduceIte, Nat.reduceEqDiff, Nat.reduceAdd, Nat.reduceMul, Nat.reduceSub, Nat.reduceLeDiff, Nat.reduceLT, Int.reduceLT, Int.reduceLE, Int.reduceEq, Int.reduceAdd, Int.reduceSub, Int.reduceNeg, Int.reduceToNat, List.mapM_cons, List.mapM_nil, Option.pure_def, Option.bind_eq_bind, eq_self, decide_true, decide_false], by simp (disch := first | omega | (simp only [rkl]; omega)) only [rk1, rk2, rk3, rk4, rk5, Arg.get, ret1, AV.cells, AV.isCell, addOff, minmaxL, Cap.room, Cap.cut, cutI, isSt, resultOf, Function.comp_apply, Function.comp_def, beq_self_eq_true, if_true, if_false, ite_true, ite_false, reduceCtorEq, bne_self_eq_false, Option.some.injEq, Prod.mk.injEq, ↓reduceIte, Nat.reduceEqDiff, Nat.reduceAdd, Nat.reduceMul, Nat.reduceSub, Nat.reduceLeDiff, Nat.reduceLT, Int.reduceLT, Int.reduceLE, Int.reduceEq, Int.reduceAdd, Int.reduceSub, Int.reduceNeg, Int.reduceToNat, List.mapM_cons, List.mapM_nil, Option.pure_def, Option.bind_eq_bind, eq_self, decide_true, decide_false], by simp (disch := first | omega | (simp only [rkl]; omega)) only [rk1, rk2, rk3, rk4, rk5, Arg.get, ret1, AV.cells, AV.isCell, addOff, minmaxL, Cap.room, Cap.cut, cutI, isSt, resultOf, Function.comp_apply, Function.comp_def, beq_self_eq_true, if_true, if_false, ite_true, ite_false, reduceCtorEq, bne_self_eq_false, Option.some.injEq, Prod.mk.injEq, ↓reduceIte, Nat.reduceEqDiff, Nat.reduceAdd, Nat.reduceMul, Nat.reduceSub, Nat.reduceLeDiff, Nat.reduceLT, Int.reduceLT, Int.reduceLE, Int.reduceEq, Int.reduceAdd, Int.reduceSub, Int.reduceNeg, Int.reduceToNat, List.mapM_cons, List.mapM_nil, Option.pure_def, Option.bind_eq_bind, eq_self, decide_true, decide_false, r7], by simp (disch := first | omega | (simp only [rkl]; omega)) only [rk1, rk2, rk3, rk4, rk5, Arg.get, ret1, AV.cells, AV.isCell, addOff, minmaxL, Cap.room, Cap.cut, cutI, isSt, resultOf, Function.comp_apply, Function.comp_def, beq_self_eq_true, if_true, if_false, ite_true, ite_false, reduceCtorEq, bne_self_eq_false, Option.some.injEq, Prod.mk.injEq, ↓reduceIte, Nat.reduceEqDiff, Nat.reduceAdd, Nat.reduceMul, Nat.reduceSub, Nat.reduceLeDiff, Nat.reduceLT, Int.reduceLT, Int.reduceLE, Int.reduceEq, Int.reduceAdd, Int.reduceSub, Int.reduceNeg, Int.reduceToNat, List.mapM_cons, List.mapM_nil, Option.pure_def, Option.bind_eq_bind, eq_self, decide_true, decide_false, Int.natCast_add, Int.cast_ofNat_Int]⟩
    obtain ⟨ρ', h1, q0, q1, q6, q7, q8⟩ := hrun
    refine ⟨ρ', kk, h1, ?_, q0, q1, q6, q7.trans r7, q8⟩
    cases kk with
    | none =>
      intro j r hj hr
      rcases last j r hj hr with h | ⟨_, rfl⟩
      · exact hb j r h hr
      · exact hc
    | some k =>
      obtain ⟨m, h1, h2, h3, h4⟩ := hb
      refine ⟨m, by omega, h2, h3, fun j r hj hr hrc => ?_⟩
      rcases last j r hj hr with h | ⟨_, rfl⟩
      · exact h4 j r h hr hrc
      · rw [hc] at hrc; cases hrc
  | true =>
    rw [hc] at p1
    have taken : ∀ {ρ'}, run (tab hsS) l52_11 ρ σ = some (.normal, ρ', σ) → ρ' 0 = ρ 0 → ρ' 1 = ρ 1 → ρ' 6 = ρ 6 → ρ' 7 = .int .i64 i → ρ' 8 = .int .i64 (i + 1 : Nat) → (∀ j r, j < i → rows[j]? = some r → r.c = true → ltK r.k x.k = false) →
        ∃ ρ' kk', run (tab hsS) l52_11 ρ σ = some (.normal, ρ', σ) ∧ Best rows (i + 1) kk' ∧ ρ' 0 = ρ 0 ∧ ρ' 1 = ρ 1 ∧ ρ' 6 = ρ 6 ∧ ρ' 7 = .int .i64 (posI kk') ∧ ρ' 8 = .int .i64 (i + 1 : Nat) := by
      intro ρ' h1 q0 q1 q6 q7 q8 hall
      refine ⟨ρ', some i, h1, ⟨x, by omega, hx, hc, fun j r hj hr hrc => ?_⟩, q0, q1, q6, q7, q8⟩
      rcases last j r hj hr with h | ⟨_, rfl⟩
      · exact hall j r h hr hrc
      · cases hb : ltK r.k r.k with
        | false => rfl
        | true => exact absurd hb (by rw [ordK.asym _ _ hb]; simp)
    cases kk with
    | none =>
      have hneg : posI none < 0 := by decide
      have hrun : ∃ ρ', run (tab hsS) l52_11 ρ σ = some (.normal, ρ', σ) ∧ ρ' 0 = ρ 0 ∧ ρ' 1 = ρ 1 ∧ ρ' 6 = ρ 6 ∧ ρ' 7 = .int .i64 i ∧ ρ' 8 = .int .i64 (i + 1 : Nat) := by
        simp (disch := first | omega | (simp only [rkl]; omega)) only [rk1, rk2, rk3, rk4, rk5, Arg.get, ret1, AV.cells, AV.isCell, addOff, minmaxL, Cap.room, Cap.cut, cutI, isSt, resultOf, Function.comp_apply, Function.comp_def, beq_self_eq_true, if_true, if_false, ite_true, ite_false, reduceCtorEq, bne_self_eq_false, Option.some.injEq, Prod.mk.injEq, ↓reduceIte, Nat.reduceEqDiff, Nat.reduceAdd, Nat.reduceMul, Nat.reduceSub, Nat.reduceLeDiff, Nat.reduceLT, Int.reduceLT, Int.reduceLE, Int.reduceEq, Int.reduceAdd, Int.reduceSub, Int.reduceNeg, Int.reduceToNat, List.mapM_cons, List.mapM_nil, Option.pure_def, Option.bind_eq_bind, eq_self, decide_true, decide_false, l52_11, p52_7, r0, r8, him]
        rw [drawn sq52_8]
        simp (disch := first | omega | (simp only [rkl]; omega)) only [rk1, rk2, rk3, rk4, rk5, Arg.get, ret1, AV.cells, AV.isCell, addOff, minmaxL, Cap.room, Cap.cut, cutI, isSt, resultOf, Function.comp_apply, Function.comp_def, beq_self_eq_true, if_true, if_false, ite_true, ite_false, reduceCtorEq, bne_self_eq_false, Option.some.injEq, Prod.mk.injEq, ↓reduceIte, Nat.reduceEqDiff, Nat.reduceAdd, Nat.reduceMul, Nat.reduceSub, Nat.reduceLeDiff, Nat.reduceLT, Int.reduceLT, Int.reduceLE, Int.reduceEq, Int.reduceAdd, Int.reduceSub, Int.reduceNeg, Int.reduceToNat, List.mapM_cons, List.mapM_nil, Option.pure_def, Option.bind_eq_bind, eq_self, decide_true, decide_false, d52_8, guard_tup, r0, r7, r8, hep, hg, p1, hneg, p52_9, p52_10]
        exact ⟨_, rfl, by simp (disch := first | omega | (simp only [rkl]; omega)) only [rk1, rk2, rk3, rk4, rk5, Arg.get, ret1, AV.cells, AV.isCell, addOff, minmaxL, Cap.room, Cap.cut, cutI, isSt, resultOf, Function.comp_apply, Function.comp_def, beq_self_eq_true, if_true, if_false, ite_true, ite_false, reduceCtorEq, bne_self_eq_false, Option.some.injEq, Prod.mk.injEq, ↓reduceIte, Nat.reduceEqDiff, Nat.reduceAdd, Nat.reduceMul, Nat.reduceSub, Nat.reduceLeDiff, Nat.reduceLT, Int.reduceLT, Int.reduceLE, Int.reduceEq, Int.reduceAdd, Int.reduceSub, Int.reduceNeg, Int.reduceToNat, List.mapM_cons, List.mapM_nil, Option.pure_def, Option.bind_eq_bind, eq_self, decide_true, decide_false, r0], by simp (disch := first | omega | (simp only [rkl]; omega)) only [rk1, rk2, rk3, rk4, rk5, Arg.get, ret1, AV.cells, AV.isCell, addOff, minmaxL, Cap.room, Cap.cut, cutI, isSt, resultOf, Function.comp_apply, Function.comp_def, beq_self_eq_true, if_true, if_false, ite_true, ite_false, reduceCtorEq, bne_self_eq_false, Option.some.injEq, Prod.mk.injEq, ↓reduceIte, Nat.reduceEqDiff, Nat.reduceAdd, Nat.reduceMul, Nat.reduceSub, Nat.reduceLeDiff, Nat.reduceLT, Int.reduceLT, Int.reduceLE, Int.reduceEq, Int.reduceAdd, Int.reduceSub, Int.reduceNeg, Int.reduceToNat, List.mapM_cons, List.mapM_nil, Option.pure_def, Option.bind_eq_bind, eq_self, decide_true, decide_false], by simp (disch := first | omega | (simp only [rkl]; omega)) only [rk1, rk2, rk3, rk4, rk5, Arg.get, ret1, AV.cells, AV.isCell, addOff, minmaxL, Cap.room, Cap.cut, cutI, isSt, resultOf, Function.comp_apply, Function.comp_def, beq_self_eq_true, if_true, if_false, ite_true, ite_false, reduceCtorEq, bne_self_eq_false, Option.some.injEq, Prod.mk.injEq, ↓reduceIte, Nat.reduceEqDiff, Nat.reduceAdd, Nat.reduceMul, Nat.reduceSub, Nat.reduceLeDiff, Nat.reduceLT, Int.reduceLT, Int.reduceLE, Int.reduceEq, Int.reduceAdd, Int.reduceSub, Int.reduceNeg, Int.reduceToNat, List.mapM_cons, List.mapM_nil, Option.pure_def, Option.bind_eq_bind, eq_self, decide_true, decide_false], by simp (disch := first | omega | (simp only [rkl]; omega)) only [rk1, rk2, rk3, rk4, rk5, Arg.get, ret1, AV.cells, AV.isCell, addOff, minmaxL, Cap.room, Cap.cut, cutI, isSt, resultOf, Function.comp_apply, Function.comp_def, beq_self_eq_true, if_true, if_false, ite_true, ite_false, reduceCtorEq, bne_self_eq_false, Option.some.injEq, Prod.mk.injEq, ↓reduceIte, Nat.reduceEqDiff, Nat.reduceAdd, Nat.reduceMul, Nat.reduceSub, Nat.reduceLeDiff, Nat.reduceLT, Int.reduceLT, Int.reduceLE, Int.reduceEq, Int.reduceAdd, Int.reduceSub, Int.reduceNeg, Int.reduceToNat, List.mapM_cons, List.mapM_nil, Option.pure_def, Option.bind_eq_bind, eq_self, decide_true, decide_false], by simp (disch := first | omega | (simp only [rkl]; omega)) only [rk1, rk2, rk3, rk4, rk5, Arg.get, ret1, AV.cells, AV.isCell, addOff, minmaxL, Cap.room, Cap.cut, cutI, isSt, resultOf, Function.comp_apply, Function.comp_def, beq_self_eq_true, if_true, if_false, ite_true, ite_false, reduceCtorEq, bne_self_eq_false, Option.some.injEq, Prod.mk.injEq, ↓reduceIte, Nat.reduceEqDiff, Nat.reduceAdd, Nat.reduceMul, Nat.reduceSub, Nat.reduceLeDiff, Nat.reduceLT, Int.reduceLT, Int.reduceLE, Int.reduceEq, Int.reduceAdd, Int.reduceSub, Int.reduceNeg, Int.reduceToNat, List.mapM_cons, List.mapM_nil, Option.pure_def, Option.bind_eq_bind, eq_self, decide_true, decide_false, Int.natCast_add, Int.cast_ofNat_Int]⟩
      obtain ⟨ρ', h1, q0, q1, q6, q7, q8⟩ := hrun
      exact taken h1 q0 q1 q6 q7 q8 fun j r hj hr hrc => by rw [hb j r hj hr] at hrc; cases hrc
    | some k =>
      obtain ⟨m, hk, hm, hmc, hall⟩ := hb
      have hkl : k < rows.length := (List.getElem?_eq_some_iff.1 hm).1
      obtain ⟨pk5, _, _⟩ := row_part (junk := junk) hm
      have hepk : elemPtr 5 k (.sl G 0 rows.length cap 5) = some (.ptr G (k * 5)) := by rw [elemPtr_sl hkl]; simp
      have hneg : ¬ ((k : Int) < 0) := by omega
      have r7' : ρ 7 = .int .i64 k := r7
      have hl := less82 x m σ
      cases hlt : ltK x.k m.k with
      | true =>
        rw [hlt] at hl
        have hrun : ∃ ρ', run (tab hsS) l52_11 ρ σ = some (.normal, ρ', σ) ∧ ρ' 0 = ρ 0 ∧ ρ' 1 = ρ 1 ∧ ρ' 6 = ρ 6 ∧ ρ' 7 = .int .i64 i ∧ ρ' 8 = .int .i64 (i + 1 : Nat) := by
          simp (disch := first | omega | (simp only [rkl]; omega)) only [rk1, rk2, rk3, rk4, rk5, Arg.get, ret1, AV.cells, AV.isCell, addOff, minmaxL, Cap.room, Cap.cut, cutI, isSt, resultOf, Function.comp_apply, Function.comp_def, beq_self_eq_true, if_true, if_false, ite_true, ite_false, reduceCtorEq, bne_self_eq_false, Option.some.injEq, Prod.mk.injEq, ↓reduceIte, Nat.reduceEqDiff, Nat.reduceAdd, Nat.reduceMul, Nat.reduceSub, Nat.reduceLeDiff, Nat.reduceLT, Int.reduceLT, Int.reduceLE, Int.reduceEq, Int.reduceAdd, Int.reduceSub, Int.reduceNeg, Int.reduceToNat, List.mapM_cons, List.mapM_nil, Option.pure_def, Option.bind_eq_bind, eq_self, decide_true, decide_false, l52_11, p52_7, r0, r8, him]
          rw [drawn sq52_8]
          simp (disch := first | omega | (simp only [rkl]; omega)) only [rk1, rk2, rk3, rk4, rk5, Arg.get, ret1, AV.cells, AV.isCell, addOff, minmaxL, Cap.room, Cap.cut, cutI, isSt, resultOf, Function.comp_apply, Function.comp_def, beq_self_eq_true, if_true, if_false, ite_true, ite_false, reduceCtorEq, bne_self_eq_false, Option.some.injEq, Prod.mk.injEq, ↓reduceIte, Nat.reduceEqDiff, Nat.reduceAdd, Nat.reduceMul, Nat.reduceSub, Nat.reduceLeDiff, Nat.reduceLT, Int.reduceLT, Int.reduceLE, Int.reduceEq, Int.reduceAdd, Int.reduceSub, Int.reduceNeg, Int.reduceToNat, List.mapM_cons, List.mapM_nil, Option.pure_def, Option.bind_eq_bind, eq_self, decide_true, decide_false, d52_8, guard_tup, r0, r7', r8, hep, hepk, hg, p1, p5, pk5, hneg, hl, p52_9, p52_10]
          exact ⟨_, rfl, by simp (disch := first | omega | (simp only [rkl]; omega)) only [rk1, rk2, rk3, rk4, rk5, Arg.get, ret1, AV.cells, AV.isCell, addOff, minmaxL, Cap.room, Cap.cut, cutI, isSt, resultOf, Function.comp_apply, Function.comp_def, beq_self_eq_true, if_true, if_false, ite_true, ite_false, reduceCtorEq, bne_self_eq_false, Option.some.injEq, Prod.mk.injEq, ↓reduceIte, Nat.reduceEqDiff, Nat.reduceAdd, Nat.reduceMul, Nat.reduceSub, Nat.reduceLeDiff, Nat.reduceLT, Int.reduceLT, Int.reduceLE, Int.reduceEq, Int.reduceAdd, Int.reduceSub, Int.reduceNeg, Int.reduceToNat, List.mapM_cons, List.mapM_nil, Option.pure_def, Option.bind_eq_bind, eq_self, decide_true, decide_false, r0], by simp (disch := first | omega | (simp only [rkl]; omega)) only [rk1, rk2, rk3, rk4, rk5, Arg.get, ret1, AV.cells, AV.isCell, addOff, minmaxL, Cap.room, Cap.cut, cutI, isSt, resultOf, Function.comp_apply, Function.comp_def, beq_self_eq_true, if_true, if_false, ite_true, ite_false, reduceCtorEq, bne_self_eq_false, Option.some.injEq, Prod.mk.injEq, ↓reduceIte, Nat.reduceEqDiff, Nat.reduceAdd, Nat.reduceMul, Nat.reduceSub, Nat.reduceLeDiff, Nat.reduceLT, Int.reduceLT, Int.reduceLE, Int.reduceEq, Int.reduceAdd, Int.reduceSub, Int.reduceNeg, Int.reduceToNat, List.mapM_cons, List.mapM_nil, Option.pure_def, Option.bind_eq_bind, eq_self, decide_true, decide_false], by simp (disch := first | omega | (simp only [rkl]; omega)) only [rk1, rk2, rk3, rk4, rk5, Arg.get, ret1, AV.cells, AV.isCell, addOff, minmaxL, Cap.room, Cap.cut, cutI, isSt, resultOf, Function.comp_apply, Function.comp_def, beq_self_eq_true, if_true, if_false, ite_true, ite_false, reduceCtorEq, bne_self_eq_false, Option.some.injEq, Prod.mk.injEq, ↓reduceIte, Nat.reduceEqDiff, Nat.reduceAdd, Nat.reduceMul, Nat.reduceSub, Nat.reduceLeDiff, Nat.reduceLT, Int.reduceLT, Int.reduceLE, Int.reduceEq, Int.reduceAdd, Int.reduceSub, Int.reduceNeg, Int.reduceToNat, List.mapM_cons, List.mapM_nil, Option.pure_def, Option.bind_eq_bind, eq_self, decide_true, decide_false], by simp (disch := first | omega | (simp only [rkl]; omega)) only [rk1, rk2, rk3, rk4, rk5, Arg.get, ret1, AV.cells, AV.isCell, addOff, minmaxL, Cap.room, Cap.cut, cutI, isSt, resultOf, Function.comp_apply, Function.comp_def, beq_self_eq_true, if_true, if_false, ite_true, ite_false, reduceCtorEq, bne_self_eq_false, Option.some.injEq, Prod.mk.injEq, ↓reduceIte, Nat.reduceEqDiff, Nat.reduceAdd, Nat.reduceMul, Nat.reduceSub, Nat.reduceLeDiff, Nat.reduceLT, Int.reduceLT, Int.reduceLE, Int.reduceEq, Int.reduceAdd, Int.reduceSub, Int.reduceNeg, Int.reduceToNat, List.mapM_cons, List.mapM_nil, Option.pure_def, Option.bind_eq_bind, eq_self, decide_true, decide_false], by simp (disch := first | omega | (simp only [rkl]; omega)) only [rk1, rk2, rk3, rk4, rk5, Arg.get, ret1, AV.cells, AV.isCell, addOff, minmaxL, Cap.room, Cap.cut, cutI, isSt, resultOf, Function.comp_apply, Function.comp_def, beq_self_eq_true, if_true, if_false, ite_true, ite_false, reduceCtorEq, bne_self_eq_false, Option.some.injEq, Prod.mk.injEq, ↓reduceIte, Nat.reduceEqDiff, Nat.reduceAdd, Nat.reduceMul, Nat.reduceSub, Nat.reduceLeDiff, Nat.reduceLT, Int.reduceLT, Int.reduceLE, Int.reduceEq, Int.reduceAdd, Int.reduceSub, Int.reduceNeg, Int.reduceToNat, List.mapM_cons, List.mapM_nil, Option.pure_def, Option.bind_eq_bind, eq_self, decide_true, decide_false, Int.natCast_add, Int.cast_ofNat_Int]⟩
        obtain ⟨ρ', h1, q0, q1, q6, q7, q8⟩ := hrun
        exact taken h1 q0 q1 q6 q7 q8 fun j r hj hr hrc => ordK.trans _ _ _ (ordK.asym _ _ hlt) (hall j r hj hr hrc)
      | false =>
        rw [hlt] at hl
        have hrun : ∃ ρ', run (tab hsS) l52_11 ρ σ = some (.normal, ρ', σ) ∧ ρ' 0 = ρ 0 ∧ ρ' 1 = ρ 1 ∧ ρ' 6 = ρ 6 ∧ ρ' 7 = ρ 7 ∧ ρ' 8 = .int .i64 (i + 1 : Nat) := by
          simp (disch := first | omega | (simp only [rkl]; omega)) only [rk1, rk2, rk3, rk4, rk5, Arg.get, ret1, AV.cells, AV.isCell, addOff, minmaxL, Cap.room, Cap.cut, cutI, isSt, resultOf, Function.comp_apply, Function.comp_def, beq_self_eq_true, if_true, if_false, ite_true, ite_false, reduceCtorEq, bne_self_eq_false, Option.some.injEq, Prod.mk.injEq, ↓reduceIte, Nat.reduceEqDiff, Nat.reduceAdd, Nat.reduceMul, Nat.reduceSub, Nat.reduceLeDiff, Nat.reduceLT, Int.reduceLT, Int.reduceLE, Int.reduceEq, Int.reduceAdd, Int.reduceSub, Int.reduceNeg, Int.reduceToNat, List.mapM_cons, List.mapM_nil, Option.pure_def, Option.bind_eq_bind, eq_self, decide_true, decide_false, l52_11, p52_7, r0, r8, him]
          rw [drawn sq52_8]
          simp (disch := first | omega | (simp only [rkl]; omega)) only [rk1, rk2, rk3, rk4, rk5, Arg.get, ret1, AV.cells, AV.isCell, addOff, minmaxL, Cap.room, Cap.cut, cutI, isSt, resultOf, Function.comp_apply, Function.comp_def, beq_self_eq_true, if_true, if_false, ite_true, ite_false, reduceCtorEq, bne_self_eq_false, Option.some.injEq, Prod.mk.injEq, ↓reduceIte, Nat.reduceEqDiff, Nat.reduceAdd, Nat.reduceMul, Nat.reduceSub, Nat.reduceLeDiff, Nat.reduceLT, Int.reduceLT, Int.reduceLE, Int.reduceEq, Int.reduceAdd, Int.reduceSub, Int.reduceNeg, Int.reduceToNat, List.mapM_cons, List.mapM_nil, Option.pure_def, Option.bind_eq_bind, eq_self, decide_true, decide_false, d52_8, guard_tup, r0, r7', r8, hep, hepk, hg, p1, p5, pk5, hneg, hl, p52_10]
          exact ⟨_, rfl, by simp (disch := first | omega | (simp only [rkl]; omega)) only [rk1, rk2, rk3, rk4, rk5, Arg.get, ret1, AV.cells, AV.isCell, addOff, minmaxL, Cap.room, Cap.cut, cutI, isSt, resultOf, Function.comp_apply, Function.comp_def, beq_self_eq_true, if_true, if_false, ite_true, ite_false, reduceCtorEq, bne_self_eq_false, Option.some.injEq, Prod.mk.injEq, ↓reduceIte, Nat.reduceEqDiff, Nat.reduceAdd, Nat.reduceMul, Nat.reduceSub, Nat.reduceLeDiff, Nat.reduceLT, Int.reduceLT, Int.reduceLE, Int.reduceEq, Int.reduceAdd, Int.reduceSub, Int.reduceNeg, Int.reduceToNat, List.mapM_cons, List.mapM_nil, Option.pure_def, Option.bind_eq_bind, eq_self, decide_true, decide_false, r0], by simp (disch := first | omega | (simp only [rkl]; omega)) only [rk1, rk2, rk3, rk4, rk5, Arg.get, ret1, AV.cells, AV.isCell, addOff, minmaxL, Cap.room, Cap.cut, cutI, isSt, resultOf, Function.comp_apply, Function.comp_def, beq_self_eq_true, if_true, if_false, ite_true, ite_false, reduceCtorEq, bne_self_eq_false, Option.some.injEq, Prod.mk.injEq, ↓reduceIte, Nat.reduceEqDiff, Nat.reduceAdd, Nat.reduceMul, Nat.reduceSub, Nat.reduceLeDiff, Nat.reduceLT, Int.reduceLT, Int.reduceLE, Int.reduceEq, Int.reduceAdd, Int.reduceSub, Int.reduceNeg, Int.reduceToNat, List.mapM_cons, List.mapM_nil, Option.pure_def, Option.bind_eq_bind, eq_self, decide_true, decide_false], by simp (disch := first | omega | (simp only [rkl]; omega)) only [rk1, rk2, rk3, rk4, rk5, Arg.get, ret1, AV.cells, AV.isCell, addOff, minmaxL, Cap.room, Cap.cut, cutI, isSt, resultOf, Function.comp_apply, Function.comp_def, beq_self_eq_true, if_true, if_false, ite_true, ite_false, reduceCtorEq, bne_self_eq_false, Option.some.injEq, Prod.mk.injEq, ↓reduceIte, Nat.reduceEqDiff, Nat.reduceAdd, Nat.reduceMul, Nat.reduceSub, Nat.reduceLeDiff, Nat.reduceLT, Int.reduceLT, Int.reduceLE, Int.reduceEq, Int.reduceAdd, Int.reduceSub, Int.reduceNeg, Int.reduceToNat, List.mapM_cons, List.mapM_nil, Option.pure_def, Option.bind_eq_bind, eq_self, decide_true, decide_false], by simp (disch := first | omega | (simp only [rkl]; omega)) only [rk1, rk2, rk3, rk4, rk5, Arg.get, ret1, AV.cells, AV.isCell, addOff, minmaxL, Cap.room, Cap.cut, cutI, isSt, resultOf, Function.comp_apply, Function.comp_def, beq_self_eq_true, if_true, if_false, ite_true, ite_false, reduceCtorEq, bne_self_eq_false, Option.some.injEq, Prod.mk.injEq, ↓reduceIte, Nat.reduceEqDiff, Nat.reduceAdd, Nat.reduceMul, Nat.reduceSub, Nat.reduceLeDiff, Nat.reduceLT, Int.reduceLT, Int.reduceLE, Int.reduceEq, Int.reduceAdd, Int.reduceSub, Int.reduceNeg, Int.reduceToNat, List.mapM_cons, List.mapM_nil, Option.pure_def, Option.bind_eq_bind, eq_self, decide_true, decide_false, r7'], by simp (disch := first | omega | (simp only [rkl]; omega)) only [rk1, rk2, rk3, rk4, rk5, Arg.get, ret1, AV.cells, AV.isCell, addOff, minmaxL, Cap.room, Cap.cut, cutI, isSt, resultOf, Function.comp_apply, Function.comp_def, beq_self_eq_true, if_true, if_false, ite_true, ite_false, reduceCtorEq, bne_self_eq_false, Option.some.injEq, Prod.mk.injEq, ↓reduceIte, Nat.reduceEqDiff, Nat.reduceAdd, Nat.reduceMul, Nat.reduceSub, Nat.reduceLeDiff, Nat.reduceLT, Int.reduceLT, Int.reduceLE, Int.reduceEq, Int.reduceAdd, Int.reduceSub, Int.reduceNeg, Int.reduceToNat, List.mapM_cons, List.mapM_nil, Option.pure_def, Option.bind_eq_bind, eq_self, decide_true, decide_false, Int.natCast_add, Int.cast_ofNat_Int]⟩
        obtain ⟨ρ', h1, q0, q1, q6, q7, q8⟩ := hrun
        refine ⟨ρ', some k, h1, ⟨m, by omega, hm, hmc, fun j r hj hr hrc => ?_⟩, q0, q1, q6, q7.trans r7, q8⟩
        rcases last j r hj hr with h | ⟨_, rfl⟩
        · exact hall j r h hr hrc
        · exact hlt

theorem min_loop {σ : St} {G : Vm.Id} {cap : Cap} {rows : List Rw} {junk : List AV} (hg : σ.get G = some (rws rows ++ junk)) (few : rows.length < 2 ^ 40) : ∀ (m i : Nat), i + m = rows.length → ∀ {ρ : Env} {kk : Option Nat}, Best rows i kk → ρ 0 = .sl G 0 rows.length cap 5 → ρ 7 = .int .i64 (posI kk) → ρ 8 = .int .i64 i →
    ∃ ρ' kk', run (tab hsS) (.loop l52_11) ρ σ = some (.exit 2, ρ', σ) ∧ Best rows rows.length kk' ∧ ρ' 0 = ρ 0 ∧ ρ' 1 = ρ 1 ∧ ρ' 6 = ρ 6 ∧ ρ' 7 = .int .i64 (posI kk') := by
  intro m
  induction m with
  | zero =>
    intro i him ρ kk hb r0 r7 r8
    have hi : i = rows.length := by omega
    subst hi
    rw [run_loop]
    simp (disch := first | omega | (simp only [rkl]; omega)) only [rk1, rk2, rk3, rk4, rk5, Arg.get, ret1, AV.cells, AV.isCell, addOff, minmaxL, Cap.room, Cap.cut, cutI, isSt, resultOf, Function.comp_apply, Function.comp_def, beq_self_eq_true, if_true, if_false, ite_true, ite_false, reduceCtorEq, bne_self_eq_false, Option.some.injEq, Prod.mk.injEq, ↓reduceIte, Nat.reduceEqDiff, Nat.reduceAdd, Nat.reduceMul, Nat.reduceSub, Nat.reduceLeDiff, Nat.reduceLT, Int.reduceLT, Int.reduceLE, Int.reduceEq, Int.reduceAdd, Int.reduceSub, Int.reduceNeg, Int.reduceToNat, List.mapM_cons, List.mapM_nil, Option.pure_def, Option.bind_eq_bind, eq_self, decide_true, decide_false, l52_11, p52_7, r0, r8]
    exact ⟨_, kk, rfl, hb, by simp (disch := first | omega | (simp only [rkl]; omega)) only [rk1, rk2, rk3, rk4, rk5, Arg.get, ret1, AV.cells, AV.isCell, addOff, minmaxL, Cap.room, Cap.cut, cutI, isSt, resultOf, Function.comp_apply, Function.comp_def, beq_self_eq_true, if_true, if_false, ite_true, ite_false, reduceCtorEq, bne_self_eq_false, Option.some.injEq, Prod.mk.injEq, ↓reduceIte, Nat.reduceEqDiff, Nat.reduceAdd, Nat.reduceMul, Nat.reduceSub, Nat.reduceLeDiff, Nat.reduceLT, Int.reduceLT, Int.reduceLE, Int.reduceEq, Int.reduceAdd, Int.reduceSub, Int.reduceNeg, Int.reduceToNat, List.mapM_cons, List.mapM_nil, Option.pure_def, Option.bind_eq_bind, eq_self, decide_true, decide_false, r0], by simp (disch := first | omega | (simp only [rkl]; omega)) only [rk1, rk2, rk3, rk4, rk5, Arg.get, ret1, AV.cells, AV.isCell, addOff, minmaxL, Cap.room, Cap.cut, cutI, isSt, resultOf, Function.comp_apply, Function.comp_def, beq_self_eq_true, if_true, if_false, ite_true, ite_false, reduceCtorEq, bne_self_eq_false, Option.some.injEq, Prod.mk.injEq, ↓reduceIte, Nat.reduceEqDiff, Nat.reduceAdd, Nat.reduceMul, Nat.reduceSub, Nat.reduceLeDiff, Nat.reduceLT, Int.reduceLT, Int.reduceLE, Int.reduceEq, Int.reduceAdd, Int.reduceSub, Int.reduceNeg, Int.reduceToNat, List.mapM_cons, List.mapM_nil, Option.pure_def, Option.bind_eq_bind, eq_self, decide_true, decide_false], by simp (disch := first | omega | (simp only [rkl]; omega)) only [rk1, rk2, rk3, rk4, rk5, Arg.get, ret1, AV.cells, AV.isCell, addOff, minmaxL, Cap.room, Cap.cut, cutI, isSt, resultOf, Function.comp_apply, Function.comp_def, beq_self_eq_true, if_true, if_false, ite_true, ite_false, reduceCtorEq, bne_self_eq_false, Option.some.injEq, Prod.mk.injEq, ↓reduceIte, Nat.reduceEqDiff, Nat.reduceAdd, Nat.reduceMul, Nat.reduceSub, Nat.reduceLeDiff, Nat.reduceLT, Int.reduceLT, Int.reduceLE, Int.reduceEq, Int.reduceAdd, Int.reduceSub, Int.reduceNeg, Int.reduceToNat, List.mapM_cons, List.mapM_nil, Option.pure_def, Option.bind_eq_bind, eq_self, decide_true, decide_false], by simp (disch := first | omega | (simp only [rkl]; omega)) only [rk1, rk2, rk3, rk4, rk5, Arg.get, ret1, AV.cells, AV.isCell, addOff, minmaxL, Cap.room, Cap.cut, cutI, isSt, resultOf, Function.comp_apply, Function.comp_def, beq_self_eq_true, if_true, if_false, ite_true, ite_false, reduceCtorEq, bne_self_eq_false, Option.some.injEq, Prod.mk.injEq, ↓reduceIte, Nat.reduceEqDiff, Nat.reduceAdd, Nat.reduceMul, Nat.reduceSub, Nat.reduceLeDiff, Nat.reduceLT, Int.reduceLT, Int.reduceLE, Int.reduceEq, Int.reduceAdd, Int.reduceSub, Int.reduceNeg, Int.reduceToNat, List.mapM_cons, List.mapM_nil, Option.pure_def, Option.bind_eq_bind, eq_self, decide_true, decide_false, r7]⟩
  | succ m ih =>
    intro i him ρ kk hb r0 r7 r8
    obtain ⟨ρ1, kk1, e1, b1, q0, q1, q6, q7, q8⟩ := min_round hg (i := i) (by omega) few hb r0 r7 r8
    obtain ⟨ρ2, kk2, e2, b2, p0, p1, p6, p7⟩ := ih (i + 1) (by omega) b1 (q0.trans r0) q7 q8
    exact ⟨ρ2, kk2, by rw [run_loop, e1]; simp (disch := first | omega | (simp only [rkl]; omega)) only [rk1, rk2, rk3, rk4, rk5, Arg.get, ret1, AV.cells, AV.isCell, addOff, minmaxL, Cap.room, Cap.cut, cutI, isSt, resultOf, Function.comp_apply, Function.comp_def, beq_self_eq_true, if_true, if_false, ite_true, ite_false, reduceCtorEq, bne_self_eq_false, Option.some.injEq, Prod.mk.injEq, ↓reduceIte, Nat.reduceEqDiff, Nat.reduceAdd, Nat.reduceMul, Nat.reduceSub, Nat.reduceLeDiff, Nat.reduceLT, Int.reduceLT, Int.reduceLE, Int.reduceEq, Int.reduceAdd, Int.reduceSub, Int.reduceNeg, Int.reduceToNat, List.mapM_cons, List.mapM_nil, Option.pure_def, Option.bind_eq_bind, eq_self, decide_true, decide_false]; exact e2, b2, p0.trans q0, p1.trans q1, p6.trans q6, p7⟩
/-
  ShelfPlays: the law's own eviction, whole.
-/

theorem gcR_cell (g : List Rw) : (gcR g).all AV.isCell = true := by
  simp only [gcR, List.all_eq_true, List.mem_flatMap]
  rintro y ⟨x, _, hy⟩
  simp at hy
  rcases hy with rfl | rfl <;> rfl

theorem evict_step {n0 : Nat} {bud : Int} {σ : St} {a o : AV} {rows g : List Rw} (h : RowL σ a rows) (ho : LstC σ 2 o g.length (gcR g)) (hl : rows.length ≤ 1000) (hg : g.length < 2 ^ 20) (hb : ∀ r ∈ rows, 0 ≤ r.k.sz ∧ r.k.sz ≤ 1048576) (hn0 : n0 ≤ σ.next) (la : ∀ G, refId a = some G → n0 ≤ G.o ∧ G.o < σ.next ∧ refId o ≠ some G)
    (lo : ∀ G, refId o = some G → n0 ≤ G.o ∧ G.o < σ.next) {ρ : Env} (r0 : ρ 0 = a) (r1 : ρ 1 = .int .i64 bud) (r6 : ρ 6 = o) (hsum : bud < sumR rows) (hclean : ∃ r ∈ rows, r.c = true) :
    ∃ ρ' σ' a' o' k m, run (tab hsS) l52_15 ρ σ = some (.normal, ρ', σ') ∧ rows[k]? = some m ∧ m.c = true ∧ (∀ y ∈ rows, y.c = true → ltK y.k m.k = false) ∧ RowL σ' a' (rows.eraseIdx k) ∧ LstC σ' 2 o' (g ++ [m]).length (gcR (g ++ [m])) ∧ σ.next ≤ σ'.next ∧ σ'.ver = σ.ver ∧ (∀ q, q.o < n0 → σ'.heap q = σ.heap q) ∧
      (∀ G, refId a' = some G → n0 ≤ G.o ∧ G.o < σ'.next ∧ refId o' ≠ some G) ∧ (∀ G, refId o' = some G → n0 ≤ G.o ∧ G.o < σ'.next) ∧ ρ' 0 = a' ∧ ρ' 1 = ρ 1 ∧ ρ' 6 = o' := by
  have esz := size_rows h hl hb
  rcases h with ⟨_, h⟩ | ⟨G, cap, junk, rfl, h1, h2, h3⟩
  · subst h; obtain ⟨r, hr, _⟩ := hclean; simp at hr
  · obtain ⟨l1, l2, l3⟩ := la G rfl
    have e1 : ∃ ρ1, (∀ r, run (tab hsS) (.loop l52_11) ρ1 σ = r → run (tab hsS) l52_15 ρ σ = inBlk 1 (thenRun (run (tab hsS) (.seq (.seq (.ops p52_12) (.cond (.t 43) (.exit 0) .skip)) (.seq (.ops p52_13) (.draw d52_14)))) (inBlk 2 r))) ∧ ρ1 0 = ρ 0 ∧ ρ1 1 = ρ 1 ∧ ρ1 6 = ρ 6 ∧ ρ1 7 = .int .i64 (posI none) ∧ ρ1 8 = .int .i64 (0 : Nat) := by
      have hp : posI none = -1 := rfl
      simp (disch := first | omega | (simp only [rkl]; omega)) only [rk1, rk2, rk3, rk4, rk5, Arg.get, ret1, AV.cells, AV.isCell, addOff, minmaxL, Cap.room, Cap.cut, cutI, isSt, resultOf, Function.comp_apply, Function.comp_def, beq_self_eq_true, if_true, if_false, ite_true, ite_false, reduceCtorEq, bne_self_eq_false, Option.some.injEq, Prod.mk.injEq, ↓reduceIte, Nat.reduceEqDiff, Nat.reduceAdd, Nat.reduceMul, Nat.reduceSub, Nat.reduceLeDiff, Nat.reduceLT, Int.reduceLT, Int.reduceLE, Int.reduceEq, Int.reduceAdd, Int.reduceSub, Int.reduceNeg, Int.reduceToNat, List.mapM_cons, List.mapM_nil, Option.pure_def, Option.bind_eq_bind, eq_self, decide_true, decide_false, l52_15, p52_4, p52_5, p52_6, r0, r1, esz, hsum]
      exact ⟨_, fun r hr => by rw [hr], by simp (disch := first | omega | (simp only [rkl]; omega)) only [rk1, rk2, rk3, rk4, rk5, Arg.get, ret1, AV.cells, AV.isCell, addOff, minmaxL, Cap.room, Cap.cut, cutI, isSt, resultOf, Function.comp_apply, Function.comp_def, beq_self_eq_true, if_true, if_false, ite_true, ite_false, reduceCtorEq, bne_self_eq_false, Option.some.injEq, Prod.mk.injEq, ↓reduceIte, Nat.reduceEqDiff, Nat.reduceAdd, Nat.reduceMul, Nat.reduceSub, Nat.reduceLeDiff, Nat.reduceLT, Int.reduceLT, Int.reduceLE, Int.reduceEq, Int.reduceAdd, Int.reduceSub, Int.reduceNeg, Int.reduceToNat, List.mapM_cons, List.mapM_nil, Option.pure_def, Option.bind_eq_bind, eq_self, decide_true, decide_false, r0], by simp (disch := first | omega | (simp only [rkl]; omega)) only [rk1, rk2, rk3, rk4, rk5, Arg.get, ret1, AV.cells, AV.isCell, addOff, minmaxL, Cap.room, Cap.cut, cutI, isSt, resultOf, Function.comp_apply, Function.comp_def, beq_self_eq_true, if_true, if_false, ite_true, ite_false, reduceCtorEq, bne_self_eq_false, Option.some.injEq, Prod.mk.injEq, ↓reduceIte, Nat.reduceEqDiff, Nat.reduceAdd, Nat.reduceMul, Nat.reduceSub, Nat.reduceLeDiff, Nat.reduceLT, Int.reduceLT, Int.reduceLE, Int.reduceEq, Int.reduceAdd, Int.reduceSub, Int.reduceNeg, Int.reduceToNat, List.mapM_cons, List.mapM_nil, Option.pure_def, Option.bind_eq_bind, eq_self, decide_true, decide_false, r1], by simp (disch := first | omega | (simp only [rkl]; omega)) only [rk1, rk2, rk3, rk4, rk5, Arg.get, ret1, AV.cells, AV.isCell, addOff, minmaxL, Cap.room, Cap.cut, cutI, isSt, resultOf, Function.comp_apply, Function.comp_def, beq_self_eq_true, if_true, if_false, ite_true, ite_false, reduceCtorEq, bne_self_eq_false, Option.some.injEq, Prod.mk.injEq, ↓reduceIte, Nat.reduceEqDiff, Nat.reduceAdd, Nat.reduceMul, Nat.reduceSub, Nat.reduceLeDiff, Nat.reduceLT, Int.reduceLT, Int.reduceLE, Int.reduceEq, Int.reduceAdd, Int.reduceSub, Int.reduceNeg, Int.reduceToNat, List.mapM_cons, List.mapM_nil, Option.pure_def, Option.bind_eq_bind, eq_self, decide_true, decide_false], by simp (disch := first | omega | (simp only [rkl]; omega)) only [rk1, rk2, rk3, rk4, rk5, Arg.get, ret1, AV.cells, AV.isCell, addOff, minmaxL, Cap.room, Cap.cut, cutI, isSt, resultOf, Function.comp_apply, Function.comp_def, beq_self_eq_true, if_true, if_false, ite_true, ite_false, reduceCtorEq, bne_self_eq_false, Option.some.injEq, Prod.mk.injEq, ↓reduceIte, Nat.reduceEqDiff, Nat.reduceAdd, Nat.reduceMul, Nat.reduceSub, Nat.reduceLeDiff, Nat.reduceLT, Int.reduceLT, Int.reduceLE, Int.reduceEq, Int.reduceAdd, Int.reduceSub, Int.reduceNeg, Int.reduceToNat, List.mapM_cons, List.mapM_nil, Option.pure_def, Option.bind_eq_bind, eq_self, decide_true, decide_false, hp], by simp (disch := first | omega | (simp only [rkl]; omega)) only [rk1, rk2, rk3, rk4, rk5, Arg.get, ret1, AV.cells, AV.isCell, addOff, minmaxL, Cap.room, Cap.cut, cutI, isSt, resultOf, Function.comp_apply, Function.comp_def, beq_self_eq_true, if_true, if_false, ite_true, ite_false, reduceCtorEq, bne_self_eq_false, Option.some.injEq, Prod.mk.injEq, ↓reduceIte, Nat.reduceEqDiff, Nat.reduceAdd, Nat.reduceMul, Nat.reduceSub, Nat.reduceLeDiff, Nat.reduceLT, Int.reduceLT, Int.reduceLE, Int.reduceEq, Int.reduceAdd, Int.reduceSub, Int.reduceNeg, Int.reduceToNat, List.mapM_cons, List.mapM_nil, Option.pure_def, Option.bind_eq_bind, eq_self, decide_true, decide_false]; rfl⟩
    obtain ⟨ρ1, hr1, q0, q1, q6, q7, q8⟩ := e1
    obtain ⟨ρ2, kk, e2, best, p0, p1, p6, p7⟩ := min_loop h1 (by omega) rows.length 0 (by omega) (kk := none) (fun j r hj _ => by omega) (q0.trans r0) q7 q8
    rw [hr1 _ e2]
    have p0 : ρ2 0 = .sl G 0 rows.length cap 5 := p0.trans (q0.trans r0)
    have p6 : ρ2 6 = o := p6.trans (q6.trans r6)
    have p1 : ρ2 1 = ρ 1 := p1.trans q1
    cases kk with
    | none =>
      exfalso
      obtain ⟨r, hr, hc⟩ := hclean
      obtain ⟨j, hj, rfl⟩ := List.getElem_of_mem hr
      have := best j _ hj (List.getElem?_eq_getElem hj)
      rw [hc] at this; cases this
    | some k =>
      obtain ⟨m, hk, hm, hmc, hall⟩ := best
      have p7 : ρ2 7 = .int .i64 k := p7
      obtain ⟨_, _, pk2⟩ := row_part (junk := junk) hm
      have hep : elemPtr 5 k (.sl G 0 rows.length cap 5) = some (.ptr G (k * 5)) := by rw [elemPtr_sl hk]; simp
      have hneg : ¬ ((k : Int) < 0) := by omega
      have hz : newCells σ (gcR [m]) = some (⟨σ.next, 0, 0⟩, σ.new (gcR [m])) := newCells_ok (gcR_cell _)
      have hfv : fillV [.int .u32 0, .int .u32 0] [(0, 2, [.int .u32 m.k.v, .int .u32 m.k.u])] = some (gcR [m]) := rfl
      have n1 : (σ.new (gcR [m])).next = σ.next + 1 := rfl
      have hel : elems (σ.new (gcR [m])) 2 1 (.sl ⟨σ.next, 0, 0⟩ 0 1 (.ex 1) 2) = some (gcR [m]) := by
        have : (σ.new (gcR [m])).get ⟨σ.next, 0, 0⟩ = some (gcR [m]) := by rw [get_new, if_pos rfl]
        simp only [elems, this]; rfl
      have ho1 : LstC (σ.new (gcR [m])) 2 o g.length (gcR g) := ho.keep fun B hB => new_get (lo B hB).2
      obtain ⟨s2, ea, O2, n2, v2, h2'⟩ := app_lst ho1 (bytes := 8) (row := gcR [m]) (by omega) (by omega) rfl (gcR_cell _)
      rw [n1] at ea O2
      have hG2 : s2.get G = some (rws rows ++ junk) := by
        have := h2' G (by rw [n1]; omega) l3
        simp only [St.get, this]
        have := new_get (σ := σ) (cs := gcR [m]) (q := G) l2
        simp only [St.get] at this h1
        rw [this]; exact h1
      obtain ⟨y, hT, hly, hey⟩ := tail_elems hk hG2 h2
      obtain ⟨s3, ec, R3, o3⟩ := app_cut_in hk hG2 h2 h3
      have hsl1 : ∀ ρ : Env, sliceSl 5 (.sl G 0 rows.length cap 5) none (some (.t 53)) none ρ = (bndV (ρ 53) cap.room).bind fun h => if h ≤ cap.room then some (.sl G 0 h cap 5) else none := fun ρ => slice_head0 G rows.length cap 53 ρ
      have hbk : bndV (.int .i64 (k : Int)) cap.room = some k := by rw [bndV_nat (by omega) (by omega)]; rfl
      have hbk1 : bndV (.int .i64 ((k + 1 : Nat) : Int)) rows.length = some (k + 1) := by rw [bndV_nat (by omega) (by omega)]; rfl
      have hk1 : (k : Int) + 1 = ((k + 1 : Nat) : Int) := by omega
      have hkr : k ≤ cap.room := by omega
      generalize cap.room = rm at hsl1 hbk hkr
      have hGn : G ≠ ⟨σ.next + 1, 0, 0⟩ := fun e => by rw [e] at l2; simp at l2; omega
      have hrun : ∃ ρ', run (tab hsS) (.seq (.seq (.ops p52_12) (.cond (.t 43) (.exit 0) .skip)) (.seq (.ops p52_13) (.draw d52_14))) ρ2 σ = some (.normal, ρ', s3) ∧ ρ' 0 = .sl G 0 (rows.length - 1) cap 5 ∧ ρ' 1 = ρ2 1 ∧ ρ' 6 = .sl ⟨σ.next + 1, 0, 0⟩ 0 (g.length + 1) (.ge (g.length + 1)) 2 := by
        generalize gcR [m] = cells at *
        simp (disch := first | omega | (simp only [rkl]; omega)) only [rk1, rk2, rk3, rk4, rk5, Arg.get, ret1, AV.cells, AV.isCell, addOff, minmaxL, Cap.room, Cap.cut, cutI, isSt, resultOf, Function.comp_apply, Function.comp_def, beq_self_eq_true, if_true, if_false, ite_true, ite_false, reduceCtorEq, bne_self_eq_false, Option.some.injEq, Prod.mk.injEq, ↓reduceIte, Nat.reduceEqDiff, Nat.reduceAdd, Nat.reduceMul, Nat.reduceSub, Nat.reduceLeDiff, Nat.reduceLT, Int.reduceLT, Int.reduceLE, Int.reduceEq, Int.reduceAdd, Int.reduceSub, Int.reduceNeg, Int.reduceToNat, List.mapM_cons, List.mapM_nil, Option.pure_def, Option.bind_eq_bind, eq_self, decide_true, decide_false, p52_12, p52_13, p0, p6, p7, hneg, hep, h1, pk2, hfv, hz, hel, ea]
        rw [drawn (seq_d52_14 _)]
        simp (disch := first | omega | (simp only [rkl]; omega)) only [rk1, rk2, rk3, rk4, rk5, Arg.get, ret1, AV.cells, AV.isCell, addOff, minmaxL, Cap.room, Cap.cut, cutI, isSt, resultOf, Function.comp_apply, Function.comp_def, beq_self_eq_true, if_true, if_false, ite_true, ite_false, reduceCtorEq, bne_self_eq_false, Option.some.injEq, Prod.mk.injEq, ↓reduceIte, Nat.reduceEqDiff, Nat.reduceAdd, Nat.reduceMul, Nat.reduceSub, Nat.reduceLeDiff, Nat.reduceLT, Int.reduceLT, Int.reduceLE, Int.reduceEq, Int.reduceAdd, Int.reduceSub, Int.reduceNeg, Int.reduceToNat, List.mapM_cons, List.mapM_nil, Option.pure_def, Option.bind_eq_bind, eq_self, decide_true, decide_false, d52_14, p0, p7, hsl1, slice_tail, hbk, hkr, hk1, hbk1, hT, hly, hey, ec]
        exact ⟨_, rfl, by simp (disch := first | omega | (simp only [rkl]; omega)) only [rk1, rk2, rk3, rk4, rk5, Arg.get, ret1, AV.cells, AV.isCell, addOff, minmaxL, Cap.room, Cap.cut, cutI, isSt, resultOf, Function.comp_apply, Function.comp_def, beq_self_eq_true, if_true, if_false, ite_true, ite_false, reduceCtorEq, bne_self_eq_false, Option.some.injEq, Prod.mk.injEq, ↓reduceIte, Nat.reduceEqDiff, Nat.reduceAdd, Nat.reduceMul, Nat.reduceSub, Nat.reduceLeDiff, Nat.reduceLT, Int.reduceLT, Int.reduceLE, Int.reduceEq, Int.reduceAdd, Int.reduceSub, Int.reduceNeg, Int.reduceToNat, List.mapM_cons, List.mapM_nil, Option.pure_def, Option.bind_eq_bind, eq_self, decide_true, decide_false], by simp (disch := first | omega | (simp only [rkl]; omega)) only [rk1, rk2, rk3, rk4, rk5, Arg.get, ret1, AV.cells, AV.isCell, addOff, minmaxL, Cap.room, Cap.cut, cutI, isSt, resultOf, Function.comp_apply, Function.comp_def, beq_self_eq_true, if_true, if_false, ite_true, ite_false, reduceCtorEq, bne_self_eq_false, Option.some.injEq, Prod.mk.injEq, ↓reduceIte, Nat.reduceEqDiff, Nat.reduceAdd, Nat.reduceMul, Nat.reduceSub, Nat.reduceLeDiff, Nat.reduceLT, Int.reduceLT, Int.reduceLE, Int.reduceEq, Int.reduceAdd, Int.reduceSub, Int.reduceNeg, Int.reduceToNat, List.mapM_cons, List.mapM_nil, Option.pure_def, Option.bind_eq_bind, eq_self, decide_true, decide_false], by simp (disch := first | omega | (simp only [rkl]; omega)) only [rk1, rk2, rk3, rk4, rk5, Arg.get, ret1, AV.cells, AV.isCell, addOff, minmaxL, Cap.room, Cap.cut, cutI, isSt, resultOf, Function.comp_apply, Function.comp_def, beq_self_eq_true, if_true, if_false, ite_true, ite_false, reduceCtorEq, bne_self_eq_false, Option.some.injEq, Prod.mk.injEq, ↓reduceIte, Nat.reduceEqDiff, Nat.reduceAdd, Nat.reduceMul, Nat.reduceSub, Nat.reduceLeDiff, Nat.reduceLT, Int.reduceLT, Int.reduceLE, Int.reduceEq, Int.reduceAdd, Int.reduceSub, Int.reduceNeg, Int.reduceToNat, List.mapM_cons, List.mapM_nil, Option.pure_def, Option.bind_eq_bind, eq_self, decide_true, decide_false]⟩
      obtain ⟨ρ', hr, t0, t1, t6⟩ := hrun
      simp (disch := first | omega | (simp only [rkl]; omega)) only [rk1, rk2, rk3, rk4, rk5, Arg.get, ret1, AV.cells, AV.isCell, addOff, minmaxL, Cap.room, Cap.cut, cutI, isSt, resultOf, Function.comp_apply, Function.comp_def, beq_self_eq_true, if_true, if_false, ite_true, ite_false, reduceCtorEq, bne_self_eq_false, Option.some.injEq, Prod.mk.injEq, ↓reduceIte, Nat.reduceEqDiff, Nat.reduceAdd, Nat.reduceMul, Nat.reduceSub, Nat.reduceLeDiff, Nat.reduceLT, Int.reduceLT, Int.reduceLE, Int.reduceEq, Int.reduceAdd, Int.reduceSub, Int.reduceNeg, Int.reduceToNat, List.mapM_cons, List.mapM_nil, Option.pure_def, Option.bind_eq_bind, eq_self, decide_true, decide_false, hr]
      have happ : gcR (g ++ [m]) = gcR g ++ gcR [m] := by simp [gcR]
      refine ⟨ρ', s3, _, _, k, m, ⟨rfl, rfl⟩, hm, hmc, fun y hy hc => ?_, R3, ?_, by rw [o3.next, n2, n1]; omega, by rw [o3.ver, v2]; rfl, fun q hq => ?_, fun B hB => ?_, fun B hB => ?_, t0, t1.trans p1, t6⟩
      · obtain ⟨j, hj, rfl⟩ := List.getElem_of_mem hy
        exact hall j _ hj (List.getElem?_eq_getElem hj) hc
      · rw [happ, List.length_append]
        exact O2.keep fun B hB => by
          simp only [refId, Option.some.injEq] at hB
          rw [o3.get (by rw [← hB]; exact hGn.symm)]
      · rw [o3.heap q (fun e => by rw [e] at hq; omega), h2' q (by rw [n1]; omega) (fun e => by have := (lo q e).1; omega)]
        exact (Frm.new σ _ (fun _ => False)).heap q (by omega) (fun h => h)
      · simp only [refId, Option.some.injEq] at hB; subst hB
        exact ⟨l1, by rw [o3.next, n2, n1]; omega, fun e => hGn (by simpa [refId] using e.symm)⟩
      · simp only [refId, Option.some.injEq] at hB; subst hB
        exact ⟨by show n0 ≤ σ.next + 1; omega, by rw [o3.next, n2, n1]; show σ.next + 1 < _; omega⟩

theorem evict_stop {bud : Int} {σ : St} {a : AV} {rows : List Rw} (h : RowL σ a rows) (hl : rows.length ≤ 1000) (hb : ∀ r ∈ rows, 0 ≤ r.k.sz ∧ r.k.sz ≤ 1048576) (h0 : 0 ≤ bud) {ρ : Env} (r0 : ρ 0 = a) (r1 : ρ 1 = .int .i64 bud) (hno : ¬ (bud < sumR rows ∧ ∃ r ∈ rows, r.c = true)) :
    ∃ ρ', run (tab hsS) (.loop l52_15) ρ σ = some (.exit 0, ρ', σ) ∧ ρ' 0 = ρ 0 ∧ ρ' 6 = ρ 6 := by
  have esz := size_rows h hl hb
  rw [run_loop]
  by_cases hsum : bud < sumR rows
  · rcases h with ⟨rfl, hr⟩ | ⟨G, cap, junk, rfl, h1, h2, h3⟩
    · subst hr; simp [sumR] at hsum; omega
    · have e1 : ∃ ρ1, (∀ r, run (tab hsS) (.loop l52_11) ρ1 σ = r → run (tab hsS) l52_15 ρ σ = inBlk 1 (thenRun (run (tab hsS) (.seq (.seq (.ops p52_12) (.cond (.t 43) (.exit 0) .skip)) (.seq (.ops p52_13) (.draw d52_14)))) (inBlk 2 r))) ∧ ρ1 0 = ρ 0 ∧ ρ1 1 = ρ 1 ∧ ρ1 6 = ρ 6 ∧ ρ1 7 = .int .i64 (posI none) ∧ ρ1 8 = .int .i64 (0 : Nat) := by
        have hp : posI none = -1 := rfl
        simp (disch := first | omega | (simp only [rkl]; omega)) only [rk1, rk2, rk3, rk4, rk5, Arg.get, ret1, AV.cells, AV.isCell, addOff, minmaxL, Cap.room, Cap.cut, cutI, isSt, resultOf, Function.comp_apply, Function.comp_def, beq_self_eq_true, if_true, if_false, ite_true, ite_false, reduceCtorEq, bne_self_eq_false, Option.some.injEq, Prod.mk.injEq, ↓reduceIte, Nat.reduceEqDiff, Nat.reduceAdd, Nat.reduceMul, Nat.reduceSub, Nat.reduceLeDiff, Nat.reduceLT, Int.reduceLT, Int.reduceLE, Int.reduceEq, Int.reduceAdd, Int.reduceSub, Int.reduceNeg, Int.reduceToNat, List.mapM_cons, List.mapM_nil, Option.pure_def, Option.bind_eq_bind, eq_self, decide_true, decide_false, l52_15, p52_4, p52_5, p52_6, r0, r1, esz, hsum]
        exact ⟨_, fun r hr => by rw [hr], by simp (disch := first | omega | (simp only [rkl]; omega)) only [rk1, rk2, rk3, rk4, rk5, Arg.get, ret1, AV.cells, AV.isCell, addOff, minmaxL, Cap.room, Cap.cut, cutI, isSt, resultOf, Function.comp_apply, Function.comp_def, beq_self_eq_true, if_true, if_false, ite_true, ite_false, reduceCtorEq, bne_self_eq_false, Option.some.injEq, Prod.mk.injEq, ↓reduceIte, Nat.reduceEqDiff, Nat.reduceAdd, Nat.reduceMul, Nat.reduceSub, Nat.reduceLeDiff, Nat.reduceLT, Int.reduceLT, Int.reduceLE, Int.reduceEq, Int.reduceAdd, Int.reduceSub, Int.reduceNeg, Int.reduceToNat, List.mapM_cons, List.mapM_nil, Option.pure_def, Option.bind_eq_bind, eq_self, decide_true, decide_false, r0], by simp (disch := first | omega | (simp only [rkl]; omega)) only [rk1, rk2, rk3, rk4, rk5, Arg.get, ret1, AV.cells, AV.isCell, addOff, minmaxL, Cap.room, Cap.cut, cutI, isSt, resultOf, Function.comp_apply, Function.comp_def, beq_self_eq_true, if_true, if_false, ite_true, ite_false, reduceCtorEq, bne_self_eq_false, Option.some.injEq, Prod.mk.injEq, ↓reduceIte, Nat.reduceEqDiff, Nat.reduceAdd, Nat.reduceMul, Nat.reduceSub, Nat.reduceLeDiff, Nat.reduceLT, Int.reduceLT, Int.reduceLE, Int.reduceEq, Int.reduceAdd, Int.reduceSub, Int.reduceNeg, Int.reduceToNat, List.mapM_cons, List.mapM_nil, Option.pure_def, Option.bind_eq_bind, eq_self, decide_true, decide_false, r1], by simp (disch := first | omega | (simp only [rkl]; omega)) only [rk1, rk2, rk3, rk4, rk5, Arg.get, ret1, AV.cells, AV.isCell, addOff, minmaxL, Cap.room, Cap.cut, cutI, isSt, resultOf, Function.comp_apply, Function.comp_def, beq_self_eq_true, if_true, if_false, ite_true, ite_false, reduceCtorEq, bne_self_eq_false, Option.some.injEq, Prod.mk.injEq, ↓reduceIte, Nat.reduceEqDiff, Nat.reduceAdd, Nat.reduceMul, Nat.reduceSub, Nat.reduceLeDiff, Nat.reduceLT, Int.reduceLT, Int.reduceLE, Int.reduceEq, Int.reduceAdd, Int.reduceSub, Int.reduceNeg, Int.reduceToNat, List.mapM_cons, List.mapM_nil, Option.pure_def, Option.bind_eq_bind, eq_self, decide_true, decide_false], by simp (disch := first | omega | (simp only [rkl]; omega)) only [rk1, rk2, rk3, rk4, rk5, Arg.get, ret1, AV.cells, AV.isCell, addOff, minmaxL, Cap.room, Cap.cut, cutI, isSt, resultOf, Function.comp_apply, Function.comp_def, beq_self_eq_true, if_true, if_false, ite_true, ite_false, reduceCtorEq, bne_self_eq_false, Option.some.injEq, Prod.mk.injEq, ↓reduceIte, Nat.reduceEqDiff, Nat.reduceAdd, Nat.reduceMul, Nat.reduceSub, Nat.reduceLeDiff, Nat.reduceLT, Int.reduceLT, Int.reduceLE, Int.reduceEq, Int.reduceAdd, Int.reduceSub, Int.reduceNeg, Int.reduceToNat, List.mapM_cons, List.mapM_nil, Option.pure_def, Option.bind_eq_bind, eq_self, decide_true, decide_false, hp], by simp (disch := first | omega | (simp only [rkl]; omega)) only [rk1, rk2, rk3, rk4, rk5, Arg.get, ret1, AV.cells, AV.isCell, addOff, minmaxL, Cap.room, Cap.cut, cutI, isSt, resultOf, Function.comp_apply, Function.comp_def, beq_self_eq_true, if_true, if_false, ite_true, ite_false, reduceCtorEq, bne_self_eq_false, Option.some.injEq, Prod.mk.injEq, ↓reduceIte, Nat.reduceEqDiff, Nat.reduceAdd, Nat.reduceMul, Nat.reduceSub, Nat.reduceLeDiff, Nat.reduceLT, Int.reduceLT, Int.reduceLE, Int.reduceEq, Int.reduceAdd, Int.reduceSub, Int.reduceNeg, Int.reduceToNat, List.mapM_cons, List.mapM_nil, Option.pure_def, Option.bind_eq_bind, eq_self, decide_true, decide_false]; rfl⟩
      obtain ⟨ρ1, hr1, q0, q1, q6, q7, q8⟩ := e1
      obtain ⟨ρ2, kk, e2, best, p0, p1, p6, p7⟩ := min_loop h1 (by omega) rows.length 0 (by omega) (kk := none) (fun j r hj _ => by omega) (q0.trans r0) q7 q8
      rw [hr1 _ e2]
      cases kk with
      | some k =>
        obtain ⟨m, hk, hm, hmc, _⟩ := best
        exact absurd ⟨hsum, m, List.mem_of_getElem? hm, hmc⟩ hno
      | none =>
        have hp : posI none < 0 := by decide
        simp (disch := first | omega | (simp only [rkl]; omega)) only [rk1, rk2, rk3, rk4, rk5, Arg.get, ret1, AV.cells, AV.isCell, addOff, minmaxL, Cap.room, Cap.cut, cutI, isSt, resultOf, Function.comp_apply, Function.comp_def, beq_self_eq_true, if_true, if_false, ite_true, ite_false, reduceCtorEq, bne_self_eq_false, Option.some.injEq, Prod.mk.injEq, ↓reduceIte, Nat.reduceEqDiff, Nat.reduceAdd, Nat.reduceMul, Nat.reduceSub, Nat.reduceLeDiff, Nat.reduceLT, Int.reduceLT, Int.reduceLE, Int.reduceEq, Int.reduceAdd, Int.reduceSub, Int.reduceNeg, Int.reduceToNat, List.mapM_cons, List.mapM_nil, Option.pure_def, Option.bind_eq_bind, eq_self, decide_true, decide_false, p52_12, p7, hp]
        exact ⟨_, rfl, by simp (disch := first | omega | (simp only [rkl]; omega)) only [rk1, rk2, rk3, rk4, rk5, Arg.get, ret1, AV.cells, AV.isCell, addOff, minmaxL, Cap.room, Cap.cut, cutI, isSt, resultOf, Function.comp_apply, Function.comp_def, beq_self_eq_true, if_true, if_false, ite_true, ite_false, reduceCtorEq, bne_self_eq_false, Option.some.injEq, Prod.mk.injEq, ↓reduceIte, Nat.reduceEqDiff, Nat.reduceAdd, Nat.reduceMul, Nat.reduceSub, Nat.reduceLeDiff, Nat.reduceLT, Int.reduceLT, Int.reduceLE, Int.reduceEq, Int.reduceAdd, Int.reduceSub, Int.reduceNeg, Int.reduceToNat, List.mapM_cons, List.mapM_nil, Option.pure_def, Option.bind_eq_bind, eq_self, decide_true, decide_false]; exact p0.trans q0, by simp (disch := first | omega | (simp only [rkl]; omega)) only [rk1, rk2, rk3, rk4, rk5, Arg.get, ret1, AV.cells, AV.isCell, addOff, minmaxL, Cap.room, Cap.cut, cutI, isSt, resultOf, Function.comp_apply, Function.comp_def, beq_self_eq_true, if_true, if_false, ite_true, ite_false, reduceCtorEq, bne_self_eq_false, Option.some.injEq, Prod.mk.injEq, ↓reduceIte, Nat.reduceEqDiff, Nat.reduceAdd, Nat.reduceMul, Nat.reduceSub, Nat.reduceLeDiff, Nat.reduceLT, Int.reduceLT, Int.reduceLE, Int.reduceEq, Int.reduceAdd, Int.reduceSub, Int.reduceNeg, Int.reduceToNat, List.mapM_cons, List.mapM_nil, Option.pure_def, Option.bind_eq_bind, eq_self, decide_true, decide_false]; exact p6.trans q6⟩
  · have hns : ¬ (sumR rows > bud) := hsum
    simp (disch := first | omega | (simp only [rkl]; omega)) only [rk1, rk2, rk3, rk4, rk5, Arg.get, ret1, AV.cells, AV.isCell, addOff, minmaxL, Cap.room, Cap.cut, cutI, isSt, resultOf, Function.comp_apply, Function.comp_def, beq_self_eq_true, if_true, if_false, ite_true, ite_false, reduceCtorEq, bne_self_eq_false, Option.some.injEq, Prod.mk.injEq, ↓reduceIte, Nat.reduceEqDiff, Nat.reduceAdd, Nat.reduceMul, Nat.reduceSub, Nat.reduceLeDiff, Nat.reduceLT, Int.reduceLT, Int.reduceLE, Int.reduceEq, Int.reduceAdd, Int.reduceSub, Int.reduceNeg, Int.reduceToNat, List.mapM_cons, List.mapM_nil, Option.pure_def, Option.bind_eq_bind, eq_self, decide_true, decide_false, l52_15, p52_4, r0, r1, esz, hns]
    exact ⟨_, rfl, by simp (disch := first | omega | (simp only [rkl]; omega)) only [rk1, rk2, rk3, rk4, rk5, Arg.get, ret1, AV.cells, AV.isCell, addOff, minmaxL, Cap.room, Cap.cut, cutI, isSt, resultOf, Function.comp_apply, Function.comp_def, beq_self_eq_true, if_true, if_false, ite_true, ite_false, reduceCtorEq, bne_self_eq_false, Option.some.injEq, Prod.mk.injEq, ↓reduceIte, Nat.reduceEqDiff, Nat.reduceAdd, Nat.reduceMul, Nat.reduceSub, Nat.reduceLeDiff, Nat.reduceLT, Int.reduceLT, Int.reduceLE, Int.reduceEq, Int.reduceAdd, Int.reduceSub, Int.reduceNeg, Int.reduceToNat, List.mapM_cons, List.mapM_nil, Option.pure_def, Option.bind_eq_bind, eq_self, decide_true, decide_false, r0], by simp (disch := first | omega | (simp only [rkl]; omega)) only [rk1, rk2, rk3, rk4, rk5, Arg.get, ret1, AV.cells, AV.isCell, addOff, minmaxL, Cap.room, Cap.cut, cutI, isSt, resultOf, Function.comp_apply, Function.comp_def, beq_self_eq_true, if_true, if_false, ite_true, ite_false, reduceCtorEq, bne_self_eq_false, Option.some.injEq, Prod.mk.injEq, ↓reduceIte, Nat.reduceEqDiff, Nat.reduceAdd, Nat.reduceMul, Nat.reduceSub, Nat.reduceLeDiff, Nat.reduceLT, Int.reduceLT, Int.reduceLE, Int.reduceEq, Int.reduceAdd, Int.reduceSub, Int.reduceNeg, Int.reduceToNat, List.mapM_cons, List.mapM_nil, Option.pure_def, Option.bind_eq_bind, eq_self, decide_true, decide_false]⟩

theorem evict_all {n0 : Nat} {bud : Int} (h0 : 0 ≤ bud) : ∀ (n : Nat) {σ : St} {a o : AV} {rows g : List Rw} (_ : rows.length ≤ n) (_ : RowL σ a rows) (_ : LstC σ 2 o g.length (gcR g)) (_ : rows.length ≤ 1000) (_ : g.length + n < 2 ^ 20) (_ : ∀ r ∈ rows, 0 ≤ r.k.sz ∧ r.k.sz ≤ 1048576) (_ : n0 ≤ σ.next)
    (_ : ∀ G, refId a = some G → n0 ≤ G.o ∧ G.o < σ.next ∧ refId o ≠ some G) (_ : ∀ G, refId o = some G → n0 ≤ G.o ∧ G.o < σ.next) {ρ : Env} (_ : ρ 0 = a) (_ : ρ 1 = .int .i64 bud) (_ : ρ 6 = o),
    ∃ ρ' σ' a' o' g' rows', run (tab hsS) (.loop l52_15) ρ σ = some (.exit 0, ρ', σ') ∧ GoesL bud rows g' rows' ∧ RowL σ' a' rows' ∧ LstC σ' 2 o' (g ++ g').length (gcR (g ++ g')) ∧ σ.next ≤ σ'.next ∧ σ'.ver = σ.ver ∧ (∀ q, q.o < n0 → σ'.heap q = σ.heap q) ∧
      (∀ G, refId a' = some G → n0 ≤ G.o ∧ G.o < σ'.next) ∧ (∀ G, refId o' = some G → n0 ≤ G.o ∧ G.o < σ'.next) ∧ ρ' 0 = a' ∧ ρ' 6 = o' := by
  intro n
  have stop : ∀ {σ : St} {a o : AV} {rows g : List Rw} (_ : RowL σ a rows) (_ : LstC σ 2 o g.length (gcR g)) (_ : rows.length ≤ 1000) (_ : ∀ r ∈ rows, 0 ≤ r.k.sz ∧ r.k.sz ≤ 1048576)
      (_ : ∀ G, refId a = some G → n0 ≤ G.o ∧ G.o < σ.next ∧ refId o ≠ some G) (_ : ∀ G, refId o = some G → n0 ≤ G.o ∧ G.o < σ.next) {ρ : Env} (_ : ρ 0 = a) (_ : ρ 1 = .int .i64 bud) (_ : ρ 6 = o) (_ : ¬ (bud < sumR rows ∧ ∃ r ∈ rows, r.c = true)),
      ∃ ρ' σ' a' o' g' rows', run (tab hsS) (.loop l52_15) ρ σ = some (.exit 0, ρ', σ') ∧ GoesL bud rows g' rows' ∧ RowL σ' a' rows' ∧ LstC σ' 2 o' (g ++ g').length (gcR (g ++ g')) ∧ σ.next ≤ σ'.next ∧ σ'.ver = σ.ver ∧ (∀ q, q.o < n0 → σ'.heap q = σ.heap q) ∧
        (∀ G, refId a' = some G → n0 ≤ G.o ∧ G.o < σ'.next) ∧ (∀ G, refId o' = some G → n0 ≤ G.o ∧ G.o < σ'.next) ∧ ρ' 0 = a' ∧ ρ' 6 = o' := by
    intro σ a o rows g h ho hl hb la lo ρ r0 r1 r6 hno
    obtain ⟨ρ', hr, q0, q6⟩ := evict_stop h hl hb h0 r0 r1 hno
    exact ⟨ρ', σ, a, o, [], rows, hr, .stop hno, h, by simpa using ho, Nat.le_refl _, rfl, fun _ _ => rfl, fun G hG => ⟨(la G hG).1, (la G hG).2.1⟩, lo, q0.trans r0, q6.trans r6⟩
  induction n with
  | zero =>
    intro σ a o rows g hn h ho hl hg hb hn0 la lo ρ r0 r1 r6
    refine stop h ho hl hb la lo r0 r1 r6 fun ⟨_, r, hr, _⟩ => ?_
    rw [List.length_eq_zero_iff.1 (show rows.length = 0 by omega)] at hr
    simp at hr
  | succ n ih =>
    intro σ a o rows g hn h ho hl hg hb hn0 la lo ρ r0 r1 r6
    by_cases hgo : bud < sumR rows ∧ ∃ r ∈ rows, r.c = true
    · obtain ⟨ρ1, σ1, a1, o1, k, m, e1, hk, hmc, hmin, R1, O1, n1, v1, hh1, la1, lo1, q0, q1, q6⟩ := evict_step h ho hl (by omega) hb hn0 la lo r0 r1 r6 hgo.1 hgo.2
      have hkl : k < rows.length := (List.getElem?_eq_some_iff.1 hk).1
      have hel := erase_len hkl
      obtain ⟨ρ2, σ2, a2, o2, g2, rows2, e2, G2, R2, O2, n2, v2, hh2, la2, lo2, p0, p6⟩ := ih (by omega) R1 O1 (by omega) (by simp; omega) (fun r hr => hb r (List.mem_of_mem_eraseIdx hr)) (by omega) la1 lo1 q0 (q1.trans r1) q6
      refine ⟨ρ2, σ2, a2, o2, m :: g2, rows2, by rw [run_loop, e1]; simp (disch := first | omega | (simp only [rkl]; omega)) only [rk1, rk2, rk3, rk4, rk5, Arg.get, ret1, AV.cells, AV.isCell, addOff, minmaxL, Cap.room, Cap.cut, cutI, isSt, resultOf, Function.comp_apply, Function.comp_def, beq_self_eq_true, if_true, if_false, ite_true, ite_false, reduceCtorEq, bne_self_eq_false, Option.some.injEq, Prod.mk.injEq, ↓reduceIte, Nat.reduceEqDiff, Nat.reduceAdd, Nat.reduceMul, Nat.reduceSub, Nat.reduceLeDiff, Nat.reduceLT, Int.reduceLT, Int.reduceLE, Int.reduceEq, Int.reduceAdd, Int.reduceSub, Int.reduceNeg, Int.reduceToNat, List.mapM_cons, List.mapM_nil, Option.pure_def, Option.bind_eq_bind, eq_self, decide_true, decide_false]; exact e2, .step hgo.1 hk hmc hmin G2, R2, by simpa using O2, by omega, v2.trans v1, fun q hq => (hh2 q hq).trans (hh1 q hq), la2, lo2, p0, p6⟩
    · exact stop h ho hl hb la lo r0 r1 r6 hgo

theorem evict52 {bud : Int} (h0 : 0 ≤ bud) {σ : St} {a : AV} {rows : List Rw} (h : RowL σ a rows) (hl : rows.length ≤ 1000) (hb : ∀ r ∈ rows, 0 ≤ r.k.sz ∧ r.k.sz ≤ 1048576) (la : ∀ G, refId a = some G → G.o < σ.next) :
    ∃ σ' o l g rows', ev (tab hsS) 52 [a, .int .i64 bud] σ = some (.tup [o, l], σ') ∧ GoesL bud rows g rows' ∧ RowL σ' l rows' ∧ LstC σ' 2 o g.length (gcR g) ∧ Frm σ σ' (fun _ => False) ∧ (∀ G, refId l = some G → σ.next ≤ G.o ∧ G.o < σ'.next) ∧ (∀ G, refId o = some G → σ.next ≤ G.o ∧ G.o < σ'.next) := by
  have copy : ∃ σ1 a1, lenOf a = some rows.length ∧ elems σ 5 rows.length a = some (rws rows) ∧ appendTo σ 5 32 rows.length (rws rows) .nilsl = some (a1, σ1) ∧ RowL σ1 a1 rows ∧ Frm σ σ1 (fun _ => False) ∧ (∀ G, refId a1 = some G → σ.next ≤ G.o ∧ G.o < σ1.next) := by
    rcases h with ⟨rfl, rfl⟩ | ⟨G, cap, junk, rfl, h1, h2, h3⟩
    · exact ⟨σ, .nilsl, rfl, rfl, rfl, .inl ⟨rfl, rfl⟩, .refl _ _, fun G h => by simp [refId] at h⟩
    · have hel : elems σ 5 rows.length (.sl G 0 rows.length cap 5) = some (rws rows) := by
        simp only [elems, h1, Option.bind_some, Nat.zero_add, List.drop_zero]
        rw [if_pos (by rw [List.length_append, rws_len]; omega), List.take_left' (rws_len rows)]
      by_cases hz : rows.length = 0
      · have hr := List.length_eq_zero_iff.1 hz
        subst hr
        exact ⟨σ, .nilsl, rfl, hel, rfl, .inl ⟨rfl, rfl⟩, .refl _ _, fun G h => by simp [refId] at h⟩
      · have hgm : rows.length * 32 ≤ growMax := by have : growMax = 2 ^ 48 := rfl; omega
        refine ⟨σ.new (rws rows), .sl ⟨σ.next, 0, 0⟩ 0 rows.length (.ge rows.length) 5, rfl, hel, append_nil' (by omega) hgm (rws_cell _), .inr ⟨⟨σ.next, 0, 0⟩, .ge rows.length, [], rfl, by rw [get_new, if_pos rfl, List.append_nil], by simp [Cap.room], by simp [Cap.room]⟩, Frm.new σ _ _, fun B hB => ?_⟩
        simp only [refId, Option.some.injEq] at hB; subst hB
        exact ⟨Nat.le_refl _, by simp [St.new]⟩
  obtain ⟨σ1, a1, hlen, hel, ha, R1, f1, la1⟩ := copy
  have key : ∀ (ρ : Env) r, run (tab hsS) (.loop l52_15) ρ σ1 = r → ρ 0 = a1 → ρ 1 = .int .i64 bud → ρ 6 = .nilsl → ∃ ρ' σ' o l g rows', r = some (.exit 0, ρ', σ') ∧ GoesL bud rows g rows' ∧ RowL σ' l rows' ∧ LstC σ' 2 o g.length (gcR g) ∧ Frm σ σ' (fun _ => False) ∧
      (∀ G, refId l = some G → σ.next ≤ G.o ∧ G.o < σ'.next) ∧ (∀ G, refId o = some G → σ.next ≤ G.o ∧ G.o < σ'.next) ∧ ρ' 0 = l ∧ ρ' 6 = o := by
    intro ρ r hr r0 r1 r6
    subst hr
    have hn1 := f1.next
    obtain ⟨ρ', σ', a', o', g', rows', e, G, R', O', n', v', hh, la', lo', q0, q6⟩ := evict_all (n0 := σ.next) h0 rows.length (o := .nilsl) (g := []) (Nat.le_refl _) R1 (.inl ⟨rfl, rfl, rfl⟩) hl (by simp; omega) hb hn1 (fun G hG => ⟨(la1 G hG).1, (la1 G hG).2, by simp [refId]⟩) (fun G hG => by simp [refId] at hG) r0 r1 r6
    exact ⟨ρ', σ', o', a', g', rows', e, G, R', by simpa using O', ⟨by omega, v'.trans f1.ver, fun q hq _ => (hh q hq).trans (f1.heap q hq (fun h => h))⟩, la', lo', q0, q6⟩
  rw [ev_raw (tab52 hsS)]
  simp (disch := first | omega | (simp only [rkl]; omega)) only [rk1, rk2, rk3, rk4, rk5, Arg.get, ret1, AV.cells, AV.isCell, addOff, minmaxL, Cap.room, Cap.cut, cutI, isSt, resultOf, Function.comp_apply, Function.comp_def, beq_self_eq_true, if_true, if_false, ite_true, ite_false, reduceCtorEq, bne_self_eq_false, Option.some.injEq, Prod.mk.injEq, ↓reduceIte, Nat.reduceEqDiff, Nat.reduceAdd, Nat.reduceMul, Nat.reduceSub, Nat.reduceLeDiff, Nat.reduceLT, Int.reduceLT, Int.reduceLE, Int.reduceEq, Int.reduceAdd, Int.reduceSub, Int.reduceNeg, Int.reduceToNat, List.mapM_cons, List.mapM_nil, Option.pure_def, Option.bind_eq_bind, eq_self, decide_true, decide_false, code52, p52_1, p52_2, p52_3, hlen, hel, ha]
  generalize hr : run (tab hsS) (.loop l52_15) _ _ = r
  obtain ⟨ρ', σ', o, l, g, rows', rfl, G, R', O', fr, ll, lo, q0, q6⟩ := key _ _ hr (by simp (disch := first | omega | (simp only [rkl]; omega)) only [rk1, rk2, rk3, rk4, rk5, Arg.get, ret1, AV.cells, AV.isCell, addOff, minmaxL, Cap.room, Cap.cut, cutI, isSt, resultOf, Function.comp_apply, Function.comp_def, beq_self_eq_true, if_true, if_false, ite_true, ite_false, reduceCtorEq, bne_self_eq_false, Option.some.injEq, Prod.mk.injEq, ↓reduceIte, Nat.reduceEqDiff, Nat.reduceAdd, Nat.reduceMul, Nat.reduceSub, Nat.reduceLeDiff, Nat.reduceLT, Int.reduceLT, Int.reduceLE, Int.reduceEq, Int.reduceAdd, Int.reduceSub, Int.reduceNeg, Int.reduceToNat, List.mapM_cons, List.mapM_nil, Option.pure_def, Option.bind_eq_bind, eq_self, decide_true, decide_false]) (by simp (disch := first | omega | (simp only [rkl]; omega)) only [rk1, rk2, rk3, rk4, rk5, Arg.get, ret1, AV.cells, AV.isCell, addOff, minmaxL, Cap.room, Cap.cut, cutI, isSt, resultOf, Function.comp_apply, Function.comp_def, beq_self_eq_true, if_true, if_false, ite_true, ite_false, reduceCtorEq, bne_self_eq_false, Option.some.injEq, Prod.mk.injEq, ↓reduceIte, Nat.reduceEqDiff, Nat.reduceAdd, Nat.reduceMul, Nat.reduceSub, Nat.reduceLeDiff, Nat.reduceLT, Int.reduceLT, Int.reduceLE, Int.reduceEq, Int.reduceAdd, Int.reduceSub, Int.reduceNeg, Int.reduceToNat, List.mapM_cons, List.mapM_nil, Option.pure_def, Option.bind_eq_bind, eq_self, decide_true, decide_false]) (by simp (disch := first | omega | (simp only [rkl]; omega)) only [rk1, rk2, rk3, rk4, rk5, Arg.get, ret1, AV.cells, AV.isCell, addOff, minmaxL, Cap.room, Cap.cut, cutI, isSt, resultOf, Function.comp_apply, Function.comp_def, beq_self_eq_true, if_true, if_false, ite_true, ite_false, reduceCtorEq, bne_self_eq_false, Option.some.injEq, Prod.mk.injEq, ↓reduceIte, Nat.reduceEqDiff, Nat.reduceAdd, Nat.reduceMul, Nat.reduceSub, Nat.reduceLeDiff, Nat.reduceLT, Int.reduceLT, Int.reduceLE, Int.reduceEq, Int.reduceAdd, Int.reduceSub, Int.reduceNeg, Int.reduceToNat, List.mapM_cons, List.mapM_nil, Option.pure_def, Option.bind_eq_bind, eq_self, decide_true, decide_false])
  simp (disch := first | omega | (simp only [rkl]; omega)) only [rk1, rk2, rk3, rk4, rk5, Arg.get, ret1, AV.cells, AV.isCell, addOff, minmaxL, Cap.room, Cap.cut, cutI, isSt, resultOf, Function.comp_apply, Function.comp_def, beq_self_eq_true, if_true, if_false, ite_true, ite_false, reduceCtorEq, bne_self_eq_false, Option.some.injEq, Prod.mk.injEq, ↓reduceIte, Nat.reduceEqDiff, Nat.reduceAdd, Nat.reduceMul, Nat.reduceSub, Nat.reduceLeDiff, Nat.reduceLT, Int.reduceLT, Int.reduceLE, Int.reduceEq, Int.reduceAdd, Int.reduceSub, Int.reduceNeg, Int.reduceToNat, List.mapM_cons, List.mapM_nil, Option.pure_def, Option.bind_eq_bind, eq_self, decide_true, decide_false, p52_16, q0, q6]
  exact ⟨_, _, _, g, rows', ⟨rfl, rfl⟩, G, R', O', fr, ll, lo⟩
/-
  ShelfPlays: what each call makes of the list of what is there.
-/

theorem map_erase {α β : Type} (g : α → β) : ∀ (l : List α) (i : Nat), (l.map g).eraseIdx i = (l.eraseIdx i).map g
  | [], i => rfl
  | a :: l, 0 => rfl
  | a :: l, i + 1 => by simp [map_erase g l i]

theorem rows_set {f f' : Vm.Id → Ky} {cl cl' : Vm.Id → Bool} {L : List Vm.Id} (nd : L.Nodup) {j : Nat} (hj : j < L.length) (h : ∀ y ∈ L, y ≠ at_ L j → f' y = f y ∧ cl' y = cl y) : rowsOf f' cl' L = (rowsOf f cl L).set j ⟨f' (at_ L j), cl' (at_ L j)⟩ := by
  apply List.ext_getElem?
  intro i
  rw [List.getElem?_set]
  by_cases hi : i < L.length
  · have e1 : (rowsOf f' cl' L)[i]? = some ⟨f' L[i], cl' L[i]⟩ := by simp [rowsOf, hi]
    have e2 : (rowsOf f cl L)[i]? = some ⟨f L[i], cl L[i]⟩ := by simp [rowsOf, hi]
    rw [e1, e2]
    by_cases e : j = i
    · subst e; rw [if_pos rfl, if_pos (by rw [rowsOf_len]; exact hi), at_get hi]
    · rw [if_neg e]
      have hne : L[i] ≠ at_ L j := fun h => e (at_inj nd hj hi (by rw [at_get hi]; exact h.symm))
      obtain ⟨a, b⟩ := h _ (List.getElem_mem hi) hne
      rw [a, b]
  · have e1 : (rowsOf f' cl' L)[i]? = none := by simp [rowsOf]; omega
    have e2 : (rowsOf f cl L)[i]? = none := by simp [rowsOf]; omega
    rw [e1, e2]
    split
    · rename_i h; subst h; omega
    · rfl

section
variable {σ : St} {S M : Vm.Id} {bud : Int} {L H : List Vm.Id} {f : Vm.Id → Ky} {cl : Vm.Id → Bool} {cc : AV} (A : Shf σ S M bud L H f cl cc)
include A

theorem Shf.touch {v u us : Int} {j : Nat} (hp : posOf (kf f) L v u = some j) {r : Rw} (hr : (rowsOf f cl L)[j]? = some r) : ∃ σ' H' f', ev (tab hsS) 49 [.ptr S 0, .agg [.int .u32 v, .int .u32 u], .int .i64 us] σ = some (.bool true, σ') ∧
    Shf σ' S M bud L H' f' cl cc ∧ rowsOf f' cl L = (rowsOf f cl L).set j ⟨⟨r.k.v, r.k.u, r.k.sz, us⟩, r.c⟩ ∧ Frm σ σ' (Fp S M L cc) := by
  obtain ⟨σ', e, R', fr⟩ := touch_ok A.R (us := us) hp
  have hj := pos_lt hp
  have hx : at_ L j ∈ L := at_mem hj
  have hrr : r = ⟨f (at_ L j), cl (at_ L j)⟩ := by
    have : (rowsOf f cl L)[j]? = some ⟨f L[j], cl L[j]⟩ := by simp [rowsOf, hj]
    rw [this] at hr; rw [at_get hj]; exact (Option.some.inj hr).symm
  have hrows : rowsOf (upd f (at_ L j) ⟨(f (at_ L j)).v, (f (at_ L j)).u, (f (at_ L j)).sz, us⟩) cl L = (rowsOf f cl L).set j ⟨⟨r.k.v, r.k.u, r.k.sz, us⟩, r.c⟩ := by
    rw [rows_set A.R.nd hj (f := f) (cl := cl) (fun y _ hy => ⟨upd_other hy, rfl⟩), upd_same, hrr]
  generalize at_ L j = x at *
  refine ⟨σ', _, _, e, ⟨R', ?_, fun y hy => ?_⟩, hrows, fr⟩
  · unfold touchH
    cases hs : slotOf H x with
    | none =>
      have hH := slot_none hs
      exact ok_cong A.ok fun y hy => (upd_other (fun e : y = x => hH (e ▸ hy))).symm
    | some k =>
      obtain ⟨hk, hkx⟩ := slot_some hs
      have hlen : (fixL ltK (upd f x ⟨(f x).v, (f x).u, (f x).sz, us⟩) H k H.length).length = H.length := (fixL_perm (Nat.le_refl _) hk).length_eq
      have same : ∀ i, i < H.length → i ≠ k → upd f x ⟨(f x).v, (f x).u, (f x).sz, us⟩ (at_ H i) = f (at_ H i) := fun i hi hik => upd_other (fun e => hik (at_inj A.R.hc.nd hi hk (e.trans hkx.symm)))
      show Ok ltK _ (fixL ltK (upd f x ⟨(f x).v, (f x).u, (f x).sz, us⟩) H k H.length).length _
      rw [hlen]
      refine fix_ok ordK (Nat.le_refl _) hk (fun i i0 hi hik hpk => ?_) (fun i i0 hi hpk k0 => ?_)
      · rw [same i hi hik, same _ (by omega) hpk]
        exact A.ok i i0 hi
      · rw [same i hi (by omega), same _ (by omega) (by omega)]
        have a1 := A.ok i i0 hi
        rw [hpk] at a1
        exact ordK.trans _ _ _ (A.ok k k0 hk) a1
  · unfold touchH
    cases hs : slotOf H x with
    | none => exact A.hcl y hy
    | some k =>
      obtain ⟨hk, _⟩ := slot_some hs
      show y ∈ fixL ltK _ H k H.length ↔ _
      rw [(fixL_perm (Nat.le_refl _) hk).mem_iff]
      exact A.hcl y hy

theorem Shf.clean {v u : Int} {j : Nat} (hp : posOf (kf f) L v u = some j) {r : Rw} (hr : (rowsOf f cl L)[j]? = some r) : ∃ σ' H' cl' cc', ev (tab hsS) 50 [.ptr S 0, .agg [.int .u32 v, .int .u32 u]] σ = some (.bool true, σ') ∧
    Shf σ' S M bud L H' f cl' cc' ∧ rowsOf f cl' L = (rowsOf f cl L).set j ⟨r.k, true⟩ ∧ Frm σ σ' (Fp S M L cc) ∧ (∀ q, Fp S M L cc' q → Fp S M L cc q ∨ σ.next ≤ q.o) := by
  obtain ⟨σ', cc', e, R', fr, hw⟩ := clean_ok A.R hp
  have hj := pos_lt hp
  have hx : at_ L j ∈ L := at_mem hj
  have hrr : r = ⟨f (at_ L j), cl (at_ L j)⟩ := by
    have : (rowsOf f cl L)[j]? = some ⟨f L[j], cl L[j]⟩ := by simp [rowsOf, hj]
    rw [this] at hr; rw [at_get hj]; exact (Option.some.inj hr).symm
  have hrows : rowsOf f (fun z => if z = at_ L j then true else cl z) L = (rowsOf f cl L).set j ⟨r.k, true⟩ := by
    rw [rows_set A.R.nd hj (f := f) (cl := cl) (fun y _ hy => ⟨rfl, by simp [hy]⟩), hrr]; simp
  generalize at_ L j = x at *
  refine ⟨σ', _, fun z => if z = x then true else cl z, cc', e, ⟨R', ?_, fun y hy => ?_⟩, hrows, fr, hw⟩
  · by_cases hH : x ∈ H
    · rw [if_pos hH]; exact A.ok
    · rw [if_neg hH]
      have := push_ok ordK (x := x) A.ok
      have hl : (upL ltK f (H ++ [x]) H.length).length = H.length + 1 := by rw [(upL_perm H.length (by simp)).length_eq]; simp
      rw [hl]; exact this
  · by_cases hH : x ∈ H
    · rw [if_pos hH]
      by_cases e : y = x
      · subst e; simp [hH]
      · simp only [e, if_false]; exact A.hcl y hy
    · rw [if_neg hH, (upL_perm H.length (by simp)).mem_iff]
      by_cases e : y = x
      · subst e; simp
      · simp only [e, if_false, List.mem_append, List.mem_singleton, or_false]; exact A.hcl y hy

theorem Shf.drop {v u : Int} {j : Nat} (hp : posOf (kf f) L v u = some j) : ∃ σ' H' cc', ev (tab hsS) 51 [.ptr S 0, .agg [.int .u32 v, .int .u32 u]] σ = some (.bool true, σ') ∧
    Shf σ' S M bud (L.eraseIdx j) H' f cl cc' ∧ rowsOf f cl (L.eraseIdx j) = (rowsOf f cl L).eraseIdx j ∧ Frm σ σ' (Fp S M L cc) ∧ (∀ q, Fp S M (L.eraseIdx j) cc' q → Fp S M L cc q) := by
  obtain ⟨σ', cc', e, R', fr, hcc⟩ := drop_ok A.R hp
  have hj := pos_lt hp
  have hm := fun y => mem_erase A.R.nd hj y
  obtain ⟨dm, _⟩ := drop_mem A.R.hc.nd f (at_ L j)
  refine ⟨σ', _, cc', e, ⟨R', ok_drop A.ok _, fun y hy => ?_⟩, (map_erase _ _ _).symm, fr, fun q hq => ?_⟩
  · rw [dm, A.hcl y ((hm y).1 hy).1]
    exact ⟨fun h => h.1, fun h => ⟨h, ((hm y).1 hy).2⟩⟩
  · rcases hq with hq | hq | hq | hq
    · exact .inl hq
    · exact .inr (.inl hq)
    · exact .inr (.inr (.inl (List.mem_of_mem_eraseIdx hq)))
    · exact .inr (.inr (.inr (by rw [← hcc]; exact hq)))
end

theorem evS_goesL (bud : Int) (f : Vm.Id → Ky) (cl : Vm.Id → Bool) : ∀ (n : Nat) (L H : List Vm.Id), L.length ≤ n → L.Nodup → H.Nodup → (∀ x ∈ H, x ∈ L) → (∀ x ∈ L, ∀ y ∈ L, (f x).v = (f y).v → (f x).u = (f y).u → x = y) →
    (∀ x ∈ L, x ∈ H ↔ cl x = true) → Ok ltK f H.length H → GoesL bud (rowsOf f cl L) (rowsOf f cl (evS bud f n L H).1) (rowsOf f cl (evS bud f n L H).2.1) := by
  intro n
  have stop : ∀ (L H : List Vm.Id), (∀ x ∈ H, x ∈ L) → (∀ x ∈ L, x ∈ H ↔ cl x = true) → ¬ (bud < sumL f L ∧ H ≠ []) → GoesL bud (rowsOf f cl L) [] (rowsOf f cl L) := fun L H sub hcl h => by
    refine .stop fun ⟨h1, r, hr, hc⟩ => h ⟨by rw [sumR_rows] at h1; exact h1, fun e => ?_⟩
    simp only [rowsOf, List.mem_map] at hr
    obtain ⟨x, hx, rfl⟩ := hr
    have := (hcl x hx).2 hc
    rw [e] at this; simp at this
  induction n with
  | zero =>
    intro L H hL ndL ndH sub key hcl ok
    have h0 : L = [] := List.length_eq_zero_iff.1 (by omega)
    have hH : H = [] := by
      cases H with
      | nil => rfl
      | cons y H => have := sub y (by simp); rw [h0] at this; simp at this
    exact stop L H sub hcl (fun h => h.2 hH)
  | succ n ih =>
    intro L H hL ndL ndH sub key hcl ok
    unfold evS
    by_cases hb : bud < sumL f L ∧ H ≠ []
    · rw [if_pos hb]
      have h0 : 0 < H.length := List.length_pos_iff.2 hb.2
      have hx := at_mem h0
      have hleast := top_least ordK ok
      generalize at_ H 0 = x at *
      cases hp : posOf (kf f) L (f x).v (f x).u with
      | none => exact absurd ⟨rfl, rfl⟩ (posOf_none (kf f) hp x (sub x hx))
      | some j =>
        obtain ⟨hj, h1, h2⟩ := posOf_some (kf f) hp
        have hjx0 : L[j] = x := key _ (List.getElem_mem hj) x (sub x hx) h1 h2
        have hjx : at_ L j = x := by rw [at_get hj]; exact hjx0
        have hm := fun y => mem_erase ndL hj y
        rw [hjx] at hm
        obtain ⟨dm, dn⟩ := drop_mem ndH f x
        have hll : (L.eraseIdx j).length ≤ n := by rw [List.length_eraseIdx_of_lt hj]; omega
        have G := ih (L.eraseIdx j) (dropH f H x) hll (ndL.sublist (List.eraseIdx_sublist _ _)) dn (fun y hy => (hm y).2 ⟨sub y ((dm y).1 hy).1, ((dm y).1 hy).2⟩) (fun a ha b hb => key a ((hm a).1 ha).1 b ((hm b).1 hb).1)
          (fun y hy => by rw [dm, hcl y ((hm y).1 hy).1]; exact ⟨fun h => h.1, fun h => ⟨h, ((hm y).1 hy).2⟩⟩) (ok_drop ok x)
        refine .step (k := j) (m := ⟨f x, cl x⟩) (by rw [sumR_rows]; exact hb.1) (by simp [rowsOf, hj, hjx0]) ((hcl x (sub x hx)).1 hx) (fun y hy hc => ?_) (by rw [show (rowsOf f cl L).eraseIdx j = rowsOf f cl (L.eraseIdx j) from map_erase _ _ _]; exact G)
        simp only [rowsOf, List.mem_map] at hy
        obtain ⟨z, hz, rfl⟩ := hy
        have hzH := (hcl z hz).2 hc
        obtain ⟨k, hk, e⟩ := List.getElem_of_mem hzH
        have := hleast k hk
        rw [at_get hk, e] at this
        exact this
    · rw [if_neg hb]
      exact stop L H sub hcl hb

theorem evS_ok' (bud : Int) (f : Vm.Id → Ky) : ∀ (n : Nat) (L H : List Vm.Id), Ok ltK f H.length H → Ok ltK f (evS bud f n L H).2.2.length (evS bud f n L H).2.2 := by
  intro n
  induction n with
  | zero => intro L H h; exact h
  | succ n ih =>
    intro L H h
    unfold evS
    split
    · split
      · exact ih _ _ (ok_drop h _)
      · exact h
    · exact h

theorem Shf.evictL {σ : St} {S M : Vm.Id} {bud : Int} {L H : List Vm.Id} {f : Vm.Id → Ky} {cl : Vm.Id → Bool} {cc : AV} (A : Shf σ S M bud L H f cl cc) (hbud : -9223372036854775808 ≤ bud) :
    ∃ σ' a g G L' H' cc', ev (tab hsS) 43 [.ptr S 0] σ = some (a, σ') ∧ Shf σ' S M bud L' H' f cl cc' ∧ OutL σ' f a G ∧ rowsOf f cl G = g ∧ GoesL bud (rowsOf f cl L) g (rowsOf f cl L') ∧ L'.length ≤ L.length ∧ Frm σ σ' (Fp S M L cc) ∧
      (∀ q, Fp S M L' cc' q → Fp S M L cc q) ∧ g.length ≤ L.length := by
  obtain ⟨σ', cc', a, e, R', O', hcc, fr, la⟩ := evict_ev A.R hbud
  have W := went bud f L.length L H (Nat.le_refl _) A.R.nd A.R.hc.nd A.R.sub A.R.key
  have ok := evS_ok' bud f L.length L H A.ok
  have gs := evS_goesL bud f cl L.length L H (Nat.le_refl _) A.R.nd A.R.hc.nd A.R.sub A.R.key A.hcl A.ok
  generalize (evS bud f L.length L H).1 = G at *
  generalize (evS bud f L.length L H).2.1 = L' at *
  generalize (evS bud f L.length L H).2.2 = H' at *
  refine ⟨σ', a, rowsOf f cl G, G, L', H', cc', e, ⟨R', ok, fun x hx => ?_⟩, O', rfl, gs, by have := W.len; omega, fr, fun q hq => ?_, by rw [rowsOf_len]; have := W.len; omega⟩
  · obtain ⟨hxL, hxG⟩ := (W.left x).1 hx
    rw [W.heap, ← A.hcl x hxL]
    exact ⟨fun h => h.1, fun h => ⟨h, hxG⟩⟩
  · rcases hq with hq | hq | hq | hq
    · exact .inl hq
    · exact .inr (.inl hq)
    · exact .inr (.inr (.inl ((W.left q).1 hq).1))
    · exact .inr (.inr (.inr (by rw [← hcc]; exact hq)))
end Go.Proofs.Ytkhalpmmdlppkaa
