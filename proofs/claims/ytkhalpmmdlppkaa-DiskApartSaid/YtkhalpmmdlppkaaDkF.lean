/-
  THE DISK: Flush.
-/
import Derived.Test.YtkhalpmmdlppkaaDkE
namespace Go.Proofs.Ytkhalpmmdlppkaa
set_option linter.unusedSimpArgs false
set_option linter.unusedVariables false
open Go.Vm

/-- A sector, written. -/
def putK (K : List UInt8) (a : Nat) (b : List UInt8) : List UInt8 := K.take (a * 64) ++ (b ++ K.drop (a * 64 + b.length))
theorem putK_len {K : List UInt8} {n a : Nat} {b : List UInt8} (hK : K.length = n * 64) (ha : a < n) (hb : b.length ≤ 64) : (putK K a b).length = n * 64 := by
  have : (a + 1) * 64 ≤ n * 64 := Nat.mul_le_mul_right _ ha
  simp only [putK, List.length_append, List.length_take, List.length_drop, hK]
  omega
theorem store_bs {σ : St} {i : Vm.Id} {K b : List UInt8} {a m : Nat} (hg : σ.get i = some (bs K)) (hm : b.length = m) (h : a * 64 + m ≤ K.length) : storeAt σ m (.ptr i (a * 64)) (.agg (bs b)) = some (σ.set i (some (.cells (bs (putK K a b))))) := by
  have hsp : splice (bs K) (a * 64) (bs b) = bs (putK K a b) := by
    simp only [splice, putK, bs_app, bs_take, bs_drop, bs_len]
  simp only [storeAt, AV.cells, bs_len, hm, if_true, Vm.storeCells, hg, bs_cell, and_true]
  rw [if_pos h, hsp]

/-- What is behind the writes' keeping. -/
def keepAll (K : List UInt8) (w : W) : List UInt8 := w.foldl (fun K x => putK K x.1 x.2) K
theorem keepAll_len {n : Nat} : ∀ {w : W} {K : List UInt8}, Full n w → K.length = n * 64 → (keepAll K w).length = n * 64
  | [], K, _, h => h
  | x :: w, K, hf, h => keepAll_len (w := w) (fun y hy => hf y (by simp [hy])) (putK_len h (hf x (by simp)).1 (by rw [(hf x (by simp)).2]; exact Nat.le_refl _))

section
variable {T : Table} {n : Nat} {w : W} {o v : Nat} {kcap : Cap} {wcell : AV} {down : Bool} {armed : Int}

theorem flush_round (hf : Full n w) (hwl : w.length < 2 ^ 36) {i : Nat} {x : Nat × List UInt8} (hx : w[i]? = some x) {ρ : Env} {s : St} {K : List UInt8} (hK : K.length = n * 64) (ho : o < s.next)
    (hg : s.get ⟨o, 0, 0⟩ = some [.sl ⟨o, 1, v⟩ 0 n kcap 64, wcell, .bool down, .int .i64 armed]) (hk : s.get ⟨o, 1, v⟩ = some (bs K)) (hw : s.get ⟨o, 2, v⟩ = some (wc w))
    (r0 : ρ 0 = .ptr ⟨o, 0, 0⟩ 0) (r16 : ρ 16 = .sl ⟨o, 2, v⟩ 0 w.length (.ge w.length) 65) (r17 : ρ 17 = .int .i64 w.length) (r18 : ρ 18 = .int .i64 i) :
    ∃ ρ' s', run T l19_12 ρ s = some (.normal, ρ', s') ∧ ρ' 0 = ρ 0 ∧ ρ' 16 = ρ 16 ∧ ρ' 17 = ρ 17 ∧ ρ' 18 = .int .i64 (i + 1 : Nat) ∧ o < s'.next ∧ s'.get ⟨o, 0, 0⟩ = s.get ⟨o, 0, 0⟩ ∧ s'.get ⟨o, 1, v⟩ = some (bs (putK K x.1 x.2)) ∧ s'.get ⟨o, 2, v⟩ = some (wc w) := by
  have hi : i < w.length := (List.getElem?_eq_some_iff.1 hx).1
  have hx1 := (hf x (List.mem_of_getElem? hx)).1
  have hx2 : x.2.length = 64 := (hf x (List.mem_of_getElem? hx)).2
  have hat := wc_at hf hx
  have hwlen := wc_len hf
  have hm : (i + 1) * 65 ≤ w.length * 65 := Nat.mul_le_mul_right _ hi
  have hpt : Vm.part true 65 (i * 65) (wc w) = some (.agg (.int .i64 x.1 :: bs x.2)) := by rw [part_t (by omega), hat]
  have ht : List.take 64 (bs x.2) = bs x.2 := List.take_of_length_le (by simp [hx2])
  have hkm : (x.1 + 1) * 64 ≤ n * 64 := Nat.mul_le_mul_right _ hx1
  have hst := store_bs (σ := s.new (.int .i64 x.1 :: bs x.2)) (i := ⟨o, 1, v⟩) (K := K) (b := x.2) (a := x.1) (m := 64) (by simp (disch := first | omega | (simp only [rkl]; omega)) only [rk1, rk2, rk3, rk4, rk5, Arg.get, ret1, AV.cells, AV.isCell, addOff, minmaxL, Cap.room, Cap.cut, cutI, isSt, resultOf, Function.comp_apply, Function.comp_def, beq_self_eq_true, if_true, if_false, ite_true, ite_false, reduceCtorEq, bne_self_eq_false, Option.some.injEq, Prod.mk.injEq, ↓reduceIte, Nat.reduceEqDiff, Nat.reduceAdd, Nat.reduceMul, Nat.reduceSub, Nat.reduceLeDiff, Nat.reduceLT, Int.reduceLT, Int.reduceLE, Int.reduceEq, Int.reduceAdd, Int.reduceSub, Int.reduceNeg, Int.reduceToNat, List.mapM_cons, List.mapM_nil, Option.pure_def, Option.bind_eq_bind, eq_self, decide_true, decide_false, hk]) hx2 (by omega)
  have hel : elemPtr 64 x.1 (.sl ⟨o, 1, v⟩ 0 n kcap 64) = some (.ptr ⟨o, 1, v⟩ (x.1 * 64)) := by rw [elemPtr_sl hx1, Nat.zero_add]
  simp (disch := first | omega | (simp only [rkl]; omega)) only [rk1, rk2, rk3, rk4, rk5, Arg.get, ret1, AV.cells, AV.isCell, addOff, minmaxL, Cap.room, Cap.cut, cutI, isSt, resultOf, Function.comp_apply, Function.comp_def, beq_self_eq_true, if_true, if_false, ite_true, ite_false, reduceCtorEq, bne_self_eq_false, Option.some.injEq, Prod.mk.injEq, ↓reduceIte, Nat.reduceEqDiff, Nat.reduceAdd, Nat.reduceMul, Nat.reduceSub, Nat.reduceLeDiff, Nat.reduceLT, Int.reduceLT, Int.reduceLE, Int.reduceEq, Int.reduceAdd, Int.reduceSub, Int.reduceNeg, Int.reduceToNat, List.mapM_cons, List.mapM_nil, Option.pure_def, Option.bind_eq_bind, eq_self, decide_true, decide_false, l19_12, p19_8, p19_9, p19_11, go_d19_10, e19_10, r0, r16, r17, r18, hg, hw, z65_ok, z65_store hx2, hpt, ht, hel, hst]
  exact ⟨_, _, ⟨rfl, rfl⟩, by simp (disch := first | omega | (simp only [rkl]; omega)) only [rk1, rk2, rk3, rk4, rk5, Arg.get, ret1, AV.cells, AV.isCell, addOff, minmaxL, Cap.room, Cap.cut, cutI, isSt, resultOf, Function.comp_apply, Function.comp_def, beq_self_eq_true, if_true, if_false, ite_true, ite_false, reduceCtorEq, bne_self_eq_false, Option.some.injEq, Prod.mk.injEq, ↓reduceIte, Nat.reduceEqDiff, Nat.reduceAdd, Nat.reduceMul, Nat.reduceSub, Nat.reduceLeDiff, Nat.reduceLT, Int.reduceLT, Int.reduceLE, Int.reduceEq, Int.reduceAdd, Int.reduceSub, Int.reduceNeg, Int.reduceToNat, List.mapM_cons, List.mapM_nil, Option.pure_def, Option.bind_eq_bind, eq_self, decide_true, decide_false, r0], by simp (disch := first | omega | (simp only [rkl]; omega)) only [rk1, rk2, rk3, rk4, rk5, Arg.get, ret1, AV.cells, AV.isCell, addOff, minmaxL, Cap.room, Cap.cut, cutI, isSt, resultOf, Function.comp_apply, Function.comp_def, beq_self_eq_true, if_true, if_false, ite_true, ite_false, reduceCtorEq, bne_self_eq_false, Option.some.injEq, Prod.mk.injEq, ↓reduceIte, Nat.reduceEqDiff, Nat.reduceAdd, Nat.reduceMul, Nat.reduceSub, Nat.reduceLeDiff, Nat.reduceLT, Int.reduceLT, Int.reduceLE, Int.reduceEq, Int.reduceAdd, Int.reduceSub, Int.reduceNeg, Int.reduceToNat, List.mapM_cons, List.mapM_nil, Option.pure_def, Option.bind_eq_bind, eq_self, decide_true, decide_false, r16], by simp (disch := first | omega | (simp only [rkl]; omega)) only [rk1, rk2, rk3, rk4, rk5, Arg.get, ret1, AV.cells, AV.isCell, addOff, minmaxL, Cap.room, Cap.cut, cutI, isSt, resultOf, Function.comp_apply, Function.comp_def, beq_self_eq_true, if_true, if_false, ite_true, ite_false, reduceCtorEq, bne_self_eq_false, Option.some.injEq, Prod.mk.injEq, ↓reduceIte, Nat.reduceEqDiff, Nat.reduceAdd, Nat.reduceMul, Nat.reduceSub, Nat.reduceLeDiff, Nat.reduceLT, Int.reduceLT, Int.reduceLE, Int.reduceEq, Int.reduceAdd, Int.reduceSub, Int.reduceNeg, Int.reduceToNat, List.mapM_cons, List.mapM_nil, Option.pure_def, Option.bind_eq_bind, eq_self, decide_true, decide_false, r17], by simp (disch := first | omega | (simp only [rkl]; omega)) only [rk1, rk2, rk3, rk4, rk5, Arg.get, ret1, AV.cells, AV.isCell, addOff, minmaxL, Cap.room, Cap.cut, cutI, isSt, resultOf, Function.comp_apply, Function.comp_def, beq_self_eq_true, if_true, if_false, ite_true, ite_false, reduceCtorEq, bne_self_eq_false, Option.some.injEq, Prod.mk.injEq, ↓reduceIte, Nat.reduceEqDiff, Nat.reduceAdd, Nat.reduceMul, Nat.reduceSub, Nat.reduceLeDiff, Nat.reduceLT, Int.reduceLT, Int.reduceLE, Int.reduceEq, Int.reduceAdd, Int.reduceSub, Int.reduceNeg, Int.reduceToNat, List.mapM_cons, List.mapM_nil, Option.pure_def, Option.bind_eq_bind, eq_self, decide_true, decide_false, Int.natCast_add, Int.cast_ofNat_Int], by simp (disch := first | omega | (simp only [rkl]; omega)) only [rk1, rk2, rk3, rk4, rk5, Arg.get, ret1, AV.cells, AV.isCell, addOff, minmaxL, Cap.room, Cap.cut, cutI, isSt, resultOf, Function.comp_apply, Function.comp_def, beq_self_eq_true, if_true, if_false, ite_true, ite_false, reduceCtorEq, bne_self_eq_false, Option.some.injEq, Prod.mk.injEq, ↓reduceIte, Nat.reduceEqDiff, Nat.reduceAdd, Nat.reduceMul, Nat.reduceSub, Nat.reduceLeDiff, Nat.reduceLT, Int.reduceLT, Int.reduceLE, Int.reduceEq, Int.reduceAdd, Int.reduceSub, Int.reduceNeg, Int.reduceToNat, List.mapM_cons, List.mapM_nil, Option.pure_def, Option.bind_eq_bind, eq_self, decide_true, decide_false]; omega, by simp (disch := first | omega | (simp only [rkl]; omega)) only [rk1, rk2, rk3, rk4, rk5, Arg.get, ret1, AV.cells, AV.isCell, addOff, minmaxL, Cap.room, Cap.cut, cutI, isSt, resultOf, Function.comp_apply, Function.comp_def, beq_self_eq_true, if_true, if_false, ite_true, ite_false, reduceCtorEq, bne_self_eq_false, Option.some.injEq, Prod.mk.injEq, ↓reduceIte, Nat.reduceEqDiff, Nat.reduceAdd, Nat.reduceMul, Nat.reduceSub, Nat.reduceLeDiff, Nat.reduceLT, Int.reduceLT, Int.reduceLE, Int.reduceEq, Int.reduceAdd, Int.reduceSub, Int.reduceNeg, Int.reduceToNat, List.mapM_cons, List.mapM_nil, Option.pure_def, Option.bind_eq_bind, eq_self, decide_true, decide_false, hg], by simp (disch := first | omega | (simp only [rkl]; omega)) only [rk1, rk2, rk3, rk4, rk5, Arg.get, ret1, AV.cells, AV.isCell, addOff, minmaxL, Cap.room, Cap.cut, cutI, isSt, resultOf, Function.comp_apply, Function.comp_def, beq_self_eq_true, if_true, if_false, ite_true, ite_false, reduceCtorEq, bne_self_eq_false, Option.some.injEq, Prod.mk.injEq, ↓reduceIte, Nat.reduceEqDiff, Nat.reduceAdd, Nat.reduceMul, Nat.reduceSub, Nat.reduceLeDiff, Nat.reduceLT, Int.reduceLT, Int.reduceLE, Int.reduceEq, Int.reduceAdd, Int.reduceSub, Int.reduceNeg, Int.reduceToNat, List.mapM_cons, List.mapM_nil, Option.pure_def, Option.bind_eq_bind, eq_self, decide_true, decide_false], by simp (disch := first | omega | (simp only [rkl]; omega)) only [rk1, rk2, rk3, rk4, rk5, Arg.get, ret1, AV.cells, AV.isCell, addOff, minmaxL, Cap.room, Cap.cut, cutI, isSt, resultOf, Function.comp_apply, Function.comp_def, beq_self_eq_true, if_true, if_false, ite_true, ite_false, reduceCtorEq, bne_self_eq_false, Option.some.injEq, Prod.mk.injEq, ↓reduceIte, Nat.reduceEqDiff, Nat.reduceAdd, Nat.reduceMul, Nat.reduceSub, Nat.reduceLeDiff, Nat.reduceLT, Int.reduceLT, Int.reduceLE, Int.reduceEq, Int.reduceAdd, Int.reduceSub, Int.reduceNeg, Int.reduceToNat, List.mapM_cons, List.mapM_nil, Option.pure_def, Option.bind_eq_bind, eq_self, decide_true, decide_false, hw]⟩


theorem flush_loop (hf : Full n w) (hwl : w.length < 2 ^ 36) : ∀ (m i : Nat), i + m = w.length → ∀ {ρ : Env} {s : St} {K : List UInt8}, K.length = n * 64 → o < s.next →
    s.get ⟨o, 0, 0⟩ = some [.sl ⟨o, 1, v⟩ 0 n kcap 64, wcell, .bool down, .int .i64 armed] → s.get ⟨o, 1, v⟩ = some (bs K) → s.get ⟨o, 2, v⟩ = some (wc w) →
    ρ 0 = .ptr ⟨o, 0, 0⟩ 0 → ρ 16 = .sl ⟨o, 2, v⟩ 0 w.length (.ge w.length) 65 → ρ 17 = .int .i64 w.length → ρ 18 = .int .i64 i →
    ∃ ρ' s', run T (.loop l19_12) ρ s = some (.exit 0, ρ', s') ∧ ρ' 0 = ρ 0 ∧ o < s'.next ∧ s'.get ⟨o, 0, 0⟩ = s.get ⟨o, 0, 0⟩ ∧ s'.get ⟨o, 1, v⟩ = some (bs (keepAll K (w.drop i)))
  | 0, i, him, ρ, s, K, hK, ho, hg, hk, hw, r0, r16, r17, r18 => by
    have hi : i = w.length := by omega
    subst hi
    rw [run_loop]
    simp (disch := first | omega | (simp only [rkl]; omega)) only [rk1, rk2, rk3, rk4, rk5, Arg.get, ret1, AV.cells, AV.isCell, addOff, minmaxL, Cap.room, Cap.cut, cutI, isSt, resultOf, Function.comp_apply, Function.comp_def, beq_self_eq_true, if_true, if_false, ite_true, ite_false, reduceCtorEq, bne_self_eq_false, Option.some.injEq, Prod.mk.injEq, ↓reduceIte, Nat.reduceEqDiff, Nat.reduceAdd, Nat.reduceMul, Nat.reduceSub, Nat.reduceLeDiff, Nat.reduceLT, Int.reduceLT, Int.reduceLE, Int.reduceEq, Int.reduceAdd, Int.reduceSub, Int.reduceNeg, Int.reduceToNat, List.mapM_cons, List.mapM_nil, Option.pure_def, Option.bind_eq_bind, eq_self, decide_true, decide_false, l19_12, p19_8, r0, r16, r17, r18]
    exact ⟨_, _, ⟨rfl, rfl⟩, by simp (disch := first | omega | (simp only [rkl]; omega)) only [rk1, rk2, rk3, rk4, rk5, Arg.get, ret1, AV.cells, AV.isCell, addOff, minmaxL, Cap.room, Cap.cut, cutI, isSt, resultOf, Function.comp_apply, Function.comp_def, beq_self_eq_true, if_true, if_false, ite_true, ite_false, reduceCtorEq, bne_self_eq_false, Option.some.injEq, Prod.mk.injEq, ↓reduceIte, Nat.reduceEqDiff, Nat.reduceAdd, Nat.reduceMul, Nat.reduceSub, Nat.reduceLeDiff, Nat.reduceLT, Int.reduceLT, Int.reduceLE, Int.reduceEq, Int.reduceAdd, Int.reduceSub, Int.reduceNeg, Int.reduceToNat, List.mapM_cons, List.mapM_nil, Option.pure_def, Option.bind_eq_bind, eq_self, decide_true, decide_false, r0], ho, rfl, by rw [hk, List.drop_length]; rfl⟩
  | m + 1, i, him, ρ, s, K, hK, ho, hg, hk, hw, r0, r16, r17, r18 => by
    have hi : i < w.length := by omega
    have hx := hf w[i] (List.getElem_mem hi)
    obtain ⟨ρ1, s1, e1, q0, q16, q17, q18, qo, qg, qk, qw⟩ := flush_round (T := T) hf hwl (List.getElem?_eq_getElem hi) hK ho hg hk hw r0 r16 r17 r18
    obtain ⟨ρ2, s2, f1, f0, fo, fg, fk⟩ := flush_loop hf hwl m (i + 1) (by omega) (putK_len hK hx.1 (by omega)) qo (qg.trans hg) qk qw (q0.trans r0) (q16.trans r16) (q17.trans r17) q18
    rw [run_loop, e1]
    refine ⟨ρ2, s2, by simp (disch := first | omega | (simp only [rkl]; omega)) only [rk1, rk2, rk3, rk4, rk5, Arg.get, ret1, AV.cells, AV.isCell, addOff, minmaxL, Cap.room, Cap.cut, cutI, isSt, resultOf, Function.comp_apply, Function.comp_def, beq_self_eq_true, if_true, if_false, ite_true, ite_false, reduceCtorEq, bne_self_eq_false, Option.some.injEq, Prod.mk.injEq, ↓reduceIte, Nat.reduceEqDiff, Nat.reduceAdd, Nat.reduceMul, Nat.reduceSub, Nat.reduceLeDiff, Nat.reduceLT, Int.reduceLT, Int.reduceLE, Int.reduceEq, Int.reduceAdd, Int.reduceSub, Int.reduceNeg, Int.reduceToNat, List.mapM_cons, List.mapM_nil, Option.pure_def, Option.bind_eq_bind, eq_self, decide_true, decide_false]; exact f1, f0.trans q0, fo, fg.trans qg, ?_⟩
    rw [fk, List.drop_eq_getElem_cons hi]; rfl

theorem flush_out {ρ : Env} {s : St} {r} (hr : run T (.loop l19_12) ρ s = r) (hf : Full n w) (hwl : w.length < 2 ^ 36) {K : List UInt8} (hK : K.length = n * 64) (ho : o < s.next)
    (hg : s.get ⟨o, 0, 0⟩ = some [.sl ⟨o, 1, v⟩ 0 n kcap 64, wcell, .bool down, .int .i64 armed]) (hk : s.get ⟨o, 1, v⟩ = some (bs K))
    (hw : (wcell = .nilsl ∧ w = []) ∨ (wcell = .sl ⟨o, 2, v⟩ 0 w.length (.ge w.length) 65 ∧ s.get ⟨o, 2, v⟩ = some (wc w)))
    (r0 : ρ 0 = .ptr ⟨o, 0, 0⟩ 0) (r16 : ρ 16 = wcell) (r17 : ρ 17 = .int .i64 w.length) (r18 : ρ 18 = .int .i64 0) :
    ∃ ρ' s', r = some (.exit 0, ρ', s') ∧ ρ' 0 = .ptr ⟨o, 0, 0⟩ 0 ∧ o < s'.next ∧ s'.get ⟨o, 0, 0⟩ = s.get ⟨o, 0, 0⟩ ∧ s'.get ⟨o, 1, v⟩ = some (bs (keepAll K w)) := by
  subst hr
  rcases hw with ⟨rfl, rfl⟩ | ⟨rfl, hw⟩
  · rw [run_loop]
    simp (disch := first | omega | (simp only [rkl]; omega)) only [rk1, rk2, rk3, rk4, rk5, Arg.get, ret1, AV.cells, AV.isCell, addOff, minmaxL, Cap.room, Cap.cut, cutI, isSt, resultOf, Function.comp_apply, Function.comp_def, beq_self_eq_true, if_true, if_false, ite_true, ite_false, reduceCtorEq, bne_self_eq_false, Option.some.injEq, Prod.mk.injEq, ↓reduceIte, Nat.reduceEqDiff, Nat.reduceAdd, Nat.reduceMul, Nat.reduceSub, Nat.reduceLeDiff, Nat.reduceLT, Int.reduceLT, Int.reduceLE, Int.reduceEq, Int.reduceAdd, Int.reduceSub, Int.reduceNeg, Int.reduceToNat, List.mapM_cons, List.mapM_nil, Option.pure_def, Option.bind_eq_bind, eq_self, decide_true, decide_false, l19_12, p19_8, r0, r16, r17, r18]
    exact ⟨_, _, ⟨rfl, rfl⟩, by simp (disch := first | omega | (simp only [rkl]; omega)) only [rk1, rk2, rk3, rk4, rk5, Arg.get, ret1, AV.cells, AV.isCell, addOff, minmaxL, Cap.room, Cap.cut, cutI, isSt, resultOf, Function.comp_apply, Function.comp_def, beq_self_eq_true, if_true, if_false, ite_true, ite_false, reduceCtorEq, bne_self_eq_false, Option.some.injEq, Prod.mk.injEq, ↓reduceIte, Nat.reduceEqDiff, Nat.reduceAdd, Nat.reduceMul, Nat.reduceSub, Nat.reduceLeDiff, Nat.reduceLT, Int.reduceLT, Int.reduceLE, Int.reduceEq, Int.reduceAdd, Int.reduceSub, Int.reduceNeg, Int.reduceToNat, List.mapM_cons, List.mapM_nil, Option.pure_def, Option.bind_eq_bind, eq_self, decide_true, decide_false, r0], ho, rfl, hk⟩
  · obtain ⟨ρ2, s2, f1, f0, fo, fg, fk⟩ := flush_loop (T := T) hf hwl w.length 0 (by omega) hK ho hg hk hw r0 r16 r17 r18
    exact ⟨ρ2, s2, f1, f0.trans r0, fo, fg, fk⟩
end

section
variable {hs : FuncId → Hint} (H : DiskH hs) {σ : St} {o : Nat} {K : List UInt8} {n : Nat} {w : W} {down : Bool} {armed : Int} (D : DiskO σ o K n w down armed)
include H D

theorem flush_ev (hwl : w.length < 2 ^ 36) (hdn : down = false) :
    ∃ σ', ev (tab hs) 19 [.ptr ⟨o, 0, 0⟩ 0] σ = some (.int .i64 (if armed = 1 then 3 else 0), σ') ∧ DiskO σ' o (if armed = 1 then K else keepAll K w) n (if armed = 1 then w else []) (down2 down armed) (armed2 armed) ∧ Kept σ σ' o := by
  subst hdn
  have hA := D.arm
  have hup := up_ev H (D.only)
  obtain ⟨v, kcap, wcell, ho, hg, hk, hw⟩ := D.start
  have hid : idsNodup (⟨o, 0, 0⟩ :: ⟨o, 1, v⟩ :: (refId wcell).toList) = true := by
    rcases hw with ⟨rfl, rfl⟩ | ⟨rfl, hw⟩ <;> simp [refId, idsNodup]
  have hlen : lenIn (σ.only [o]) .sl wcell = some w.length := by
    rcases hw with ⟨rfl, rfl⟩ | ⟨rfl, hw⟩ <;> rfl
  have hhit := hit_raw H hg hA
  have h2 : 0 ≤ armed2 armed ∧ armed2 armed ≤ 9223372036854775807 := by unfold armed2; split <;> omega
  by_cases h1 : armed = 1
  · subst h1
    refine disk_turn (H.flush ▸ tab19 hs) (σ1 := (σ.only [o]).set ⟨o, 0, 0⟩ (some (.cells [.sl ⟨o, 1, v⟩ 0 n kcap 64, wcell, .bool true, .int .i64 0]))) (kid := ⟨o, 1, v⟩) (kcap := kcap) (wcell := wcell) ho D.few h2 (ins_nil _ _) ?_ ?_ ?_ ?_ hid D.len D.full (plain_int _ _)
    · simp (disch := first | omega | (simp only [rkl]; omega)) only [rk1, rk2, rk3, rk4, rk5, Arg.get, ret1, AV.cells, AV.isCell, addOff, minmaxL, Cap.room, Cap.cut, cutI, isSt, resultOf, Function.comp_apply, Function.comp_def, beq_self_eq_true, if_true, if_false, ite_true, ite_false, reduceCtorEq, bne_self_eq_false, Option.some.injEq, Prod.mk.injEq, ↓reduceIte, Nat.reduceEqDiff, Nat.reduceAdd, Nat.reduceMul, Nat.reduceSub, Nat.reduceLeDiff, Nat.reduceLT, Int.reduceLT, Int.reduceLE, Int.reduceEq, Int.reduceAdd, Int.reduceSub, Int.reduceNeg, Int.reduceToNat, List.mapM_cons, List.mapM_nil, Option.pure_def, Option.bind_eq_bind, eq_self, decide_true, decide_false, code19, p19_1, p19_2, p19_3, p19_4, p19_5, p19_6, hup, hhit]
    · rw [get_set_same]; rfl
    · rw [get_set, if_neg (by simp)]; exact hk
    · rcases hw with ⟨rfl, rfl⟩ | ⟨rfl, hw⟩
      · exact .nil
      · exact .sl (by rw [get_set, if_neg (by simp)]; exact hw)
  · have hs1 : ∃ s1, (if armed = 0 then σ.only [o] else (σ.only [o]).set ⟨o, 0, 0⟩ (some (.cells [.sl ⟨o, 1, v⟩ 0 n kcap 64, wcell, .bool (decide (armed = 1)), .int .i64 (armed - 1)]))) = s1 ∧
        s1.next = σ.next ∧ s1.get ⟨o, 0, 0⟩ = some [.sl ⟨o, 1, v⟩ 0 n kcap 64, wcell, .bool (down2 false armed), .int .i64 (armed2 armed)] ∧ s1.get ⟨o, 1, v⟩ = some (bs K) ∧
        ((wcell = .nilsl ∧ w = []) ∨ (wcell = .sl ⟨o, 2, v⟩ 0 w.length (.ge w.length) 65 ∧ s1.get ⟨o, 2, v⟩ = some (wc w))) := by
      refine ⟨_, rfl, ?_⟩
      by_cases h0 : armed = 0
      · subst h0
        exact ⟨rfl, hg, hk, hw⟩
      · rw [if_neg h0]
        refine ⟨rfl, ?_, ?_, ?_⟩
        · rw [get_set_same]; simp [down2, armed2, h0]
        · rw [get_set, if_neg (by simp)]; exact hk
        · rw [get_set, if_neg (by simp)]; exact hw
    obtain ⟨s1, hs1, n1, g1, k1, w1⟩ := hs1
    rw [hs1] at hhit
    have hlen1 : lenIn s1 .sl wcell = some w.length := by
      rcases w1 with ⟨rfl, rfl⟩ | ⟨rfl, hw⟩ <;> rfl
    have hrun : ∃ s2, bodyOf (run (tab hs)) ⟨35, 1, code19, [.tmp 2], .mut [(0, [])] none⟩ [.ptr ⟨o, 0, 0⟩ 0] (σ.only [o]) = some (.int .i64 0, s2) ∧
        s2.get ⟨o, 0, 0⟩ = some [.sl ⟨o, 1, v⟩ 0 n kcap 64, .nilsl, .bool (down2 false armed), .int .i64 (armed2 armed)] ∧ s2.get ⟨o, 1, v⟩ = some (bs (keepAll K w)) := by
      have hd1 : decide (armed = 1) = false := by simp [h1]
      simp (disch := first | omega | (simp only [rkl]; omega)) only [rk1, rk2, rk3, rk4, rk5, Arg.get, ret1, AV.cells, AV.isCell, addOff, minmaxL, Cap.room, Cap.cut, cutI, isSt, resultOf, Function.comp_apply, Function.comp_def, beq_self_eq_true, if_true, if_false, ite_true, ite_false, reduceCtorEq, bne_self_eq_false, Option.some.injEq, Prod.mk.injEq, ↓reduceIte, Nat.reduceEqDiff, Nat.reduceAdd, Nat.reduceMul, Nat.reduceSub, Nat.reduceLeDiff, Nat.reduceLT, Int.reduceLT, Int.reduceLE, Int.reduceEq, Int.reduceAdd, Int.reduceSub, Int.reduceNeg, Int.reduceToNat, List.mapM_cons, List.mapM_nil, Option.pure_def, Option.bind_eq_bind, eq_self, decide_true, decide_false, code19, p19_1, p19_2, p19_3, p19_4, p19_5, p19_6, p19_7, hup, hhit, hd1, g1, hlen1]
      generalize hr : run (tab hs) (.loop l19_12) _ _ = r
      obtain ⟨ρ', s2, rfl, q0, qn, qg, qk⟩ := flush_out hr D.full hwl D.len (by omega) g1 k1 w1 (by simp (disch := first | omega | (simp only [rkl]; omega)) only [rk1, rk2, rk3, rk4, rk5, Arg.get, ret1, AV.cells, AV.isCell, addOff, minmaxL, Cap.room, Cap.cut, cutI, isSt, resultOf, Function.comp_apply, Function.comp_def, beq_self_eq_true, if_true, if_false, ite_true, ite_false, reduceCtorEq, bne_self_eq_false, Option.some.injEq, Prod.mk.injEq, ↓reduceIte, Nat.reduceEqDiff, Nat.reduceAdd, Nat.reduceMul, Nat.reduceSub, Nat.reduceLeDiff, Nat.reduceLT, Int.reduceLT, Int.reduceLE, Int.reduceEq, Int.reduceAdd, Int.reduceSub, Int.reduceNeg, Int.reduceToNat, List.mapM_cons, List.mapM_nil, Option.pure_def, Option.bind_eq_bind, eq_self, decide_true, decide_false]) (by simp (disch := first | omega | (simp only [rkl]; omega)) only [rk1, rk2, rk3, rk4, rk5, Arg.get, ret1, AV.cells, AV.isCell, addOff, minmaxL, Cap.room, Cap.cut, cutI, isSt, resultOf, Function.comp_apply, Function.comp_def, beq_self_eq_true, if_true, if_false, ite_true, ite_false, reduceCtorEq, bne_self_eq_false, Option.some.injEq, Prod.mk.injEq, ↓reduceIte, Nat.reduceEqDiff, Nat.reduceAdd, Nat.reduceMul, Nat.reduceSub, Nat.reduceLeDiff, Nat.reduceLT, Int.reduceLT, Int.reduceLE, Int.reduceEq, Int.reduceAdd, Int.reduceSub, Int.reduceNeg, Int.reduceToNat, List.mapM_cons, List.mapM_nil, Option.pure_def, Option.bind_eq_bind, eq_self, decide_true, decide_false]) (by simp (disch := first | omega | (simp only [rkl]; omega)) only [rk1, rk2, rk3, rk4, rk5, Arg.get, ret1, AV.cells, AV.isCell, addOff, minmaxL, Cap.room, Cap.cut, cutI, isSt, resultOf, Function.comp_apply, Function.comp_def, beq_self_eq_true, if_true, if_false, ite_true, ite_false, reduceCtorEq, bne_self_eq_false, Option.some.injEq, Prod.mk.injEq, ↓reduceIte, Nat.reduceEqDiff, Nat.reduceAdd, Nat.reduceMul, Nat.reduceSub, Nat.reduceLeDiff, Nat.reduceLT, Int.reduceLT, Int.reduceLE, Int.reduceEq, Int.reduceAdd, Int.reduceSub, Int.reduceNeg, Int.reduceToNat, List.mapM_cons, List.mapM_nil, Option.pure_def, Option.bind_eq_bind, eq_self, decide_true, decide_false]) (by simp (disch := first | omega | (simp only [rkl]; omega)) only [rk1, rk2, rk3, rk4, rk5, Arg.get, ret1, AV.cells, AV.isCell, addOff, minmaxL, Cap.room, Cap.cut, cutI, isSt, resultOf, Function.comp_apply, Function.comp_def, beq_self_eq_true, if_true, if_false, ite_true, ite_false, reduceCtorEq, bne_self_eq_false, Option.some.injEq, Prod.mk.injEq, ↓reduceIte, Nat.reduceEqDiff, Nat.reduceAdd, Nat.reduceMul, Nat.reduceSub, Nat.reduceLeDiff, Nat.reduceLT, Int.reduceLT, Int.reduceLE, Int.reduceEq, Int.reduceAdd, Int.reduceSub, Int.reduceNeg, Int.reduceToNat, List.mapM_cons, List.mapM_nil, Option.pure_def, Option.bind_eq_bind, eq_self, decide_true, decide_false])
      rw [g1] at qg
      simp (disch := first | omega | (simp only [rkl]; omega)) only [rk1, rk2, rk3, rk4, rk5, Arg.get, ret1, AV.cells, AV.isCell, addOff, minmaxL, Cap.room, Cap.cut, cutI, isSt, resultOf, Function.comp_apply, Function.comp_def, beq_self_eq_true, if_true, if_false, ite_true, ite_false, reduceCtorEq, bne_self_eq_false, Option.some.injEq, Prod.mk.injEq, ↓reduceIte, Nat.reduceEqDiff, Nat.reduceAdd, Nat.reduceMul, Nat.reduceSub, Nat.reduceLeDiff, Nat.reduceLT, Int.reduceLT, Int.reduceLE, Int.reduceEq, Int.reduceAdd, Int.reduceSub, Int.reduceNeg, Int.reduceToNat, List.mapM_cons, List.mapM_nil, Option.pure_def, Option.bind_eq_bind, eq_self, decide_true, decide_false, p19_13, p19_14, q0, qg]
      exact ⟨_, rfl, by simp (disch := first | omega | (simp only [rkl]; omega)) only [rk1, rk2, rk3, rk4, rk5, Arg.get, ret1, AV.cells, AV.isCell, addOff, minmaxL, Cap.room, Cap.cut, cutI, isSt, resultOf, Function.comp_apply, Function.comp_def, beq_self_eq_true, if_true, if_false, ite_true, ite_false, reduceCtorEq, bne_self_eq_false, Option.some.injEq, Prod.mk.injEq, ↓reduceIte, Nat.reduceEqDiff, Nat.reduceAdd, Nat.reduceMul, Nat.reduceSub, Nat.reduceLeDiff, Nat.reduceLT, Int.reduceLT, Int.reduceLE, Int.reduceEq, Int.reduceAdd, Int.reduceSub, Int.reduceNeg, Int.reduceToNat, List.mapM_cons, List.mapM_nil, Option.pure_def, Option.bind_eq_bind, eq_self, decide_true, decide_false], by simp (disch := first | omega | (simp only [rkl]; omega)) only [rk1, rk2, rk3, rk4, rk5, Arg.get, ret1, AV.cells, AV.isCell, addOff, minmaxL, Cap.room, Cap.cut, cutI, isSt, resultOf, Function.comp_apply, Function.comp_def, beq_self_eq_true, if_true, if_false, ite_true, ite_false, reduceCtorEq, bne_self_eq_false, Option.some.injEq, Prod.mk.injEq, ↓reduceIte, Nat.reduceEqDiff, Nat.reduceAdd, Nat.reduceMul, Nat.reduceSub, Nat.reduceLeDiff, Nat.reduceLT, Int.reduceLT, Int.reduceLE, Int.reduceEq, Int.reduceAdd, Int.reduceSub, Int.reduceNeg, Int.reduceToNat, List.mapM_cons, List.mapM_nil, Option.pure_def, Option.bind_eq_bind, eq_self, decide_true, decide_false, qk]⟩
    obtain ⟨s2, b2, g2, k2⟩ := hrun
    rw [if_neg h1, if_neg h1, if_neg h1]
    exact disk_turn (H.flush ▸ tab19 hs) ho D.few h2 (ins_nil _ _) b2 g2 k2 .nil (by simp [refId, idsNodup]) (keepAll_len D.full D.len) (fun x hx => by simp at hx) (plain_int _ _)
end
end Go.Proofs.Ytkhalpmmdlppkaa
