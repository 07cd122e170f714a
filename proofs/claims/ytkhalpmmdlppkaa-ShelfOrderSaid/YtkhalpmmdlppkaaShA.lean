/-
  THE SHELF: how its functions are called; which of two things goes first.
-/
import Derived.Test.YtkhalpmmdlppkaaTabS
import Derived.Test.YtkhalpmmdlppkaaHpA
import Derived.Test.YtkhalpmmdlppkaaVmX
import Derived.Test.YtkhalpmmdlppkaaVmY
import Derived.Test.YtkhalpmmdlppkaaVmZ
import Derived.Test.YtkhalpmmdlppkaaVmEw
namespace Go.Proofs.Ytkhalpmmdlppkaa
set_option linter.unusedSimpArgs false
set_option linter.unusedVariables false
open Go.Vm

def hsS : FuncId → Hint
  | 40 => .raw
  | 41 => .known (just (.bool true))
  | 42 => .raw
  | 43 => .raw
  | 45 => .raw
  | 46 => .raw
  | 49 => .raw
  | 50 => .raw
  | 51 => .raw
  | 52 => .raw
  | 76 => .raw
  | 79 => .raw
  | 80 => .raw
  | 81 => .raw
  | 101 => .raw
  | 102 => .raw
  | 128 => .raw
  | 134 => .raw
  | 135 => .raw
  | _ => .pure

structure Ky where
  v : Int
  u : Int
  sz : Int
  us : Int

/-- A thing's cells. -/
def thc (y : Ky) (a : Int) : List AV := [.int .u32 y.v, .int .u32 y.u, .int .i64 y.sz, .int .i64 y.us, .int .i64 a]

def cmpI (x y : Int) : Int := if x < y then -1 else if x > y then 1 else 0
def orI (a b c : Int) : Int := if a ≠ 0 then a else if b ≠ 0 then b else c
/-- Which one goes first. -/
def ltK (a b : Ky) : Bool := decide (orI (cmpI a.us b.us) (cmpI a.v b.v) (cmpI a.u b.u) < 0)

theorem ltK_iff (a b : Ky) : ltK a b = true ↔ a.us < b.us ∨ a.us = b.us ∧ (a.v < b.v ∨ a.v = b.v ∧ a.u < b.u) := by
  have c1 : ∀ x y, cmpI x y < 0 ↔ x < y := fun x y => by unfold cmpI; split <;> (try split) <;> omega
  have c2 : ∀ x y, cmpI x y = 0 ↔ x = y := fun x y => by unfold cmpI; split <;> (try split) <;> omega
  unfold ltK orI
  rw [decide_eq_true_iff]
  by_cases h1 : cmpI a.us b.us = 0
  · have e1 := (c2 _ _).1 h1
    rw [if_neg (by simp [h1])]
    by_cases h2 : cmpI a.v b.v = 0
    · have e2 := (c2 _ _).1 h2
      rw [if_neg (by simp [h2]), c1]; omega
    · have e2 := mt (c2 _ _).2 h2
      rw [if_pos h2, c1]; omega
  · have e1 := mt (c2 _ _).2 h1
    rw [if_pos h1, c1]; omega

theorem ordK : Ord ltK where
  asym a b h := by
    cases hb : ltK b a with
    | false => rfl
    | true => rw [ltK_iff] at h hb; omega
  trans a b c h1 h2 := by
    have n : ∀ x y, ltK x y = false ↔ ¬ (x.us < y.us ∨ x.us = y.us ∧ (x.v < y.v ∨ x.v = y.v ∧ x.u < y.u)) := fun x y => by
      rw [← ltK_iff]; simp
    rw [n] at *
    omega

section
variable {T : Table} {h : Hint}
theorem nan132 (x : Int) (σ : St) : ev (tab hsS) 132 [.int .i64 x] σ = some (.bool false, σ) := by
  refine pure_ev (tab132 hsS) (snaps_cons rfl (snaps_nil _)) ?_
  simp (disch := first | omega | (simp only [rkl]; omega)) only [rk1, rk2, rk3, rk4, rk5, Arg.get, ret1, AV.cells, AV.isCell, addOff, minmaxL, Cap.room, Cap.cut, cutI, isSt, resultOf, Function.comp_apply, Function.comp_def, beq_self_eq_true, if_true, if_false, ite_true, ite_false, reduceCtorEq, bne_self_eq_false, Option.some.injEq, Prod.mk.injEq, ↓reduceIte, Nat.reduceEqDiff, Nat.reduceAdd, Nat.reduceMul, Nat.reduceSub, Nat.reduceLeDiff, Nat.reduceLT, Int.reduceLT, Int.reduceLE, Int.reduceEq, Int.reduceAdd, Int.reduceSub, Int.reduceNeg, Int.reduceToNat, List.mapM_cons, List.mapM_nil, Option.pure_def, Option.bind_eq_bind, eq_self, decide_true, decide_false, code132, p132_1, p132_2]
theorem nan133 (x : Int) (σ : St) : ev (tab hsS) 133 [.int .u32 x] σ = some (.bool false, σ) := by
  refine pure_ev (tab133 hsS) (snaps_cons rfl (snaps_nil _)) ?_
  simp (disch := first | omega | (simp only [rkl]; omega)) only [rk1, rk2, rk3, rk4, rk5, Arg.get, ret1, AV.cells, AV.isCell, addOff, minmaxL, Cap.room, Cap.cut, cutI, isSt, resultOf, Function.comp_apply, Function.comp_def, beq_self_eq_true, if_true, if_false, ite_true, ite_false, reduceCtorEq, bne_self_eq_false, Option.some.injEq, Prod.mk.injEq, ↓reduceIte, Nat.reduceEqDiff, Nat.reduceAdd, Nat.reduceMul, Nat.reduceSub, Nat.reduceLeDiff, Nat.reduceLT, Int.reduceLT, Int.reduceLE, Int.reduceEq, Int.reduceAdd, Int.reduceSub, Int.reduceNeg, Int.reduceToNat, List.mapM_cons, List.mapM_nil, Option.pure_def, Option.bind_eq_bind, eq_self, decide_true, decide_false, code133, p133_1, p133_2]
theorem cmp130 (x y : Int) (σ : St) : ev (tab hsS) 130 [.int .i64 x, .int .i64 y] σ = some (.int .i64 (cmpI x y), σ) := by
  refine pure_ev (tab130 hsS) (snaps_cons rfl (snaps_cons rfl (snaps_nil _))) ?_
  by_cases h1 : x < y
  · simp (disch := first | omega | (simp only [rkl]; omega)) only [rk1, rk2, rk3, rk4, rk5, Arg.get, ret1, AV.cells, AV.isCell, addOff, minmaxL, Cap.room, Cap.cut, cutI, isSt, resultOf, Function.comp_apply, Function.comp_def, beq_self_eq_true, if_true, if_false, ite_true, ite_false, reduceCtorEq, bne_self_eq_false, Option.some.injEq, Prod.mk.injEq, ↓reduceIte, Nat.reduceEqDiff, Nat.reduceAdd, Nat.reduceMul, Nat.reduceSub, Nat.reduceLeDiff, Nat.reduceLT, Int.reduceLT, Int.reduceLE, Int.reduceEq, Int.reduceAdd, Int.reduceSub, Int.reduceNeg, Int.reduceToNat, List.mapM_cons, List.mapM_nil, Option.pure_def, Option.bind_eq_bind, eq_self, decide_true, decide_false, code130, p130_1, p130_2, p130_3, p130_4, p130_8, p130_10, p130_11, nan132, h1, cmpI]
  · by_cases h2 : x > y
    · simp (disch := first | omega | (simp only [rkl]; omega)) only [rk1, rk2, rk3, rk4, rk5, Arg.get, ret1, AV.cells, AV.isCell, addOff, minmaxL, Cap.room, Cap.cut, cutI, isSt, resultOf, Function.comp_apply, Function.comp_def, beq_self_eq_true, if_true, if_false, ite_true, ite_false, reduceCtorEq, bne_self_eq_false, Option.some.injEq, Prod.mk.injEq, ↓reduceIte, Nat.reduceEqDiff, Nat.reduceAdd, Nat.reduceMul, Nat.reduceSub, Nat.reduceLeDiff, Nat.reduceLT, Int.reduceLT, Int.reduceLE, Int.reduceEq, Int.reduceAdd, Int.reduceSub, Int.reduceNeg, Int.reduceToNat, List.mapM_cons, List.mapM_nil, Option.pure_def, Option.bind_eq_bind, eq_self, decide_true, decide_false, code130, p130_1, p130_2, p130_3, p130_4, p130_8, p130_10, p130_12, p130_13, nan132, h1, h2, cmpI]
    · simp (disch := first | omega | (simp only [rkl]; omega)) only [rk1, rk2, rk3, rk4, rk5, Arg.get, ret1, AV.cells, AV.isCell, addOff, minmaxL, Cap.room, Cap.cut, cutI, isSt, resultOf, Function.comp_apply, Function.comp_def, beq_self_eq_true, if_true, if_false, ite_true, ite_false, reduceCtorEq, bne_self_eq_false, Option.some.injEq, Prod.mk.injEq, ↓reduceIte, Nat.reduceEqDiff, Nat.reduceAdd, Nat.reduceMul, Nat.reduceSub, Nat.reduceLeDiff, Nat.reduceLT, Int.reduceLT, Int.reduceLE, Int.reduceEq, Int.reduceAdd, Int.reduceSub, Int.reduceNeg, Int.reduceToNat, List.mapM_cons, List.mapM_nil, Option.pure_def, Option.bind_eq_bind, eq_self, decide_true, decide_false, code130, p130_1, p130_2, p130_3, p130_4, p130_8, p130_10, p130_12, p130_14, nan132, h1, h2, cmpI]
theorem cmp131 (x y : Int) (σ : St) : ev (tab hsS) 131 [.int .u32 x, .int .u32 y] σ = some (.int .i64 (cmpI x y), σ) := by
  refine pure_ev (tab131 hsS) (snaps_cons rfl (snaps_cons rfl (snaps_nil _))) ?_
  by_cases h1 : x < y
  · simp (disch := first | omega | (simp only [rkl]; omega)) only [rk1, rk2, rk3, rk4, rk5, Arg.get, ret1, AV.cells, AV.isCell, addOff, minmaxL, Cap.room, Cap.cut, cutI, isSt, resultOf, Function.comp_apply, Function.comp_def, beq_self_eq_true, if_true, if_false, ite_true, ite_false, reduceCtorEq, bne_self_eq_false, Option.some.injEq, Prod.mk.injEq, ↓reduceIte, Nat.reduceEqDiff, Nat.reduceAdd, Nat.reduceMul, Nat.reduceSub, Nat.reduceLeDiff, Nat.reduceLT, Int.reduceLT, Int.reduceLE, Int.reduceEq, Int.reduceAdd, Int.reduceSub, Int.reduceNeg, Int.reduceToNat, List.mapM_cons, List.mapM_nil, Option.pure_def, Option.bind_eq_bind, eq_self, decide_true, decide_false, code131, p131_1, p131_2, p131_3, p131_4, p131_8, p131_10, p131_11, nan133, h1, cmpI]
  · by_cases h2 : x > y
    · simp (disch := first | omega | (simp only [rkl]; omega)) only [rk1, rk2, rk3, rk4, rk5, Arg.get, ret1, AV.cells, AV.isCell, addOff, minmaxL, Cap.room, Cap.cut, cutI, isSt, resultOf, Function.comp_apply, Function.comp_def, beq_self_eq_true, if_true, if_false, ite_true, ite_false, reduceCtorEq, bne_self_eq_false, Option.some.injEq, Prod.mk.injEq, ↓reduceIte, Nat.reduceEqDiff, Nat.reduceAdd, Nat.reduceMul, Nat.reduceSub, Nat.reduceLeDiff, Nat.reduceLT, Int.reduceLT, Int.reduceLE, Int.reduceEq, Int.reduceAdd, Int.reduceSub, Int.reduceNeg, Int.reduceToNat, List.mapM_cons, List.mapM_nil, Option.pure_def, Option.bind_eq_bind, eq_self, decide_true, decide_false, code131, p131_1, p131_2, p131_3, p131_4, p131_8, p131_10, p131_12, p131_13, nan133, h1, h2, cmpI]
    · simp (disch := first | omega | (simp only [rkl]; omega)) only [rk1, rk2, rk3, rk4, rk5, Arg.get, ret1, AV.cells, AV.isCell, addOff, minmaxL, Cap.room, Cap.cut, cutI, isSt, resultOf, Function.comp_apply, Function.comp_def, beq_self_eq_true, if_true, if_false, ite_true, ite_false, reduceCtorEq, bne_self_eq_false, Option.some.injEq, Prod.mk.injEq, ↓reduceIte, Nat.reduceEqDiff, Nat.reduceAdd, Nat.reduceMul, Nat.reduceSub, Nat.reduceLeDiff, Nat.reduceLT, Int.reduceLT, Int.reduceLE, Int.reduceEq, Int.reduceAdd, Int.reduceSub, Int.reduceNeg, Int.reduceToNat, List.mapM_cons, List.mapM_nil, Option.pure_def, Option.bind_eq_bind, eq_self, decide_true, decide_false, code131, p131_1, p131_2, p131_3, p131_4, p131_8, p131_10, p131_12, p131_14, nan133, h1, h2, cmpI]

theorem or_pure (a b c : Int) : pureOf (run T) ⟨18, 1, code129, [.tmp 2], h⟩ [.isl true [.int .i64 a, .int .i64 b, .int .i64 c] 3 none] = some (.int .i64 (orI a b c)) := by
  have hep : ∀ (k : Nat), k < 3 → elemPtr 1 k (.isl true [.int .i64 a, .int .i64 b, .int .i64 c] 3 none) = some (.iptr true [.int .i64 a, .int .i64 b, .int .i64 c] k) := fun k hk => by rw [elemPtr_isl hk (by simp), Nat.mul_one]
  have h0 := hep 0 (by omega)
  have h1 := hep 1 (by omega)
  have h2 := hep 2 (by omega)
  simp (disch := first | omega | (simp only [rkl]; omega)) only [rk1, rk2, rk3, rk4, rk5, Arg.get, ret1, AV.cells, AV.isCell, addOff, minmaxL, Cap.room, Cap.cut, cutI, isSt, resultOf, Function.comp_apply, Function.comp_def, beq_self_eq_true, if_true, if_false, ite_true, ite_false, reduceCtorEq, bne_self_eq_false, Option.some.injEq, Prod.mk.injEq, ↓reduceIte, Nat.reduceEqDiff, Nat.reduceAdd, Nat.reduceMul, Nat.reduceSub, Nat.reduceLeDiff, Nat.reduceLT, Int.reduceLT, Int.reduceLE, Int.reduceEq, Int.reduceAdd, Int.reduceSub, Int.reduceNeg, Int.reduceToNat, List.mapM_cons, List.mapM_nil, Option.pure_def, Option.bind_eq_bind, eq_self, decide_true, decide_false, code129, p129_1, p129_2, p129_3]
  rw [run_loop]
  by_cases ha : a = 0
  · subst ha
    simp (disch := first | omega | (simp only [rkl]; omega)) only [rk1, rk2, rk3, rk4, rk5, Arg.get, ret1, AV.cells, AV.isCell, addOff, minmaxL, Cap.room, Cap.cut, cutI, isSt, resultOf, Function.comp_apply, Function.comp_def, beq_self_eq_true, if_true, if_false, ite_true, ite_false, reduceCtorEq, bne_self_eq_false, Option.some.injEq, Prod.mk.injEq, ↓reduceIte, Nat.reduceEqDiff, Nat.reduceAdd, Nat.reduceMul, Nat.reduceSub, Nat.reduceLeDiff, Nat.reduceLT, Int.reduceLT, Int.reduceLE, Int.reduceEq, Int.reduceAdd, Int.reduceSub, Int.reduceNeg, Int.reduceToNat, List.mapM_cons, List.mapM_nil, Option.pure_def, Option.bind_eq_bind, eq_self, decide_true, decide_false, l129_9, p129_4, p129_5, p129_6, p129_8, h0]
    rw [run_loop]
    by_cases hb : b = 0
    · subst hb
      simp (disch := first | omega | (simp only [rkl]; omega)) only [rk1, rk2, rk3, rk4, rk5, Arg.get, ret1, AV.cells, AV.isCell, addOff, minmaxL, Cap.room, Cap.cut, cutI, isSt, resultOf, Function.comp_apply, Function.comp_def, beq_self_eq_true, if_true, if_false, ite_true, ite_false, reduceCtorEq, bne_self_eq_false, Option.some.injEq, Prod.mk.injEq, ↓reduceIte, Nat.reduceEqDiff, Nat.reduceAdd, Nat.reduceMul, Nat.reduceSub, Nat.reduceLeDiff, Nat.reduceLT, Int.reduceLT, Int.reduceLE, Int.reduceEq, Int.reduceAdd, Int.reduceSub, Int.reduceNeg, Int.reduceToNat, List.mapM_cons, List.mapM_nil, Option.pure_def, Option.bind_eq_bind, eq_self, decide_true, decide_false, l129_9, p129_4, p129_5, p129_6, p129_8, h1]
      rw [run_loop]
      by_cases hc : c = 0
      · subst hc
        simp (disch := first | omega | (simp only [rkl]; omega)) only [rk1, rk2, rk3, rk4, rk5, Arg.get, ret1, AV.cells, AV.isCell, addOff, minmaxL, Cap.room, Cap.cut, cutI, isSt, resultOf, Function.comp_apply, Function.comp_def, beq_self_eq_true, if_true, if_false, ite_true, ite_false, reduceCtorEq, bne_self_eq_false, Option.some.injEq, Prod.mk.injEq, ↓reduceIte, Nat.reduceEqDiff, Nat.reduceAdd, Nat.reduceMul, Nat.reduceSub, Nat.reduceLeDiff, Nat.reduceLT, Int.reduceLT, Int.reduceLE, Int.reduceEq, Int.reduceAdd, Int.reduceSub, Int.reduceNeg, Int.reduceToNat, List.mapM_cons, List.mapM_nil, Option.pure_def, Option.bind_eq_bind, eq_self, decide_true, decide_false, l129_9, p129_4, p129_5, p129_6, p129_8, h2]
        rw [run_loop]
        simp (disch := first | omega | (simp only [rkl]; omega)) only [rk1, rk2, rk3, rk4, rk5, Arg.get, ret1, AV.cells, AV.isCell, addOff, minmaxL, Cap.room, Cap.cut, cutI, isSt, resultOf, Function.comp_apply, Function.comp_def, beq_self_eq_true, if_true, if_false, ite_true, ite_false, reduceCtorEq, bne_self_eq_false, Option.some.injEq, Prod.mk.injEq, ↓reduceIte, Nat.reduceEqDiff, Nat.reduceAdd, Nat.reduceMul, Nat.reduceSub, Nat.reduceLeDiff, Nat.reduceLT, Int.reduceLT, Int.reduceLE, Int.reduceEq, Int.reduceAdd, Int.reduceSub, Int.reduceNeg, Int.reduceToNat, List.mapM_cons, List.mapM_nil, Option.pure_def, Option.bind_eq_bind, eq_self, decide_true, decide_false, l129_9, p129_4, p129_10, orI]
      · simp (disch := first | omega | (simp only [rkl]; omega)) only [rk1, rk2, rk3, rk4, rk5, Arg.get, ret1, AV.cells, AV.isCell, addOff, minmaxL, Cap.room, Cap.cut, cutI, isSt, resultOf, Function.comp_apply, Function.comp_def, beq_self_eq_true, if_true, if_false, ite_true, ite_false, reduceCtorEq, bne_self_eq_false, Option.some.injEq, Prod.mk.injEq, ↓reduceIte, Nat.reduceEqDiff, Nat.reduceAdd, Nat.reduceMul, Nat.reduceSub, Nat.reduceLeDiff, Nat.reduceLT, Int.reduceLT, Int.reduceLE, Int.reduceEq, Int.reduceAdd, Int.reduceSub, Int.reduceNeg, Int.reduceToNat, List.mapM_cons, List.mapM_nil, Option.pure_def, Option.bind_eq_bind, eq_self, decide_true, decide_false, l129_9, p129_4, p129_5, p129_6, p129_7, h2, hc, orI]
    · simp (disch := first | omega | (simp only [rkl]; omega)) only [rk1, rk2, rk3, rk4, rk5, Arg.get, ret1, AV.cells, AV.isCell, addOff, minmaxL, Cap.room, Cap.cut, cutI, isSt, resultOf, Function.comp_apply, Function.comp_def, beq_self_eq_true, if_true, if_false, ite_true, ite_false, reduceCtorEq, bne_self_eq_false, Option.some.injEq, Prod.mk.injEq, ↓reduceIte, Nat.reduceEqDiff, Nat.reduceAdd, Nat.reduceMul, Nat.reduceSub, Nat.reduceLeDiff, Nat.reduceLT, Int.reduceLT, Int.reduceLE, Int.reduceEq, Int.reduceAdd, Int.reduceSub, Int.reduceNeg, Int.reduceToNat, List.mapM_cons, List.mapM_nil, Option.pure_def, Option.bind_eq_bind, eq_self, decide_true, decide_false, l129_9, p129_4, p129_5, p129_6, p129_7, h1, hb, orI]
  · simp (disch := first | omega | (simp only [rkl]; omega)) only [rk1, rk2, rk3, rk4, rk5, Arg.get, ret1, AV.cells, AV.isCell, addOff, minmaxL, Cap.room, Cap.cut, cutI, isSt, resultOf, Function.comp_apply, Function.comp_def, beq_self_eq_true, if_true, if_false, ite_true, ite_false, reduceCtorEq, bne_self_eq_false, Option.some.injEq, Prod.mk.injEq, ↓reduceIte, Nat.reduceEqDiff, Nat.reduceAdd, Nat.reduceMul, Nat.reduceSub, Nat.reduceLeDiff, Nat.reduceLT, Int.reduceLT, Int.reduceLE, Int.reduceEq, Int.reduceAdd, Int.reduceSub, Int.reduceNeg, Int.reduceToNat, List.mapM_cons, List.mapM_nil, Option.pure_def, Option.bind_eq_bind, eq_self, decide_true, decide_false, l129_9, p129_4, p129_5, p129_6, p129_7, h0, ha, orI]
end

theorem seq_d127_3 : drawSeq (tab hsS) d127_3 = true := rfl

theorem mapM_ex {α β : Type} {g : α → Option β} : ∀ {xs : List α}, (∀ x ∈ xs, ∃ y, g x = some y) → ∃ ys, xs.mapM g = some ys ∧ ys.length = xs.length ∧ ∀ (k : Nat) x y, xs[k]? = some x → g x = some y → ys[k]? = some y
  | [], _ => ⟨[], rfl, rfl, by simp⟩
  | x :: xs, h => by
    obtain ⟨y, hy⟩ := h x (by simp)
    obtain ⟨ys, h1, h2, h3⟩ := mapM_ex (xs := xs) fun z hz => h z (by simp [hz])
    refine ⟨y :: ys, by rw [List.mapM_cons, hy, h1]; rfl, by simp [h2], fun k a b ha hb => ?_⟩
    cases k with
    | zero => simp only [List.getElem?_cons_zero, Option.some.injEq] at ha; subst ha; rw [hy] at hb; simpa using hb
    | succ k => simpa using h3 k a b (by simpa using ha) hb

theorem less_pure {ps : List AV} {n : Nat} (hn : ps.length = n) (hn2 : n < 2 ^ 40) {i j : Nat} (hi : i < n) (hj : j < n) {a b : Ky} {ai bi : Int} (pi : ps[i]? = some (.iptr true (thc a ai) 0)) (pj : ps[j]? = some (.iptr true (thc b bi) 0)) {h : Hint} :
    pureOf (run (tab hsS)) ⟨51, 3, code127, [.tmp 6], h⟩ [.isl true ps n none, .int .i64 i, .int .i64 j] = some (.bool (ltK a b)) := by
  have hpi : Vm.part false 1 i ps = some (.iptr true (thc a ai) 0) := by rw [part_one (by omega), pi]
  have hpj : Vm.part false 1 j ps = some (.iptr true (thc b bi) 0) := by rw [part_one (by omega), pj]
  have hep : ∀ (k : Nat), k < n → elemPtr 1 k (.isl true ps n none) = some (.iptr true ps k) := fun k hk => by rw [elemPtr_isl hk (by omega), Nat.mul_one]
  have hei := hep i hi
  have hej := hep j hj
  have hnc : ∀ (s : St) (x y z : Int), newCells s [.int .i64 x, .int .i64 y, .int .i64 z] = some (⟨s.next, 0, 0⟩, s.new [.int .i64 x, .int .i64 y, .int .i64 z]) := fun s x y z => newCells_ok rfl
  have hfv : ∀ (x y z : Int), fillV [.int .i64 0, .int .i64 0, .int .i64 0] [(0, 1, [.int .i64 x]), (1, 1, [.int .i64 y]), (2, 1, [.int .i64 z])] = some [.int .i64 x, .int .i64 y, .int .i64 z] := fun x y z => rfl
  have hor : ∀ (s : St) (x y z : Int), ev (tab hsS) 129 [.sl ⟨s.next, 0, 0⟩ 0 3 (.ex 3) 1] (s.new [.int .i64 x, .int .i64 y, .int .i64 z]) = some (.int .i64 (orI x y z), s.new [.int .i64 x, .int .i64 y, .int .i64 z]) := fun s x y z =>
    pure_ev (tab129 hsS) (snaps_cons (y := .isl true [.int .i64 x, .int .i64 y, .int .i64 z] 3 none) (by simp (disch := first | omega | (simp only [rkl]; omega)) only [rk1, rk2, rk3, rk4, rk5, Arg.get, ret1, AV.cells, AV.isCell, addOff, minmaxL, Cap.room, Cap.cut, cutI, isSt, resultOf, Function.comp_apply, Function.comp_def, beq_self_eq_true, if_true, if_false, ite_true, ite_false, reduceCtorEq, bne_self_eq_false, Option.some.injEq, Prod.mk.injEq, ↓reduceIte, Nat.reduceEqDiff, Nat.reduceAdd, Nat.reduceMul, Nat.reduceSub, Nat.reduceLeDiff, Nat.reduceLT, Int.reduceLT, Int.reduceLE, Int.reduceEq, Int.reduceAdd, Int.reduceSub, Int.reduceNeg, Int.reduceToNat, List.mapM_cons, List.mapM_nil, Option.pure_def, Option.bind_eq_bind, eq_self, decide_true, decide_false]) (snaps_nil _)) (or_pure x y z)
  have hor0 := hor emptySt
  rw [next_empty] at hor0
  simp (disch := first | omega | (simp only [rkl]; omega)) only [rk1, rk2, rk3, rk4, rk5, Arg.get, ret1, AV.cells, AV.isCell, addOff, minmaxL, Cap.room, Cap.cut, cutI, isSt, resultOf, Function.comp_apply, Function.comp_def, beq_self_eq_true, if_true, if_false, ite_true, ite_false, reduceCtorEq, bne_self_eq_false, Option.some.injEq, Prod.mk.injEq, ↓reduceIte, Nat.reduceEqDiff, Nat.reduceAdd, Nat.reduceMul, Nat.reduceSub, Nat.reduceLeDiff, Nat.reduceLT, Int.reduceLT, Int.reduceLE, Int.reduceEq, Int.reduceAdd, Int.reduceSub, Int.reduceNeg, Int.reduceToNat, List.mapM_cons, List.mapM_nil, Option.pure_def, Option.bind_eq_bind, eq_self, decide_true, decide_false, code127, p127_1]
  rw [drawn (seq_d127_2 _)]
  simp (disch := first | omega | (simp only [rkl]; omega)) only [rk1, rk2, rk3, rk4, rk5, Arg.get, ret1, AV.cells, AV.isCell, addOff, minmaxL, Cap.room, Cap.cut, cutI, isSt, resultOf, Function.comp_apply, Function.comp_def, beq_self_eq_true, if_true, if_false, ite_true, ite_false, reduceCtorEq, bne_self_eq_false, Option.some.injEq, Prod.mk.injEq, ↓reduceIte, Nat.reduceEqDiff, Nat.reduceAdd, Nat.reduceMul, Nat.reduceSub, Nat.reduceLeDiff, Nat.reduceLT, Int.reduceLT, Int.reduceLE, Int.reduceEq, Int.reduceAdd, Int.reduceSub, Int.reduceNeg, Int.reduceToNat, List.mapM_cons, List.mapM_nil, Option.pure_def, Option.bind_eq_bind, eq_self, decide_true, decide_false, d127_2, hei, hej, hpi, hpj]
  rw [drawn seq_d127_3]
  simp (disch := first | omega | (simp only [rkl]; omega)) only [rk1, rk2, rk3, rk4, rk5, Arg.get, ret1, AV.cells, AV.isCell, addOff, minmaxL, Cap.room, Cap.cut, cutI, isSt, resultOf, Function.comp_apply, Function.comp_def, beq_self_eq_true, if_true, if_false, ite_true, ite_false, reduceCtorEq, bne_self_eq_false, Option.some.injEq, Prod.mk.injEq, ↓reduceIte, Nat.reduceEqDiff, Nat.reduceAdd, Nat.reduceMul, Nat.reduceSub, Nat.reduceLeDiff, Nat.reduceLT, Int.reduceLT, Int.reduceLE, Int.reduceEq, Int.reduceAdd, Int.reduceSub, Int.reduceNeg, Int.reduceToNat, List.mapM_cons, List.mapM_nil, Option.pure_def, Option.bind_eq_bind, eq_self, decide_true, decide_false, d127_3, thc, cmp130, cmp131, hnc, hfv, hor0]
  rfl
end Go.Proofs.Ytkhalpmmdlppkaa
