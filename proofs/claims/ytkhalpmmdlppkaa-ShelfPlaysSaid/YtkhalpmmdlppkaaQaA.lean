/-
  THE SHELF: how its functions are called; which of two things goes first.
-/
import Derived.Test.YtkhalpmmdlppkaaTabS
import Derived.Test.YtkhalpmmdlppkaaHpA
import Derived.Test.YtkhalpmmdlppkaaVmX
import Derived.Test.YtkhalpmmdlppkaaVmY
import Derived.Test.YtkhalpmmdlppkaaVmZ
import Derived.Test.YtkhalpmmdlppkaaVmEw
namespace Go.Proofs.Ytkhalpmmdlppkaa
set_option linter.unusedSimpArgs false
set_option linter.unusedVariables false
open Go.Vm

def hsS : FuncId → Hint
  | 40 => .raw
  | 41 => .known (just (.bool true))
  | 42 => .raw
  | 43 => .raw
  | 45 => .raw
  | 46 => .raw
  | 49 => .raw
  | 50 => .raw
  | 51 => .raw
  | 52 => .raw
  | 76 => .raw
  | 79 => .raw
  | 80 => .raw
  | 81 => .raw
  | 101 => .raw
  | 102 => .raw
  | 128 => .raw
  | 134 => .raw
  | 135 => .raw
  | _ => .pure

structure Ky where
  v : Int
  u : Int
  sz : Int
  us : Int

/-- A thing's cells. -/
def thc (y : Ky) (a : Int) : List AV := [.int .u32 y.v, .int .u32 y.u, .int .i64 y.sz, .int .i64 y.us, .int .i64 a]

def cmpI (x y : Int) : Int := if x < y then -1 else if x > y then 1 else 0
def orI (a b c : Int) : Int := if a ≠ 0 then a else if b ≠ 0 then b else c
/-- Which one goes first. -/
def ltK (a b : Ky) : Bool := decide (orI (cmpI a.us b.us) (cmpI a.v b.v) (cmpI a.u b.u) < 0)

theorem ltK_iff (a b : Ky) : ltK a b = true ↔ a.us < b.us ∨ a.us = b.us ∧ (a.v < b.v ∨ a.v = b.v ∧ a.u < b.u) := by
  have c1 : ∀ x y, cmpI x y < 0 ↔ x < y := fun x y => by unfold cmpI; split <;> (try split) <;> omega
  have c2 : ∀ x y, cmpI x y = 0 ↔ x = y := fun x y => by unfold cmpI; split <;> (try split) <;> omega
  unfold ltK orI
  rw [decide_eq_true_iff]
  by_cases h1 : cmpI a.us b.us = 0
  · have e1 := (c2 _ _).1 h1
    rw [if_neg (by simp [h1])]
    by_cases h2 : cmpI a.v b.v = 0
    · have e2 := (c2 _ _).1 h2
      rw [if_neg (by simp [h2]), c1]; omega
    · have e2 := mt (c2 _ _).2 h2
      rw [if_pos h2, c1]; omega
  · have e1 := mt (c2 _ _).2 h1
    rw [if_pos h1, c1]; omega

theorem ordK : Ord ltK where
  asym a b h := by
    cases hb : ltK b a with
    | false => rfl
    | true => rw [ltK_iff] at h hb; omega
  trans a b c h1 h2 := by
    have n : ∀ x y, ltK x y = false ↔ ¬ (x.us < y.us ∨ x.us = y.us ∧ (x.v < y.v ∨ x.v = y.v ∧ x.u < y.u)) := fun x y => by
      rw [← ltK_iff]; simp
    rw [n] at *
    omega

section
variable {T : Table} {h : Hint}
theorem nan132 (x : Int) (σ : St) : ev (tab hsS) 132 [.int .i64 x] σ = some (.bool false, σ) := by
  refine pure_ev (tab132 hsS) (snaps_cons rfl (snaps_nil _)) ?_
  simp (disch := first | omega | (simp only [rkl]; omega)) only [rk1, rk2, rk3, rk4, rk5, Arg.get, ret1, AV.cells, AV.isCell, addOff, minmaxL, Cap.room, Cap.cut, cutI, isSt, resultOf, Function.comp_apply, Function.comp_def, beq_self_eq_true, if_true, if_false, ite_true, ite_false, reduceCtorEq, bne_self_eq_false, Option.some.injEq, Prod.mk.injEq, ↓reduceIte, Nat.reduceEqDiff, Nat.reduceAdd, Nat.reduceMul, Nat.reduceSub, Nat.reduceLeDiff, Nat.reduceLT, Int.reduceLT, Int.reduceLE, Int.reduceEq, Int.reduceAdd, Int.reduceSub, Int.reduceNeg, Int.reduceToNat, List.mapM_cons, List.mapM_nil, Option.pure_def, Option.bind_eq_bind, eq_self, decide_true, decide_false, code132, p132_1, p132_2]
theorem nan133 (x : Int) (σ : St) : ev (tab hsS) 133 [.int .u32 x] σ = some (.bool false, σ) := by
  refine pure_ev (tab133 hsS) (snaps_cons rfl (snaps_nil _)) ?_
  simp (disch := first | omega | (simp only [rkl]; omega)) only [rk1, rk2, rk3, rk4, rk5, Arg.get, ret1, AV.cells, AV.isCell, addOff, minmaxL, Cap.room, Cap.cut, cutI, isSt, resultOf, Function.comp_apply, Function.comp_def, beq_self_eq_true, if_true, if_false, ite_true, ite_false, reduceCtorEq, bne_self_eq_false, Option.some.injEq, Prod.mk.injEq, ↓reduceIte, Nat.reduceEqDiff, Nat.reduceAdd, Nat.reduceMul, Nat.reduceSub, Nat.reduceLeDiff, Nat.reduceLT, Int.reduceLT, Int.reduceLE, Int.reduceEq, Int.reduceAdd, Int.reduceSub, Int.reduceNeg, Int.reduceToNat, List.mapM_cons, List.mapM_nil, Option.pure_def, Option.bind_eq_bind, eq_self, decide_true, decide_false, code133, p133_1, p133_2]
theorem cmp130 (x y : Int) (σ : St) : ev (tab hsS) 130 [.int .i64 x, .int .i64 y] σ = some (.int .i64 (cmpI x y), σ) := by
  refine pure_ev (tab130 hsS) (snaps_cons rfl (snaps_cons rfl (snaps_nil _))) ?_
  by_cases h1 : x < y
  · simp (disch := first | omega | (simp only [rkl]; omega)) only [rk1, rk2, rk3, rk4, rk5, Arg.get, ret1, AV.cells, AV.isCell, addOff, minmaxL, Cap.room, Cap.cut, cutI, isSt, resultOf, Function.comp_apply, Function.comp_def, beq_self_eq_true, if_true, if_false, ite_true, ite_false, reduceCtorEq, bne_self_eq_false, Option.some.injEq, Prod.mk.injEq, ↓reduceIte, Nat.reduceEqDiff, Nat.reduceAdd, Nat.reduceMul, Nat.reduceSub, Nat.reduceLeDiff, Nat.reduceLT, Int.reduceLT, Int.reduceLE, Int.reduceEq, Int.reduceAdd, Int.reduceSub, Int.reduceNeg, Int.reduceToNat, List.mapM_cons, List.mapM_nil, Option.pure_def, Option.bind_eq_bind, eq_self, decide_true, decide_false, code130, p130_1, p130_2, p130_3, p130_4, p130_8, p130_10, p130_11, nan132, h1, cmpI]
  · by_cases h2 : x > y
    · simp (disch := first | omega | (simp only [rkl]; omega)) only [rk1, rk2, rk3, rk4, rk5, Arg.get, ret1, AV.cells, AV.isCell, addOff, minmaxL, Cap.room, Cap.cut, cutI, isSt, resultOf, Function.comp_apply, Function.comp_def, beq_self_eq_true, if_true, if_false, ite_true, ite_false, reduceCtorEq, bne_self_eq_false, Option.some.injEq, Prod.mk.injEq, ↓reduceIte, Nat.reduceEqDiff, Nat.reduceAdd, Nat.reduceMul, Nat.reduceSub, Nat.reduceLeDiff, Nat.reduceLT, Int.reduceLT, Int.reduceLE, Int.reduceEq, Int.reduceAdd, Int.reduceSub, Int.reduceNeg, Int.reduceToNat, List.mapM_cons, List.mapM_nil, Option.pure_def, Option.bind_eq_bind, eq_self, decide_true, decide_false, code130, p130_1, p130_2, p130_3, p130_4, p130_8, p130_10, p130_12, p130_13, nan132, h1, h2, cmpI]
    · simp (disch := first | omega | (simp only [rkl]; omega)) only [rk1, rk2, rk3, rk4, rk5, Arg.get, ret1, AV.cells, AV.isCell, addOff, minmaxL, Cap.room, Cap.cut, cutI, isSt, resultOf, Function.comp_apply, Function.comp_def, beq_self_eq_true, if_true, if_false, ite_true, ite_false, reduceCtorEq, bne_self_eq_false, Option.some.injEq, Prod.mk.injEq, ↓reduceIte, Nat.reduceEqDiff, Nat.reduceAdd, Nat.reduceMul, Nat.reduceSub, Nat.reduceLeDiff, Nat.reduceLT, Int.reduceLT, Int.reduceLE, Int.reduceEq, Int.reduceAdd, Int.reduceSub, Int.reduceNeg, Int.reduceToNat, List.mapM_cons, List.mapM_nil, Option.pure_def, Option.bind_eq_bind, eq_self, decide_true, decide_false, code130, p130_1, p130_2, p130_3, p130_4, p130_8, p130_10, p130_12, p130_14, nan132, h1, h2, cmpI]
theorem cmp131 (x y : Int) (σ : St) : ev (tab hsS) 131 [.int .u32 x, .int .u32 y] σ = some (.int .i64 (cmpI x y), σ) := by
  refine pure_ev (tab131 hsS) (snaps_cons rfl (snaps_cons rfl (snaps_nil _))) ?_
  by_cases h1 : x < y
  · simp (disch := first | omega | (simp only [rkl]; omega)) only [rk1, rk2, rk3, rk4, rk5, Arg.get, ret1, AV.cells, AV.isCell, addOff, minmaxL, Cap.room, Cap.cut, cutI, isSt, resultOf, Function.comp_apply, Function.comp_def, beq_self_eq_true, if_true, if_false, ite_true, ite_false, reduceCtorEq, bne_self_eq_false, Option.some.injEq, Prod.mk.injEq, ↓reduceIte, Nat.reduceEqDiff, Nat.reduceAdd, Nat.reduceMul, Nat.reduceSub, Nat.reduceLeDiff, Nat.reduceLT, Int.reduceLT, Int.reduceLE, Int.reduceEq, Int.reduceAdd, Int.reduceSub, Int.reduceNeg, Int.reduceToNat, List.mapM_cons, List.mapM_nil, Option.pure_def, Option.bind_eq_bind, eq_self, decide_true, decide_false, code131, p131_1, p131_2, p131_3, p131_4, p131_8, p131_10, p131_11, nan133, h1, cmpI]
  · by_cases h2 : x > y
    · simp (disch := first | omega | (simp only [rkl]; omega)) only [rk1, rk2, rk3, rk4, rk5, Arg.get, ret1, AV.cells, AV.isCell, addOff, minmaxL, Cap.room, Cap.cut, cutI, isSt, resultOf, Function.comp_apply, Function.comp_def, beq_self_eq_true, if_true, if_false, ite_true, ite_false, reduceCtorEq, bne_self_eq_false, Option.some.injEq, Prod.mk.injEq, ↓reduceIte, Nat.reduceEqDiff, Nat.reduceAdd, Nat.reduceMul, Nat.reduceSub, Nat.reduceLeDiff, Nat.reduceLT, Int.reduceLT, Int.reduceLE, Int.reduceEq, Int.reduceAdd, Int.reduceSub, Int.reduceNeg, Int.reduceToNat, List.mapM_cons, List.mapM_nil, Option.pure_def, Option.bind_eq_bind, eq_self, decide_true, decide_false, code131, p131_1, p131_2, p131_3, p131_4, p131_8, p131_10, p131_12, p131_13, nan133, h1, h2, cmpI]
    · simp (disch := first | omega | (simp only [rkl]; omega)) only [rk1, rk2, rk3, rk4, rk5, Arg.get, ret1, AV.cells, AV.isCell, addOff, minmaxL, Cap.room, Cap.cut, cutI, isSt, resultOf, Function.comp_apply, Function.comp_def, beq_self_eq_true, if_true, if_false, ite_true, ite_false, reduceCtorEq, bne_self_eq_false, Option.some.injEq, Prod.mk.injEq, ↓reduceIte, Nat.reduceEqDiff, Nat.reduceAdd, Nat.reduceMul, Nat.reduceSub, Nat.reduceLeDiff, Nat.reduceLT, Int.reduceLT, Int.reduceLE, Int.reduceEq, Int.reduceAdd, Int.reduceSub, Int.reduceNeg, Int.reduceToNat, List.mapM_cons, List.mapM_nil, Option.pure_def, Option.bind_eq_bind, eq_self, decide_true, decide_false, code131, p131_1, p131_2, p131_3, p131_4, p131_8, p131_10, p131_12, p131_14, nan133, h1, h2, cmpI]

theorem or_pure (a b c : Int) : pureOf (run T) ⟨18, 1, code129, [.tmp 2], h⟩ [.isl true [.int .i64 a, .int .i64 b, .int .i64 c] 3 none] = some (.int .i64 (orI a b c)) := by
  have hep : ∀ (k : Nat), k < 3 → elemPtr 1 k (.isl true [.int .i64 a, .int .i64 b, .int .i64 c] 3 none) = some (.iptr true [.int .i64 a, .int .i64 b, .int .i64 c] k) := fun k hk => by rw [elemPtr_isl hk (by simp), Nat.mul_one]
  have h0 := hep 0 (by omega)
  have h1 := hep 1 (by omega)
  have h2 := hep 2 (by omega)
  simp (disch := first | omega | (simp only [rkl]; omega)) only [rk1, rk2, rk3, rk4, rk5, Arg.get, ret1, AV.cells, AV.isCell, addOff, minmaxL, Cap.room, Cap.cut, cutI, isSt, resultOf, Function.comp_apply, Function.comp_def, beq_self_eq_true, if_true, if_false, ite_true, ite_false, reduceCtorEq, bne_self_eq_false, Option.some.injEq, Prod.mk.injEq, ↓reduceIte, Nat.reduceEqDiff, Nat.reduceAdd, Nat.reduceMul, Nat.reduceSub, Nat.reduceLeDiff, Nat.reduceLT, Int.reduceLT, Int.reduceLE, Int.reduceEq, Int.reduceAdd, Int.reduceSub, Int.reduceNeg, Int.reduceToNat, List.mapM_cons, List.mapM_nil, Option.pure_def, Option.bind_eq_bind, eq_self, decide_true, decide_false, code129, p129_1, p129_2, p129_3]
  rw [run_loop]
  by_cases ha : a = 0
  · subst ha
    simp (disch := first | omega | (simp only [rkl]; omega)) only [rk1, rk2, rk3, rk4, rk5, Arg.get, ret1, AV.cells, AV.isCell, addOff, minmaxL, Cap.room, Cap.cut, cutI, isSt, resultOf, Function.comp_apply, Function.comp_def, beq_self_eq_true, if_true, if_false, ite_true, ite_false, reduceCtorEq, bne_self_eq_false, Option.some.injEq, Prod.mk.injEq, ↓reduceIte, Nat.reduceEqDiff, Nat.reduceAdd, Nat.reduceMul, Nat.reduceSub, Nat.reduceLeDiff, Nat.reduceLT, Int.reduceLT, Int.reduceLE, Int.reduceEq, Int.reduceAdd, Int.reduceSub, Int.reduceNeg, Int.reduceToNat, List.mapM_cons, List.mapM_nil, Option.pure_def, Option.bind_eq_bind, eq_self, decide_true, decide_false, l129_9, p129_4, p129_5, p129_6, p129_8, h0]
    rw [run_loop]
    by_cases hb : b = 0
    · subst hb
      simp (disch := first | omega | (simp only [rkl]; omega)) only [rk1, rk2, rk3, rk4, rk5, Arg.get, ret1, AV.cells, AV.isCell, addOff, minmaxL, Cap.room, Cap.cut, cutI, isSt, resultOf, Function.comp_apply, Function.comp_def, beq_self_eq_true, if_true, if_false, ite_true, ite_false, reduceCtorEq, bne_self_eq_false, Option.some.injEq, Prod.mk.injEq, ↓reduceIte, Nat.reduceEqDiff, Nat.reduceAdd, Nat.reduceMul, Nat.reduceSub, Nat.reduceLeDiff, Nat.reduceLT, Int.reduceLT, Int.reduceLE, Int.reduceEq, Int.reduceAdd, Int.reduceSub, Int.reduceNeg, Int.reduceToNat, List.mapM_cons, List.mapM_nil, Option.pure_def, Option.bind_eq_bind, eq_self, decide_true, decide_false, l129_9, p129_4, p129_5, p129_6, p129_8, h1]
      rw [run_loop]
      by_cases hc : c = 0
      · subst hc
        simp (disch := first | omega | (simp only [rkl]; omega)) only [rk1, rk2, rk3, rk4, rk5, Arg.get, ret1, AV.cells, AV.isCell, addOff, minmaxL, Cap.room, Cap.cut, cutI, isSt, resultOf, Function.comp_apply, Function.comp_def, beq_self_eq_true, if_true, if_false, ite_true, ite_false, reduceCtorEq, bne_self_eq_false, Option.some.injEq, Prod.mk.injEq, ↓reduceIte, Nat.reduceEqDiff, Nat.reduceAdd, Nat.reduceMul, Nat.reduceSub, Nat.reduceLeDiff, Nat.reduceLT, Int.reduceLT, Int.reduceLE, Int.reduceEq, Int.reduceAdd, Int.reduceSub, Int.reduceNeg, Int.reduceToNat, List.mapM_cons, List.mapM_nil, Option.pure_def, Option.bind_eq_bind, eq_self, decide_true, decide_false, l129_9, p129_4, p129_5, p129_6, p129_8, h2]
        rw [run_loop]
        simp (disch := first | omega | (simp only [rkl]; omega)) only [rk1, rk2, rk3, rk4, rk5, Arg.get, ret1, AV.cells, AV.isCell, addOff, minmaxL, Cap.room, Cap.cut, cutI, isSt, resultOf, Function.comp_apply, Function.comp_def, beq_self_eq_true, if_true, if_false, ite_true, ite_false, reduceCtorEq, bne_self_eq_false, Option.some.injEq, Prod.mk.injEq, ↓reduceIte, Nat.reduceEqDiff, Nat.reduceAdd, Nat.reduceMul, Nat.reduceSub, Nat.reduceLeDiff, Nat.reduceLT, Int.reduceLT, Int.reduceLE, Int.reduceEq, Int.reduceAdd, Int.reduceSub, Int.reduceNeg, Int.reduceToNat, List.mapM_cons, List.mapM_nil, Option.pure_def, Option.bind_eq_bind, eq_self, decide_true, decide_false, l129_9, p129_4, p129_10, orI]
      · simp (disch := first | omega | (simp only [rkl]; omega)) only [rk1, rk2, rk3, rk4, rk5, Arg.get, ret1, AV.cells, AV.isCell, addOff, minmaxL, Cap.room, Cap.cut, cutI, isSt, resultOf, Function.comp_apply, Function.comp_def, beq_self_eq_true, if_true, if_false, ite_true, ite_false, reduceCtorEq, bne_self_eq_false, Option.some.injEq, Prod.mk.injEq, ↓reduceIte, Nat.reduceEqDiff, Nat.reduceAdd, Nat.reduceMul, Nat.reduceSub, Nat.reduceLeDiff, Nat.reduceLT, Int.reduceLT, Int.reduceLE, Int.reduceEq, Int.reduceAdd, Int.reduceSub, Int.reduceNeg, Int.reduceToNat, List.mapM_cons, List.mapM_nil, Option.pure_def, Option.bind_eq_bind, eq_self, decide_true, decide_false, l129_9, p129_4, p129_5, p129_6, p129_7, h2, hc, orI]
    · simp (disch := first | omega | (simp only [rkl]; omega)) only [rk1, rk2, rk3, rk4, rk5, Arg.get, ret1, AV.cells, AV.isCell, addOff, minmaxL, Cap.room, Cap.cut, cutI, isSt, resultOf, Function.comp_apply, Function.comp_def, beq_self_eq_true, if_true, if_false, ite_true, ite_false, reduceCtorEq, bne_self_eq_false, Option.some.injEq, Prod.mk.injEq, ↓reduceIte, Nat.reduceEqDiff, Nat.reduceAdd, Nat.reduceMul, Nat.reduceSub, Nat.reduceLeDiff, Nat.reduceLT, Int.reduceLT, Int.reduceLE, Int.reduceEq, Int.reduceAdd, Int.reduceSub, Int.reduceNeg, Int.reduceToNat, List.mapM_cons, List.mapM_nil, Option.pure_def, Option.bind_eq_bind, eq_self, decide_true, decide_false, l129_9, p129_4, p129_5, p129_6, p129_7, h1, hb, orI]
  · simp (disch := first | omega | (simp only [rkl]; omega)) only [rk1, rk2, rk3, rk4, rk5, Arg.get, ret1, AV.cells, AV.isCell, addOff, minmaxL, Cap.room, Cap.cut, cutI, isSt, resultOf, Function.comp_apply, Function.comp_def, beq_self_eq_true, if_true, if_false, ite_true, ite_false, reduceCtorEq, bne_self_eq_false, Option.some.injEq, Prod.mk.injEq, ↓reduceIte, Nat.reduceEqDiff, Nat.reduceAdd, Nat.reduceMul, Nat.reduceSub, Nat.reduceLeDiff, Nat.reduceLT, Int.reduceLT, Int.reduceLE, Int.reduceEq, Int.reduceAdd, Int.reduceSub, Int.reduceNeg, Int.reduceToNat, List.mapM_cons, List.mapM_nil, Option.pure_def, Option.bind_eq_bind, eq_self, decide_true, decide_false, l129_9, p129_4, p129_5, p129_6, p129_7, h0, ha, orI]
end

theorem seq_d127_3 : drawSeq (tab hsS) d127_3 = true := rfl

theorem mapM_ex {α β : Type} {g : α → Option β} : ∀ {xs : List α}, (∀ x ∈ xs, ∃ y, g x = some y) → ∃ ys, xs.mapM g = some ys ∧ ys.length = xs.length ∧ ∀ (k : Nat) x y, xs[k]? = some x → g x = some y → ys[k]? = some y
  | [], _ => ⟨[], rfl, rfl, by simp⟩
  | x :: xs, h => by
    obtain ⟨y, hy⟩ := h x (by simp)
    obtain ⟨ys, h1, h2, h3⟩ := mapM_ex (xs := xs) fun z hz => h z (by simp [hz])
    refine ⟨y :: ys, by rw [List.mapM_cons, hy, h1]; rfl, by simp [h2], fun k a b ha hb => ?_⟩
    cases k with
    | zero => simp only [List.getElem?_cons_zero, Option.some.injEq] at ha; subst ha; rw [hy] at hb; simpa using hb
    | succ k => simpa using h3 k a b (by simpa using ha) hb

theorem less_pure {ps : List AV} {n : Nat} (hn : ps.length = n) (hn2 : n < 2 ^ 40) {i j : Nat} (hi : i < n) (hj : j < n) {a b : Ky} {ai bi : Int} (pi : ps[i]? = some (.iptr true (thc a ai) 0)) (pj : ps[j]? = some (.iptr true (thc b bi) 0)) {h : Hint} :
    pureOf (run (tab hsS)) ⟨51, 3, code127, [.tmp 6], h⟩ [.isl true ps n none, .int .i64 i, .int .i64 j] = some (.bool (ltK a b)) := by
  have hpi : Vm.part false 1 i ps = some (.iptr true (thc a ai) 0) := by rw [part_one (by omega), pi]
  have hpj : Vm.part false 1 j ps = some (.iptr true (thc b bi) 0) := by rw [part_one (by omega), pj]
  have hep : ∀ (k : Nat), k < n → elemPtr 1 k (.isl true ps n none) = some (.iptr true ps k) := fun k hk => by rw [elemPtr_isl hk (by omega), Nat.mul_one]
  have hei := hep i hi
  have hej := hep j hj
  have hnc : ∀ (s : St) (x y z : Int), newCells s [.int .i64 x, .int .i64 y, .int .i64 z] = some (⟨s.next, 0, 0⟩, s.new [.int .i64 x, .int .i64 y, .int .i64 z]) := fun s x y z => newCells_ok rfl
  have hfv : ∀ (x y z : Int), fillV [.int .i64 0, .int .i64 0, .int .i64 0] [(0, 1, [.int .i64 x]), (1, 1, [.int .i64 y]), (2, 1, [.int .i64 z])] = some [.int .i64 x, .int .i64 y, .int .i64 z] := fun x y z => rfl
  have hor : ∀ (s : St) (x y z : Int), ev (tab hsS) 129 [.sl ⟨s.next, 0, 0⟩ 0 3 (.ex 3) 1] (s.new [.int .i64 x, .int .i64 y, .int .i64 z]) = some (.int .i64 (orI x y z), s.new [.int .i64 x, .int .i64 y, .int .i64 z]) := fun s x y z =>
    pure_ev (tab129 hsS) (snaps_cons (y := .isl true [.int .i64 x, .int .i64 y, .int .i64 z] 3 none) (by simp (disch := first | omega | (simp only [rkl]; omega)) only [rk1, rk2, rk3, rk4, rk5, Arg.get, ret1, AV.cells, AV.isCell, addOff, minmaxL, Cap.room, Cap.cut, cutI, isSt, resultOf, Function.comp_apply, Function.comp_def, beq_self_eq_true, if_true, if_false, ite_true, ite_false, reduceCtorEq, bne_self_eq_false, Option.some.injEq, Prod.mk.injEq, ↓reduceIte, Nat.reduceEqDiff, Nat.reduceAdd, Nat.reduceMul, Nat.reduceSub, Nat.reduceLeDiff, Nat.reduceLT, Int.reduceLT, Int.reduceLE, Int.reduceEq, Int.reduceAdd, Int.reduceSub, Int.reduceNeg, Int.reduceToNat, List.mapM_cons, List.mapM_nil, Option.pure_def, Option.bind_eq_bind, eq_self, decide_true, decide_false]) (snaps_nil _)) (or_pure x y z)
  have hor0 := hor emptySt
  rw [next_empty] at hor0
  simp (disch := first | omega | (simp only [rkl]; omega)) only [rk1, rk2, rk3, rk4, rk5, Arg.get, ret1, AV.cells, AV.isCell, addOff, minmaxL, Cap.room, Cap.cut, cutI, isSt, resultOf, Function.comp_apply, Function.comp_def, beq_self_eq_true, if_true, if_false, ite_true, ite_false, reduceCtorEq, bne_self_eq_false, Option.some.injEq, Prod.mk.injEq, ↓reduceIte, Nat.reduceEqDiff, Nat.reduceAdd, Nat.reduceMul, Nat.reduceSub, Nat.reduceLeDiff, Nat.reduceLT, Int.reduceLT, Int.reduceLE, Int.reduceEq, Int.reduceAdd, Int.reduceSub, Int.reduceNeg, Int.reduceToNat, List.mapM_cons, List.mapM_nil, Option.pure_def, Option.bind_eq_bind, eq_self, decide_true, decide_false, code127, p127_1]
  rw [drawn (seq_d127_2 _)]
  simp (disch := first | omega | (simp only [rkl]; omega)) only [rk1, rk2, rk3, rk4, rk5, Arg.get, ret1, AV.cells, AV.isCell, addOff, minmaxL, Cap.room, Cap.cut, cutI, isSt, resultOf, Function.comp_apply, Function.comp_def, beq_self_eq_true, if_true, if_false, ite_true, ite_false, reduceCtorEq, bne_self_eq_false, Option.some.injEq, Prod.mk.injEq, ↓reduceIte, Nat.reduceEqDiff, Nat.reduceAdd, Nat.reduceMul, Nat.reduceSub, Nat.reduceLeDiff, Nat.reduceLT, Int.reduceLT, Int.reduceLE, Int.reduceEq, Int.reduceAdd, Int.reduceSub, Int.reduceNeg, Int.reduceToNat, List.mapM_cons, List.mapM_nil, Option.pure_def, Option.bind_eq_bind, eq_self, decide_true, decide_false, d127_2, hei, hej, hpi, hpj]
  rw [drawn seq_d127_3]
  simp (disch := first | omega | (simp only [rkl]; omega)) only [rk1, rk2, rk3, rk4, rk5, Arg.get, ret1, AV.cells, AV.isCell, addOff, minmaxL, Cap.room, Cap.cut, cutI, isSt, resultOf, Function.comp_apply, Function.comp_def, beq_self_eq_true, if_true, if_false, ite_true, ite_false, reduceCtorEq, bne_self_eq_false, Option.some.injEq, Prod.mk.injEq, ↓reduceIte, Nat.reduceEqDiff, Nat.reduceAdd, Nat.reduceMul, Nat.reduceSub, Nat.reduceLeDiff, Nat.reduceLT, Int.reduceLT, Int.reduceLE, Int.reduceEq, Int.reduceAdd, Int.reduceSub, Int.reduceNeg, Int.reduceToNat, List.mapM_cons, List.mapM_nil, Option.pure_def, Option.bind_eq_bind, eq_self, decide_true, decide_false, d127_3, thc, cmp130, cmp131, hnc, hfv, hor0]
  rfl
/-
  THE SHELF: the heap where it stands: two change places.
-/

instance : Inhabited Vm.Id := ⟨⟨0, 0, 0⟩⟩

/-- Only some blocks are other. -/
structure Only (σ σ' : St) (F : Vm.Id → Prop) : Prop where
  next : σ'.next = σ.next
  ver : σ'.ver = σ.ver
  heap : ∀ q, ¬ F q → σ'.heap q = σ.heap q

theorem Only.refl (σ : St) (F : Vm.Id → Prop) : Only σ σ F := ⟨rfl, rfl, fun _ _ => rfl⟩
theorem Only.trans {σ σ' σ'' : St} {F : Vm.Id → Prop} (h : Only σ σ' F) (h' : Only σ' σ'' F) : Only σ σ'' F :=
  ⟨h'.next.trans h.next, h'.ver.trans h.ver, fun q hq => (h'.heap q hq).trans (h.heap q hq)⟩
theorem Only.weak {σ σ' : St} {F G : Vm.Id → Prop} (h : Only σ σ' F) (hw : ∀ q, F q → G q) : Only σ σ' G := ⟨h.next, h.ver, fun q hq => h.heap q fun hf => hq (hw q hf)⟩
theorem Only.get {σ σ' : St} {F : Vm.Id → Prop} (h : Only σ σ' F) {q : Vm.Id} (hq : ¬ F q) : σ'.get q = σ.get q := by simp only [St.get, h.heap q hq]

def ptrs (H : List Vm.Id) : List AV := H.map fun x => .ptr x 0

/-- The heap, and the shelf's own block (its last cell says where the heap lies). -/
structure Hq (σ : St) (S B : Vm.Id) (b z m : AV) (cap : Cap) (junk : List AV) (H : List Vm.Id) (f : Vm.Id → Ky) : Prop where
  hs : σ.get S = some [b, z, m, .sl B 0 H.length cap 1]
  hb : σ.get B = some (ptrs H ++ junk)
  ht : ∀ k, k < H.length → σ.get (at_ H k) = some (thc (f (at_ H k)) k)
  nd : H.Nodup
  sb : S ≠ B
  sh : S ∉ H
  bh : B ∉ H
  few : H.length < 2 ^ 40

theorem at_mem {H : List Vm.Id} {k : Nat} (h : k < H.length) : at_ H k ∈ H := by rw [at_get h]; exact List.getElem_mem h
theorem at_inj {H : List Vm.Id} (nd : H.Nodup) {i j : Nat} (hi : i < H.length) (hj : j < H.length) (h : at_ H i = at_ H j) : i = j := by
  rw [at_get hi, at_get hj] at h
  have p := List.pairwise_iff_getElem.1 nd
  rcases Nat.lt_trichotomy i j with h1 | h1 | h1
  · exact absurd h (p i j hi hj h1)
  · exact h1
  · exact absurd h.symm (p j i hj hi h1)
theorem ptrs_len (H : List Vm.Id) : (ptrs H).length = H.length := by simp [ptrs]
theorem ptrs_at {H : List Vm.Id} {junk : List AV} {k : Nat} (h : k < H.length) : (ptrs H ++ junk)[k]? = some (.ptr (at_ H k) 0) := by
  rw [List.getElem?_append_left (by simpa [ptrs] using h), ptrs, List.getElem?_map, at_eq h]; rfl
theorem ptrs_part {H : List Vm.Id} {junk : List AV} {k : Nat} (h : k < H.length) : Vm.part false 1 k (ptrs H ++ junk) = some (.ptr (at_ H k) 0) := by
  rw [part_one (by simp [ptrs]; omega), ptrs_at h]
theorem ptrs_set {H : List Vm.Id} {junk : List AV} {k : Nat} (h : k < H.length) (x : Vm.Id) : (ptrs H ++ junk).set k (.ptr x 0) = ptrs (H.set k x) ++ junk := by
  rw [List.set_append_left _ _ (by simpa [ptrs] using h), ptrs, ptrs, List.map_set]

def invV (E : CallH) (σ : St) (tbl : List (TypeId × (Option (Bool × Nat) × FuncId))) (v : AV) (xs : List AV) : Option (AV × St) :=
  match v with
  | .iface t v => match tbl.lookup t with | some (d, f) => (recv σ d v).bind fun r => E f (r :: xs) σ | none => none
  | _ => none
theorem ev_invoke (E : CallH) (ρ : Env) (σ : St) (tbl : List (TypeId × (Option (Bool × Nat) × FuncId))) (x : Arg) (args : List Arg) : Ins.ev E ρ σ (.invoke tbl x args) = invV E σ tbl (x.get ρ) (args.map (Arg.get ρ)) := rfl

abbrev tLen : List (TypeId × (Option (Bool × Nat) × FuncId)) := [(17, (none, 122)), (60, (none, 46)), (124, (none, 126)), (131, (some (false, 1), 126))]
abbrev tLess : List (TypeId × (Option (Bool × Nat) × FuncId)) := [(124, (none, 127)), (131, (some (false, 1), 127))]
abbrev tSwap : List (TypeId × (Option (Bool × Nat) × FuncId)) := [(124, (none, 128)), (131, (some (false, 1), 128))]

theorem inv_at {E : CallH} {σ : St} {S : Vm.Id} {b z m c : AV} (hs : σ.get S = some [b, z, m, c]) {tbl : List (TypeId × (Option (Bool × Nat) × FuncId))} {f : FuncId} (ht : tbl.lookup 131 = some (some (false, 1), f)) (xs : List AV) :
    invV E σ tbl (.iface 131 (.ptr S 3)) xs = E f (c :: xs) σ := by
  simp only [invV, ht, recv, loadAt, hs]
  rfl

section
variable {σ : St} {S B : Vm.Id} {b z m : AV} {cap : Cap} {junk : List AV} {H : List Vm.Id} {f : Vm.Id → Ky} (Q : Hq σ S B b z m cap junk H f)
include Q

theorem Hq.snap : ∃ ps, snap σ 7 (.sl B 0 H.length cap 1) = some (.isl true ps H.length none) ∧ ps.length = H.length ∧ ∀ k, k < H.length → ps[k]? = some (.iptr true (thc (f (at_ H k)) k) 0) := by
  have one : ∀ k, k < H.length → Vm.snap σ 6 (.ptr (at_ H k) 0) = some (.iptr true (thc (f (at_ H k)) k) 0) := fun k hk => by
    rw [snap_ptr, Q.ht k hk]; rfl
  obtain ⟨ps, h1, h2, h3⟩ := mapM_ex (g := Vm.snap σ 6) (xs := ptrs H) fun x hx => by
    simp only [ptrs, List.mem_map] at hx
    obtain ⟨y, hy, rfl⟩ := hx
    obtain ⟨k, hk, rfl⟩ := List.getElem_of_mem hy
    exact ⟨_, by rw [← at_get hk]; exact one k hk⟩
  refine ⟨ps, ?_, by rw [h2, ptrs_len], fun k hk => h3 k _ _ ?_ (one k hk)⟩
  · rw [snap_sl, Q.hb]
    simp only [Option.bind_some, List.drop_zero, Nat.zero_add, Nat.mul_one]
    rw [if_pos (by simp [ptrs]), List.take_left' (ptrs_len H), h1]; rfl
  · have := ptrs_at (H := H) (junk := []) hk
    simpa using this

theorem inv_len : invV (ev (tab hsS)) σ tLen (.iface 131 (.ptr S 3)) [] = some (.int .i64 H.length, σ) := by
  obtain ⟨ps, h1, h2, h3⟩ := Q.snap
  rw [inv_at Q.hs rfl]
  refine pure_ev (tab126 hsS) (snaps_cons h1 (snaps_nil _)) ?_
  simp (disch := first | omega | (simp only [rkl]; omega)) only [rk1, rk2, rk3, rk4, rk5, Arg.get, ret1, AV.cells, AV.isCell, addOff, minmaxL, Cap.room, Cap.cut, cutI, isSt, resultOf, Function.comp_apply, Function.comp_def, beq_self_eq_true, if_true, if_false, ite_true, ite_false, reduceCtorEq, bne_self_eq_false, Option.some.injEq, Prod.mk.injEq, ↓reduceIte, Nat.reduceEqDiff, Nat.reduceAdd, Nat.reduceMul, Nat.reduceSub, Nat.reduceLeDiff, Nat.reduceLT, Int.reduceLT, Int.reduceLE, Int.reduceEq, Int.reduceAdd, Int.reduceSub, Int.reduceNeg, Int.reduceToNat, List.mapM_cons, List.mapM_nil, Option.pure_def, Option.bind_eq_bind, eq_self, decide_true, decide_false, code126, p126_1, p126_2]

theorem inv_less {i j : Nat} (hi : i < H.length) (hj : j < H.length) : invV (ev (tab hsS)) σ tLess (.iface 131 (.ptr S 3)) [.int .i64 i, .int .i64 j] = some (.bool (ltK (f (at_ H i)) (f (at_ H j))), σ) := by
  obtain ⟨ps, h1, h2, h3⟩ := Q.snap
  rw [inv_at Q.hs rfl]
  exact pure_ev (tab127 hsS) (snaps_cons h1 (snaps_cons rfl (snaps_cons rfl (snaps_nil _)))) (less_pure h2 Q.few hi hj (h3 i hi) (h3 j hj))

theorem inv_swap {i j : Nat} (hi : i < H.length) (hj : j < H.length) (hij : i ≠ j) : ∃ σ', invV (ev (tab hsS)) σ tSwap (.iface 131 (.ptr S 3)) [.int .i64 i, .int .i64 j] = some (.tup [], σ') ∧ Hq σ' S B b z m cap junk (sw H i j) f ∧ Only σ σ' (fun q => q = B ∨ q ∈ H) := by
  have hx := at_mem hi
  have hy := at_mem hj
  have hxy : at_ H i ≠ at_ H j := fun e => hij (at_inj Q.nd hi hj e)
  have xB : at_ H i ≠ B := fun e => Q.bh (e ▸ hx)
  have yB : at_ H j ≠ B := fun e => Q.bh (e ▸ hy)
  have ei : elemPtr 1 i (.sl B 0 H.length cap 1) = some (.ptr B i) := by rw [elemPtr_sl hi]; simp
  have ej : elemPtr 1 j (.sl B 0 H.length cap 1) = some (.ptr B j) := by rw [elemPtr_sl hj]; simp
  have gx := Q.ht i hi
  have gy := Q.ht j hj
  have pi := ptrs_part (H := H) (junk := junk) hi
  have pj := ptrs_part (H := H) (junk := junk) hj
  have hlen : (ptrs H ++ junk).length = H.length + junk.length := by simp [ptrs]
  have t1 : storeAt σ 1 (.ptr B i) (.ptr (at_ H j) 0) = some (σ.set B (some (.cells (ptrs (H.set i (at_ H j)) ++ junk)))) := by
    rw [store_one Q.hb (by omega) (by simp) rfl, ptrs_set hi]
  have t2 : storeAt (σ.set B (some (.cells (ptrs (H.set i (at_ H j)) ++ junk)))) 1 (.ptr B j) (.ptr (at_ H i) 0) = some (σ.set B (some (.cells (ptrs (sw H i j) ++ junk)))) := by
    rw [store_one (get_set_same _ _ _) (by simp [ptrs]; omega) (by simp) rfl, ptrs_set (by simpa using hj)]
    simp [sw]
  have hs' := fun k => at_sw hi hj k
  have si : at_ (sw H i j) i = at_ H j := by rw [hs']; simp [tr, hij]
  have sj : at_ (sw H i j) j = at_ H i := by rw [hs']; simp [tr]
  have g1B : (σ.set B (some (.cells (ptrs (sw H i j) ++ junk)))).get B = some (ptrs (sw H i j) ++ junk) := get_set_same _ _ _
  have g1 : ∀ q, q ≠ B → (σ.set B (some (.cells (ptrs (sw H i j) ++ junk)))).get q = σ.get q := fun q hq => by rw [get_set, if_neg hq]
  have hB1 : ∀ q, q ≠ B → (σ.set B (some (.cells (ptrs (sw H i j) ++ junk)))).heap q = σ.heap q := fun q hq => by simp [St.set, hq]
  have n1 : (σ.set B (some (.cells (ptrs (sw H i j) ++ junk)))).next = σ.next := rfl
  have v1 : (σ.set B (some (.cells (ptrs (sw H i j) ++ junk)))).ver = σ.ver := rfl
  have qi := ptrs_part (H := sw H i j) (junk := junk) (k := i) (by simpa using hi)
  have qj := ptrs_part (H := sw H i j) (junk := junk) (k := j) (by simpa using hj)
  rw [si] at qi
  rw [sj] at qj
  have hQ : ev (tab hsS) 128 [.sl B 0 H.length cap 1, .int .i64 i, .int .i64 j] σ = some (.tup [], ((σ.set B (some (.cells (ptrs (sw H i j) ++ junk)))).set (at_ H j) (some (.cells (thc (f (at_ H j)) i)))).set (at_ H i) (some (.cells (thc (f (at_ H i)) j)))) := by
    rw [ev_raw (tab128 hsS)]
    simp (disch := first | omega | (simp only [rkl]; omega)) only [rk1, rk2, rk3, rk4, rk5, Arg.get, ret1, AV.cells, AV.isCell, addOff, minmaxL, Cap.room, Cap.cut, cutI, isSt, resultOf, Function.comp_apply, Function.comp_def, beq_self_eq_true, if_true, if_false, ite_true, ite_false, reduceCtorEq, bne_self_eq_false, Option.some.injEq, Prod.mk.injEq, ↓reduceIte, Nat.reduceEqDiff, Nat.reduceAdd, Nat.reduceMul, Nat.reduceSub, Nat.reduceLeDiff, Nat.reduceLT, Int.reduceLT, Int.reduceLE, Int.reduceEq, Int.reduceAdd, Int.reduceSub, Int.reduceNeg, Int.reduceToNat, List.mapM_cons, List.mapM_nil, Option.pure_def, Option.bind_eq_bind, eq_self, decide_true, decide_false, code128]
    rw [drawn (seq_d128_1 _)]
    simp (disch := first | omega | (simp only [rkl]; omega)) only [rk1, rk2, rk3, rk4, rk5, Arg.get, ret1, AV.cells, AV.isCell, addOff, minmaxL, Cap.room, Cap.cut, cutI, isSt, resultOf, Function.comp_apply, Function.comp_def, beq_self_eq_true, if_true, if_false, ite_true, ite_false, reduceCtorEq, bne_self_eq_false, Option.some.injEq, Prod.mk.injEq, ↓reduceIte, Nat.reduceEqDiff, Nat.reduceAdd, Nat.reduceMul, Nat.reduceSub, Nat.reduceLeDiff, Nat.reduceLT, Int.reduceLT, Int.reduceLE, Int.reduceEq, Int.reduceAdd, Int.reduceSub, Int.reduceNeg, Int.reduceToNat, List.mapM_cons, List.mapM_nil, Option.pure_def, Option.bind_eq_bind, eq_self, decide_true, decide_false, d128_1, ei, ej, Q.hb, pi, pj, t1, t2]
    rw [drawn (seq_d128_2 _)]
    generalize σ.set B (some (.cells (ptrs (sw H i j) ++ junk))) = s1 at g1B g1
    have gx1 := (g1 _ xB).trans gx
    have gy1 := (g1 _ yB).trans gy
    have u1 : storeAt s1 1 (.ptr (at_ H j) 4) (.int .i64 i) = some (s1.set (at_ H j) (some (.cells (thc (f (at_ H j)) i)))) := by rw [store_one gy1 (by simp [thc]) (by simp) rfl]; rfl
    have gx2 : (s1.set (at_ H j) (some (.cells (thc (f (at_ H j)) i)))).get (at_ H i) = some (thc (f (at_ H i)) i) := by rw [get_set, if_neg hxy]; exact gx1
    have u2 : storeAt (s1.set (at_ H j) (some (.cells (thc (f (at_ H j)) i)))) 1 (.ptr (at_ H i) 4) (.int .i64 j) = some ((s1.set (at_ H j) (some (.cells (thc (f (at_ H j)) i)))).set (at_ H i) (some (.cells (thc (f (at_ H i)) j)))) := by rw [store_one gx2 (by simp [thc]) (by simp) rfl]; rfl
    simp (disch := first | omega | (simp only [rkl]; omega)) only [rk1, rk2, rk3, rk4, rk5, Arg.get, ret1, AV.cells, AV.isCell, addOff, minmaxL, Cap.room, Cap.cut, cutI, isSt, resultOf, Function.comp_apply, Function.comp_def, beq_self_eq_true, if_true, if_false, ite_true, ite_false, reduceCtorEq, bne_self_eq_false, Option.some.injEq, Prod.mk.injEq, ↓reduceIte, Nat.reduceEqDiff, Nat.reduceAdd, Nat.reduceMul, Nat.reduceSub, Nat.reduceLeDiff, Nat.reduceLT, Int.reduceLT, Int.reduceLE, Int.reduceEq, Int.reduceAdd, Int.reduceSub, Int.reduceNeg, Int.reduceToNat, List.mapM_cons, List.mapM_nil, Option.pure_def, Option.bind_eq_bind, eq_self, decide_true, decide_false, d128_2, ei, ej, g1B, qi, qj, u1, u2]
  refine ⟨_, (inv_at Q.hs rfl _).trans hQ, ⟨?_, ?_, fun k hk => ?_, (sw_perm hi hj).nodup_iff.2 Q.nd, Q.sb, fun h => Q.sh ((sw_perm hi hj).mem_iff.1 h), fun h => Q.bh ((sw_perm hi hj).mem_iff.1 h), by simpa using Q.few⟩, ⟨rfl, rfl, fun q hq => ?_⟩⟩
  · have a1 : S ≠ at_ H i := fun e => Q.sh (e ▸ hx)
    have a2 : S ≠ at_ H j := fun e => Q.sh (e ▸ hy)
    rw [get_set, if_neg a1, get_set, if_neg a2, g1 _ Q.sb, Q.hs, sw_len]
  · rw [get_set, if_neg xB.symm, get_set, if_neg yB.symm, g1B]
  · have hk' : k < H.length := by simpa using hk
    by_cases e1 : k = j
    · subst e1
      rw [sj, get_set_same]
    · by_cases e2 : k = i
      · subst e2
        rw [si, get_set, if_neg hxy.symm, get_set_same]
      · have ek : at_ (sw H i j) k = at_ H k := by rw [hs']; simp [tr, e1, e2]
        have b1 : at_ H k ≠ at_ H i := fun e => e2 (at_inj Q.nd hk' hi e)
        have b2 : at_ H k ≠ at_ H j := fun e => e1 (at_inj Q.nd hk' hj e)
        rw [ek, get_set, if_neg b1, get_set, if_neg b2, g1 _ (fun e => Q.bh (e ▸ at_mem hk'))]
        exact Q.ht k hk'
  · have c1 : q ≠ B := fun e => hq (.inl e)
    have c2 : q ≠ at_ H i := fun e => hq (.inr (e ▸ hx))
    have c3 : q ≠ at_ H j := fun e => hq (.inr (e ▸ hy))
    simp [St.set, c1, c2, c3]
end
/-
  THE SHELF: sifting up and down.
-/

section
variable {S B : Vm.Id} {b z m : AV} {cap : Cap} {junk : List AV} {f : Vm.Id → Ky}

abbrev HF (B : Vm.Id) (H : List Vm.Id) : Vm.Id → Prop := fun q => q = B ∨ q ∈ H

theorem up_run : ∀ (j : Nat) {H : List Vm.Id} {σ : St} {ρ : Env}, Hq σ S B b z m cap junk H f → j < H.length → ρ 0 = .iface 131 (.ptr S 3) → ρ 1 = .int .i64 j →
    ∃ ρ' σ', run (tab hsS) (.loop l101_5) ρ σ = some (.exit 0, ρ', σ') ∧ Hq σ' S B b z m cap junk (upL ltK f H j) f ∧ Only σ σ' (HF B H) := by
  intro j
  induction j using Nat.strongRecOn with
  | _ j ih =>
    intro H σ ρ Q hj r0 r1
    have few := Q.few
    rw [upL]
    by_cases h0 : j = 0
    · subst h0
      rw [if_neg (by simp), run_loop]
      have ht : IntKind.i64.wrap ((((0 : Nat) : Int) - 1).tdiv 2) = ((0 : Nat) : Int) := by decide
      simp (disch := first | omega | (simp only [rkl]; omega)) only [rk1, rk2, rk3, rk4, rk5, Arg.get, ret1, AV.cells, AV.isCell, addOff, minmaxL, Cap.room, Cap.cut, cutI, isSt, resultOf, Function.comp_apply, Function.comp_def, beq_self_eq_true, if_true, if_false, ite_true, ite_false, reduceCtorEq, bne_self_eq_false, Option.some.injEq, Prod.mk.injEq, ↓reduceIte, Nat.reduceEqDiff, Nat.reduceAdd, Nat.reduceMul, Nat.reduceSub, Nat.reduceLeDiff, Nat.reduceLT, Int.reduceLT, Int.reduceLE, Int.reduceEq, Int.reduceAdd, Int.reduceSub, Int.reduceNeg, Int.reduceToNat, List.mapM_cons, List.mapM_nil, Option.pure_def, Option.bind_eq_bind, eq_self, decide_true, decide_false, l101_5, p101_1, p101_2, r0, r1, ht]
      exact ⟨_, _, ⟨rfl, rfl⟩, Q, .refl _ _⟩
    · have hp : (j - 1) / 2 < j := by omega
      have ht : ((j : Int) - 1).tdiv 2 = ((j - 1) / 2 : Nat) := by
        rw [Int.tdiv_eq_ediv_of_nonneg (by omega)]; omega
      have hne : ¬ (((j - 1) / 2 : Nat) : Int) = (j : Int) := by omega
      generalize hpp : (j - 1) / 2 = p at *
      have el := inv_less Q hj (show p < H.length by omega)
      by_cases hlt : ltK (f (at_ H j)) (f (at_ H p)) = true
      · rw [if_pos ⟨by omega, hlt⟩]
        rw [hlt] at el
        obtain ⟨σ1, e1, Q1, o1⟩ := inv_swap Q (show p < H.length by omega) hj (by omega)
        have hround : ∃ ρ1, run (tab hsS) l101_5 ρ σ = some (.normal, ρ1, σ1) ∧ ρ1 0 = ρ 0 ∧ ρ1 1 = .int .i64 p := by
          simp (disch := first | omega | (simp only [rkl]; omega)) only [rk1, rk2, rk3, rk4, rk5, Arg.get, ret1, AV.cells, AV.isCell, addOff, minmaxL, Cap.room, Cap.cut, cutI, isSt, resultOf, Function.comp_apply, Function.comp_def, beq_self_eq_true, if_true, if_false, ite_true, ite_false, reduceCtorEq, bne_self_eq_false, Option.some.injEq, Prod.mk.injEq, ↓reduceIte, Nat.reduceEqDiff, Nat.reduceAdd, Nat.reduceMul, Nat.reduceSub, Nat.reduceLeDiff, Nat.reduceLT, Int.reduceLT, Int.reduceLE, Int.reduceEq, Int.reduceAdd, Int.reduceSub, Int.reduceNeg, Int.reduceToNat, List.mapM_cons, List.mapM_nil, Option.pure_def, Option.bind_eq_bind, eq_self, decide_true, decide_false, l101_5, p101_1, p101_2, p101_3, p101_4, r0, r1, ht, hne, ev_invoke, el, e1]
          exact ⟨_, rfl, by simp (disch := first | omega | (simp only [rkl]; omega)) only [rk1, rk2, rk3, rk4, rk5, Arg.get, ret1, AV.cells, AV.isCell, addOff, minmaxL, Cap.room, Cap.cut, cutI, isSt, resultOf, Function.comp_apply, Function.comp_def, beq_self_eq_true, if_true, if_false, ite_true, ite_false, reduceCtorEq, bne_self_eq_false, Option.some.injEq, Prod.mk.injEq, ↓reduceIte, Nat.reduceEqDiff, Nat.reduceAdd, Nat.reduceMul, Nat.reduceSub, Nat.reduceLeDiff, Nat.reduceLT, Int.reduceLT, Int.reduceLE, Int.reduceEq, Int.reduceAdd, Int.reduceSub, Int.reduceNeg, Int.reduceToNat, List.mapM_cons, List.mapM_nil, Option.pure_def, Option.bind_eq_bind, eq_self, decide_true, decide_false, r0], by simp (disch := first | omega | (simp only [rkl]; omega)) only [rk1, rk2, rk3, rk4, rk5, Arg.get, ret1, AV.cells, AV.isCell, addOff, minmaxL, Cap.room, Cap.cut, cutI, isSt, resultOf, Function.comp_apply, Function.comp_def, beq_self_eq_true, if_true, if_false, ite_true, ite_false, reduceCtorEq, bne_self_eq_false, Option.some.injEq, Prod.mk.injEq, ↓reduceIte, Nat.reduceEqDiff, Nat.reduceAdd, Nat.reduceMul, Nat.reduceSub, Nat.reduceLeDiff, Nat.reduceLT, Int.reduceLT, Int.reduceLE, Int.reduceEq, Int.reduceAdd, Int.reduceSub, Int.reduceNeg, Int.reduceToNat, List.mapM_cons, List.mapM_nil, Option.pure_def, Option.bind_eq_bind, eq_self, decide_true, decide_false]⟩
        obtain ⟨ρ1, hr, q0, q1⟩ := hround
        rw [run_loop, hr]
        obtain ⟨ρ2, σ2, hr2, Q2, o2⟩ := ih p hp Q1 (by simp; omega) (q0.trans r0) q1
        refine ⟨ρ2, σ2, by simp (disch := first | omega | (simp only [rkl]; omega)) only [rk1, rk2, rk3, rk4, rk5, Arg.get, ret1, AV.cells, AV.isCell, addOff, minmaxL, Cap.room, Cap.cut, cutI, isSt, resultOf, Function.comp_apply, Function.comp_def, beq_self_eq_true, if_true, if_false, ite_true, ite_false, reduceCtorEq, bne_self_eq_false, Option.some.injEq, Prod.mk.injEq, ↓reduceIte, Nat.reduceEqDiff, Nat.reduceAdd, Nat.reduceMul, Nat.reduceSub, Nat.reduceLeDiff, Nat.reduceLT, Int.reduceLT, Int.reduceLE, Int.reduceEq, Int.reduceAdd, Int.reduceSub, Int.reduceNeg, Int.reduceToNat, List.mapM_cons, List.mapM_nil, Option.pure_def, Option.bind_eq_bind, eq_self, decide_true, decide_false]; exact hr2, Q2, o1.trans (o2.weak fun q hq => ?_)⟩
        rcases hq with hq | hq
        · exact .inl hq
        · exact .inr ((sw_perm (by omega) hj).mem_iff.1 hq)
      · rw [if_neg (fun h => hlt h.2), run_loop]
        have hlt : ltK (f (at_ H j)) (f (at_ H p)) = false := by simpa using hlt
        rw [hlt] at el
        simp (disch := first | omega | (simp only [rkl]; omega)) only [rk1, rk2, rk3, rk4, rk5, Arg.get, ret1, AV.cells, AV.isCell, addOff, minmaxL, Cap.room, Cap.cut, cutI, isSt, resultOf, Function.comp_apply, Function.comp_def, beq_self_eq_true, if_true, if_false, ite_true, ite_false, reduceCtorEq, bne_self_eq_false, Option.some.injEq, Prod.mk.injEq, ↓reduceIte, Nat.reduceEqDiff, Nat.reduceAdd, Nat.reduceMul, Nat.reduceSub, Nat.reduceLeDiff, Nat.reduceLT, Int.reduceLT, Int.reduceLE, Int.reduceEq, Int.reduceAdd, Int.reduceSub, Int.reduceNeg, Int.reduceToNat, List.mapM_cons, List.mapM_nil, Option.pure_def, Option.bind_eq_bind, eq_self, decide_true, decide_false, l101_5, p101_1, p101_2, r0, r1, ht, hne, ev_invoke, el]
        exact ⟨_, _, ⟨rfl, rfl⟩, Q, .refl _ _⟩

theorem up_ev {j : Nat} {H : List Vm.Id} {σ : St} (Q : Hq σ S B b z m cap junk H f) (hj : j < H.length) :
    ∃ σ', ev (tab hsS) 101 [.iface 131 (.ptr S 3), .int .i64 j] σ = some (.tup [], σ') ∧ Hq σ' S B b z m cap junk (upL ltK f H j) f ∧ Only σ σ' (HF B H) := by
  rw [ev_raw (tab101 hsS)]
  simp (disch := first | omega | (simp only [rkl]; omega)) only [rk1, rk2, rk3, rk4, rk5, Arg.get, ret1, AV.cells, AV.isCell, addOff, minmaxL, Cap.room, Cap.cut, cutI, isSt, resultOf, Function.comp_apply, Function.comp_def, beq_self_eq_true, if_true, if_false, ite_true, ite_false, reduceCtorEq, bne_self_eq_false, Option.some.injEq, Prod.mk.injEq, ↓reduceIte, Nat.reduceEqDiff, Nat.reduceAdd, Nat.reduceMul, Nat.reduceSub, Nat.reduceLeDiff, Nat.reduceLT, Int.reduceLT, Int.reduceLE, Int.reduceEq, Int.reduceAdd, Int.reduceSub, Int.reduceNeg, Int.reduceToNat, List.mapM_cons, List.mapM_nil, Option.pure_def, Option.bind_eq_bind, eq_self, decide_true, decide_false, code101]
  generalize hr : run (tab hsS) (.loop l101_5) _ _ = r
  have key : ∀ (ρ : Env), run (tab hsS) (.loop l101_5) ρ σ = r → ρ 0 = .iface 131 (.ptr S 3) → ρ 1 = .int .i64 j → ∃ ρ' σ', r = some (.exit 0, ρ', σ') ∧ Hq σ' S B b z m cap junk (upL ltK f H j) f ∧ Only σ σ' (HF B H) := by
    intro ρ h r0 r1
    obtain ⟨ρ', σ', h1, h2, h3⟩ := up_run j Q hj r0 r1
    exact ⟨ρ', σ', by rw [← h, h1], h2, h3⟩
  obtain ⟨ρ', σ', rfl, Q', o⟩ := key _ hr (by simp (disch := first | omega | (simp only [rkl]; omega)) only [rk1, rk2, rk3, rk4, rk5, Arg.get, ret1, AV.cells, AV.isCell, addOff, minmaxL, Cap.room, Cap.cut, cutI, isSt, resultOf, Function.comp_apply, Function.comp_def, beq_self_eq_true, if_true, if_false, ite_true, ite_false, reduceCtorEq, bne_self_eq_false, Option.some.injEq, Prod.mk.injEq, ↓reduceIte, Nat.reduceEqDiff, Nat.reduceAdd, Nat.reduceMul, Nat.reduceSub, Nat.reduceLeDiff, Nat.reduceLT, Int.reduceLT, Int.reduceLE, Int.reduceEq, Int.reduceAdd, Int.reduceSub, Int.reduceNeg, Int.reduceToNat, List.mapM_cons, List.mapM_nil, Option.pure_def, Option.bind_eq_bind, eq_self, decide_true, decide_false]) (by simp (disch := first | omega | (simp only [rkl]; omega)) only [rk1, rk2, rk3, rk4, rk5, Arg.get, ret1, AV.cells, AV.isCell, addOff, minmaxL, Cap.room, Cap.cut, cutI, isSt, resultOf, Function.comp_apply, Function.comp_def, beq_self_eq_true, if_true, if_false, ite_true, ite_false, reduceCtorEq, bne_self_eq_false, Option.some.injEq, Prod.mk.injEq, ↓reduceIte, Nat.reduceEqDiff, Nat.reduceAdd, Nat.reduceMul, Nat.reduceSub, Nat.reduceLeDiff, Nat.reduceLT, Int.reduceLT, Int.reduceLE, Int.reduceEq, Int.reduceAdd, Int.reduceSub, Int.reduceNeg, Int.reduceToNat, List.mapM_cons, List.mapM_nil, Option.pure_def, Option.bind_eq_bind, eq_self, decide_true, decide_false])
  simp (disch := first | omega | (simp only [rkl]; omega)) only [rk1, rk2, rk3, rk4, rk5, Arg.get, ret1, AV.cells, AV.isCell, addOff, minmaxL, Cap.room, Cap.cut, cutI, isSt, resultOf, Function.comp_apply, Function.comp_def, beq_self_eq_true, if_true, if_false, ite_true, ite_false, reduceCtorEq, bne_self_eq_false, Option.some.injEq, Prod.mk.injEq, ↓reduceIte, Nat.reduceEqDiff, Nat.reduceAdd, Nat.reduceMul, Nat.reduceSub, Nat.reduceLeDiff, Nat.reduceLT, Int.reduceLT, Int.reduceLE, Int.reduceEq, Int.reduceAdd, Int.reduceSub, Int.reduceNeg, Int.reduceToNat, List.mapM_cons, List.mapM_nil, Option.pure_def, Option.bind_eq_bind, eq_self, decide_true, decide_false]
  exact ⟨_, rfl, Q', o⟩

theorem down_run : ∀ (d : Nat) {i n : Nat} (_ : n - i = d) {H : List Vm.Id} {σ : St} {ρ : Env}, Hq σ S B b z m cap junk H f → i < n → n ≤ H.length → ρ 0 = .iface 131 (.ptr S 3) → ρ 2 = .int .i64 n → ρ 7 = .int .i64 i →
    ∃ ρ' σ', run (tab hsS) (.loop l102_12) ρ σ = some (.exit 0, ρ', σ') ∧ Hq σ' S B b z m cap junk (downL ltK f H i n).1 f ∧ Only σ σ' (HF B H) ∧ ρ' 7 = .int .i64 (downL ltK f H i n).2 ∧ ρ' 1 = ρ 1 := by
  intro d
  induction d using Nat.strongRecOn with
  | _ d ih =>
    intro i n hd H σ ρ Q hi hn r0 r2 r7
    have few := Q.few
    rw [downL]
    by_cases h1 : 2 * i + 1 < n
    · have hkl := kid_lt ltK f H h1
      have hkg := kid_gt ltK f H i n
      have hlt1 : ¬ ((2 * (i : Int) + 1) ≥ (n : Int)) := by omega
      have e1 : (2 * (i : Int) + 1) = ((2 * i + 1 : Nat) : Int) := by omega
      have e2 : ((2 * i + 1 : Nat) : Int) + 1 = ((2 * i + 2 : Nat) : Int) := by omega
      have hpos : ¬ (((2 * i + 1 : Nat) : Int) < 0) := by omega
      have hge : ¬ (((2 * i + 1 : Nat) : Int) ≥ (n : Int)) := by omega
      have hi7 : ¬ (i = n) := by omega
      have hk : (ltK (f (at_ H (kid ltK f H i n))) (f (at_ H i)) = false → ∃ ρ1, run (tab hsS) l102_12 ρ σ = some (.exit 0, ρ1, σ) ∧ ρ1 7 = ρ 7 ∧ ρ1 1 = ρ 1) ∧
          (ltK (f (at_ H (kid ltK f H i n))) (f (at_ H i)) = true → ∀ σ1, invV (ev (tab hsS)) σ tSwap (.iface 131 (.ptr S 3)) [.int .i64 i, .int .i64 (kid ltK f H i n : Nat)] = some (.tup [], σ1) →
            ∃ ρ1, run (tab hsS) l102_12 ρ σ = some (.normal, ρ1, σ1) ∧ ρ1 0 = ρ 0 ∧ ρ1 1 = ρ 1 ∧ ρ1 2 = ρ 2 ∧ ρ1 7 = .int .i64 (kid ltK f H i n : Nat)) := by
        unfold kid
        by_cases h2 : 2 * i + 2 < n
        · have el := inv_less Q (show 2 * i + 2 < H.length by omega) (show 2 * i + 1 < H.length by omega)
          have h2' : ((2 * i + 2 : Nat) : Int) < (n : Int) := by omega
          cases hb1 : ltK (f (at_ H (2 * i + 2))) (f (at_ H (2 * i + 1))) with
          | true =>
            rw [hb1] at el
            rw [if_pos ⟨h2, rfl⟩]
            have el2 := inv_less Q (show 2 * i + 2 < H.length by omega) (show i < H.length by omega)
            refine ⟨fun hb => ?_, fun hb σ1 e3 => ?_⟩
            · rw [hb] at el2
              simp (disch := first | omega | (simp only [rkl]; omega)) only [rk1, rk2, rk3, rk4, rk5, Arg.get, ret1, AV.cells, AV.isCell, addOff, minmaxL, Cap.room, Cap.cut, cutI, isSt, resultOf, Function.comp_apply, Function.comp_def, beq_self_eq_true, if_true, if_false, ite_true, ite_false, reduceCtorEq, bne_self_eq_false, Option.some.injEq, Prod.mk.injEq, ↓reduceIte, Nat.reduceEqDiff, Nat.reduceAdd, Nat.reduceMul, Nat.reduceSub, Nat.reduceLeDiff, Nat.reduceLT, Int.reduceLT, Int.reduceLE, Int.reduceEq, Int.reduceAdd, Int.reduceSub, Int.reduceNeg, Int.reduceToNat, List.mapM_cons, List.mapM_nil, Option.pure_def, Option.bind_eq_bind, eq_self, decide_true, decide_false, l102_12, p102_3, p102_4, p102_5, p102_6, p102_7, p102_8, p102_9, p102_10, p102_11, r0, r2, r7, e1, e2, hpos, hge, hi7, h2', el, ev_invoke, el2]
              first | exact ⟨_, rfl, by simp (disch := first | omega | (simp only [rkl]; omega)) only [rk1, rk2, rk3, rk4, rk5, Arg.get, ret1, AV.cells, AV.isCell, addOff, minmaxL, Cap.room, Cap.cut, cutI, isSt, resultOf, Function.comp_apply, Function.comp_def, beq_self_eq_true, if_true, if_false, ite_true, ite_false, reduceCtorEq, bne_self_eq_false, Option.some.injEq, Prod.mk.injEq, ↓reduceIte, Nat.reduceEqDiff, Nat.reduceAdd, Nat.reduceMul, Nat.reduceSub, Nat.reduceLeDiff, Nat.reduceLT, Int.reduceLT, Int.reduceLE, Int.reduceEq, Int.reduceAdd, Int.reduceSub, Int.reduceNeg, Int.reduceToNat, List.mapM_cons, List.mapM_nil, Option.pure_def, Option.bind_eq_bind, eq_self, decide_true, decide_false, r7], by simp (disch := first | omega | (simp only [rkl]; omega)) only [rk1, rk2, rk3, rk4, rk5, Arg.get, ret1, AV.cells, AV.isCell, addOff, minmaxL, Cap.room, Cap.cut, cutI, isSt, resultOf, Function.comp_apply, Function.comp_def, beq_self_eq_true, if_true, if_false, ite_true, ite_false, reduceCtorEq, bne_self_eq_false, Option.some.injEq, Prod.mk.injEq, ↓reduceIte, Nat.reduceEqDiff, Nat.reduceAdd, Nat.reduceMul, Nat.reduceSub, Nat.reduceLeDiff, Nat.reduceLT, Int.reduceLT, Int.reduceLE, Int.reduceEq, Int.reduceAdd, Int.reduceSub, Int.reduceNeg, Int.reduceToNat, List.mapM_cons, List.mapM_nil, Option.pure_def, Option.bind_eq_bind, eq_self, decide_true, decide_false]⟩ | exact ⟨by simp (disch := first | omega | (simp only [rkl]; omega)) only [rk1, rk2, rk3, rk4, rk5, Arg.get, ret1, AV.cells, AV.isCell, addOff, minmaxL, Cap.room, Cap.cut, cutI, isSt, resultOf, Function.comp_apply, Function.comp_def, beq_self_eq_true, if_true, if_false, ite_true, ite_false, reduceCtorEq, bne_self_eq_false, Option.some.injEq, Prod.mk.injEq, ↓reduceIte, Nat.reduceEqDiff, Nat.reduceAdd, Nat.reduceMul, Nat.reduceSub, Nat.reduceLeDiff, Nat.reduceLT, Int.reduceLT, Int.reduceLE, Int.reduceEq, Int.reduceAdd, Int.reduceSub, Int.reduceNeg, Int.reduceToNat, List.mapM_cons, List.mapM_nil, Option.pure_def, Option.bind_eq_bind, eq_self, decide_true, decide_false, r7], by simp (disch := first | omega | (simp only [rkl]; omega)) only [rk1, rk2, rk3, rk4, rk5, Arg.get, ret1, AV.cells, AV.isCell, addOff, minmaxL, Cap.room, Cap.cut, cutI, isSt, resultOf, Function.comp_apply, Function.comp_def, beq_self_eq_true, if_true, if_false, ite_true, ite_false, reduceCtorEq, bne_self_eq_false, Option.some.injEq, Prod.mk.injEq, ↓reduceIte, Nat.reduceEqDiff, Nat.reduceAdd, Nat.reduceMul, Nat.reduceSub, Nat.reduceLeDiff, Nat.reduceLT, Int.reduceLT, Int.reduceLE, Int.reduceEq, Int.reduceAdd, Int.reduceSub, Int.reduceNeg, Int.reduceToNat, List.mapM_cons, List.mapM_nil, Option.pure_def, Option.bind_eq_bind, eq_self, decide_true, decide_false]⟩
            · rw [hb] at el2
              simp (disch := first | omega | (simp only [rkl]; omega)) only [rk1, rk2, rk3, rk4, rk5, Arg.get, ret1, AV.cells, AV.isCell, addOff, minmaxL, Cap.room, Cap.cut, cutI, isSt, resultOf, Function.comp_apply, Function.comp_def, beq_self_eq_true, if_true, if_false, ite_true, ite_false, reduceCtorEq, bne_self_eq_false, Option.some.injEq, Prod.mk.injEq, ↓reduceIte, Nat.reduceEqDiff, Nat.reduceAdd, Nat.reduceMul, Nat.reduceSub, Nat.reduceLeDiff, Nat.reduceLT, Int.reduceLT, Int.reduceLE, Int.reduceEq, Int.reduceAdd, Int.reduceSub, Int.reduceNeg, Int.reduceToNat, List.mapM_cons, List.mapM_nil, Option.pure_def, Option.bind_eq_bind, eq_self, decide_true, decide_false, l102_12, p102_3, p102_4, p102_5, p102_6, p102_7, p102_8, p102_9, p102_10, p102_11, r0, r2, r7, e1, e2, hpos, hge, hi7, h2', el, ev_invoke, el2, e3]
              first | exact ⟨_, rfl, by simp (disch := first | omega | (simp only [rkl]; omega)) only [rk1, rk2, rk3, rk4, rk5, Arg.get, ret1, AV.cells, AV.isCell, addOff, minmaxL, Cap.room, Cap.cut, cutI, isSt, resultOf, Function.comp_apply, Function.comp_def, beq_self_eq_true, if_true, if_false, ite_true, ite_false, reduceCtorEq, bne_self_eq_false, Option.some.injEq, Prod.mk.injEq, ↓reduceIte, Nat.reduceEqDiff, Nat.reduceAdd, Nat.reduceMul, Nat.reduceSub, Nat.reduceLeDiff, Nat.reduceLT, Int.reduceLT, Int.reduceLE, Int.reduceEq, Int.reduceAdd, Int.reduceSub, Int.reduceNeg, Int.reduceToNat, List.mapM_cons, List.mapM_nil, Option.pure_def, Option.bind_eq_bind, eq_self, decide_true, decide_false, r0], by simp (disch := first | omega | (simp only [rkl]; omega)) only [rk1, rk2, rk3, rk4, rk5, Arg.get, ret1, AV.cells, AV.isCell, addOff, minmaxL, Cap.room, Cap.cut, cutI, isSt, resultOf, Function.comp_apply, Function.comp_def, beq_self_eq_true, if_true, if_false, ite_true, ite_false, reduceCtorEq, bne_self_eq_false, Option.some.injEq, Prod.mk.injEq, ↓reduceIte, Nat.reduceEqDiff, Nat.reduceAdd, Nat.reduceMul, Nat.reduceSub, Nat.reduceLeDiff, Nat.reduceLT, Int.reduceLT, Int.reduceLE, Int.reduceEq, Int.reduceAdd, Int.reduceSub, Int.reduceNeg, Int.reduceToNat, List.mapM_cons, List.mapM_nil, Option.pure_def, Option.bind_eq_bind, eq_self, decide_true, decide_false], by simp (disch := first | omega | (simp only [rkl]; omega)) only [rk1, rk2, rk3, rk4, rk5, Arg.get, ret1, AV.cells, AV.isCell, addOff, minmaxL, Cap.room, Cap.cut, cutI, isSt, resultOf, Function.comp_apply, Function.comp_def, beq_self_eq_true, if_true, if_false, ite_true, ite_false, reduceCtorEq, bne_self_eq_false, Option.some.injEq, Prod.mk.injEq, ↓reduceIte, Nat.reduceEqDiff, Nat.reduceAdd, Nat.reduceMul, Nat.reduceSub, Nat.reduceLeDiff, Nat.reduceLT, Int.reduceLT, Int.reduceLE, Int.reduceEq, Int.reduceAdd, Int.reduceSub, Int.reduceNeg, Int.reduceToNat, List.mapM_cons, List.mapM_nil, Option.pure_def, Option.bind_eq_bind, eq_self, decide_true, decide_false, r2], by simp (disch := first | omega | (simp only [rkl]; omega)) only [rk1, rk2, rk3, rk4, rk5, Arg.get, ret1, AV.cells, AV.isCell, addOff, minmaxL, Cap.room, Cap.cut, cutI, isSt, resultOf, Function.comp_apply, Function.comp_def, beq_self_eq_true, if_true, if_false, ite_true, ite_false, reduceCtorEq, bne_self_eq_false, Option.some.injEq, Prod.mk.injEq, ↓reduceIte, Nat.reduceEqDiff, Nat.reduceAdd, Nat.reduceMul, Nat.reduceSub, Nat.reduceLeDiff, Nat.reduceLT, Int.reduceLT, Int.reduceLE, Int.reduceEq, Int.reduceAdd, Int.reduceSub, Int.reduceNeg, Int.reduceToNat, List.mapM_cons, List.mapM_nil, Option.pure_def, Option.bind_eq_bind, eq_self, decide_true, decide_false]⟩
          | false =>
            rw [hb1] at el
            rw [if_neg (by simp)]
            have el2 := inv_less Q (show 2 * i + 1 < H.length by omega) (show i < H.length by omega)
            refine ⟨fun hb => ?_, fun hb σ1 e3 => ?_⟩
            · rw [hb] at el2
              simp (disch := first | omega | (simp only [rkl]; omega)) only [rk1, rk2, rk3, rk4, rk5, Arg.get, ret1, AV.cells, AV.isCell, addOff, minmaxL, Cap.room, Cap.cut, cutI, isSt, resultOf, Function.comp_apply, Function.comp_def, beq_self_eq_true, if_true, if_false, ite_true, ite_false, reduceCtorEq, bne_self_eq_false, Option.some.injEq, Prod.mk.injEq, ↓reduceIte, Nat.reduceEqDiff, Nat.reduceAdd, Nat.reduceMul, Nat.reduceSub, Nat.reduceLeDiff, Nat.reduceLT, Int.reduceLT, Int.reduceLE, Int.reduceEq, Int.reduceAdd, Int.reduceSub, Int.reduceNeg, Int.reduceToNat, List.mapM_cons, List.mapM_nil, Option.pure_def, Option.bind_eq_bind, eq_self, decide_true, decide_false, l102_12, p102_3, p102_4, p102_5, p102_6, p102_7, p102_8, p102_9, p102_10, p102_11, r0, r2, r7, e1, e2, hpos, hge, hi7, h2', el, ev_invoke, el2]
              first | exact ⟨_, rfl, by simp (disch := first | omega | (simp only [rkl]; omega)) only [rk1, rk2, rk3, rk4, rk5, Arg.get, ret1, AV.cells, AV.isCell, addOff, minmaxL, Cap.room, Cap.cut, cutI, isSt, resultOf, Function.comp_apply, Function.comp_def, beq_self_eq_true, if_true, if_false, ite_true, ite_false, reduceCtorEq, bne_self_eq_false, Option.some.injEq, Prod.mk.injEq, ↓reduceIte, Nat.reduceEqDiff, Nat.reduceAdd, Nat.reduceMul, Nat.reduceSub, Nat.reduceLeDiff, Nat.reduceLT, Int.reduceLT, Int.reduceLE, Int.reduceEq, Int.reduceAdd, Int.reduceSub, Int.reduceNeg, Int.reduceToNat, List.mapM_cons, List.mapM_nil, Option.pure_def, Option.bind_eq_bind, eq_self, decide_true, decide_false, r7], by simp (disch := first | omega | (simp only [rkl]; omega)) only [rk1, rk2, rk3, rk4, rk5, Arg.get, ret1, AV.cells, AV.isCell, addOff, minmaxL, Cap.room, Cap.cut, cutI, isSt, resultOf, Function.comp_apply, Function.comp_def, beq_self_eq_true, if_true, if_false, ite_true, ite_false, reduceCtorEq, bne_self_eq_false, Option.some.injEq, Prod.mk.injEq, ↓reduceIte, Nat.reduceEqDiff, Nat.reduceAdd, Nat.reduceMul, Nat.reduceSub, Nat.reduceLeDiff, Nat.reduceLT, Int.reduceLT, Int.reduceLE, Int.reduceEq, Int.reduceAdd, Int.reduceSub, Int.reduceNeg, Int.reduceToNat, List.mapM_cons, List.mapM_nil, Option.pure_def, Option.bind_eq_bind, eq_self, decide_true, decide_false]⟩ | exact ⟨by simp (disch := first | omega | (simp only [rkl]; omega)) only [rk1, rk2, rk3, rk4, rk5, Arg.get, ret1, AV.cells, AV.isCell, addOff, minmaxL, Cap.room, Cap.cut, cutI, isSt, resultOf, Function.comp_apply, Function.comp_def, beq_self_eq_true, if_true, if_false, ite_true, ite_false, reduceCtorEq, bne_self_eq_false, Option.some.injEq, Prod.mk.injEq, ↓reduceIte, Nat.reduceEqDiff, Nat.reduceAdd, Nat.reduceMul, Nat.reduceSub, Nat.reduceLeDiff, Nat.reduceLT, Int.reduceLT, Int.reduceLE, Int.reduceEq, Int.reduceAdd, Int.reduceSub, Int.reduceNeg, Int.reduceToNat, List.mapM_cons, List.mapM_nil, Option.pure_def, Option.bind_eq_bind, eq_self, decide_true, decide_false, r7], by simp (disch := first | omega | (simp only [rkl]; omega)) only [rk1, rk2, rk3, rk4, rk5, Arg.get, ret1, AV.cells, AV.isCell, addOff, minmaxL, Cap.room, Cap.cut, cutI, isSt, resultOf, Function.comp_apply, Function.comp_def, beq_self_eq_true, if_true, if_false, ite_true, ite_false, reduceCtorEq, bne_self_eq_false, Option.some.injEq, Prod.mk.injEq, ↓reduceIte, Nat.reduceEqDiff, Nat.reduceAdd, Nat.reduceMul, Nat.reduceSub, Nat.reduceLeDiff, Nat.reduceLT, Int.reduceLT, Int.reduceLE, Int.reduceEq, Int.reduceAdd, Int.reduceSub, Int.reduceNeg, Int.reduceToNat, List.mapM_cons, List.mapM_nil, Option.pure_def, Option.bind_eq_bind, eq_self, decide_true, decide_false]⟩
            · rw [hb] at el2
              simp (disch := first | omega | (simp only [rkl]; omega)) only [rk1, rk2, rk3, rk4, rk5, Arg.get, ret1, AV.cells, AV.isCell, addOff, minmaxL, Cap.room, Cap.cut, cutI, isSt, resultOf, Function.comp_apply, Function.comp_def, beq_self_eq_true, if_true, if_false, ite_true, ite_false, reduceCtorEq, bne_self_eq_false, Option.some.injEq, Prod.mk.injEq, ↓reduceIte, Nat.reduceEqDiff, Nat.reduceAdd, Nat.reduceMul, Nat.reduceSub, Nat.reduceLeDiff, Nat.reduceLT, Int.reduceLT, Int.reduceLE, Int.reduceEq, Int.reduceAdd, Int.reduceSub, Int.reduceNeg, Int.reduceToNat, List.mapM_cons, List.mapM_nil, Option.pure_def, Option.bind_eq_bind, eq_self, decide_true, decide_false, l102_12, p102_3, p102_4, p102_5, p102_6, p102_7, p102_8, p102_9, p102_10, p102_11, r0, r2, r7, e1, e2, hpos, hge, hi7, h2', el, ev_invoke, el2, e3]
              first | exact ⟨_, rfl, by simp (disch := first | omega | (simp only [rkl]; omega)) only [rk1, rk2, rk3, rk4, rk5, Arg.get, ret1, AV.cells, AV.isCell, addOff, minmaxL, Cap.room, Cap.cut, cutI, isSt, resultOf, Function.comp_apply, Function.comp_def, beq_self_eq_true, if_true, if_false, ite_true, ite_false, reduceCtorEq, bne_self_eq_false, Option.some.injEq, Prod.mk.injEq, ↓reduceIte, Nat.reduceEqDiff, Nat.reduceAdd, Nat.reduceMul, Nat.reduceSub, Nat.reduceLeDiff, Nat.reduceLT, Int.reduceLT, Int.reduceLE, Int.reduceEq, Int.reduceAdd, Int.reduceSub, Int.reduceNeg, Int.reduceToNat, List.mapM_cons, List.mapM_nil, Option.pure_def, Option.bind_eq_bind, eq_self, decide_true, decide_false, r0], by simp (disch := first | omega | (simp only [rkl]; omega)) only [rk1, rk2, rk3, rk4, rk5, Arg.get, ret1, AV.cells, AV.isCell, addOff, minmaxL, Cap.room, Cap.cut, cutI, isSt, resultOf, Function.comp_apply, Function.comp_def, beq_self_eq_true, if_true, if_false, ite_true, ite_false, reduceCtorEq, bne_self_eq_false, Option.some.injEq, Prod.mk.injEq, ↓reduceIte, Nat.reduceEqDiff, Nat.reduceAdd, Nat.reduceMul, Nat.reduceSub, Nat.reduceLeDiff, Nat.reduceLT, Int.reduceLT, Int.reduceLE, Int.reduceEq, Int.reduceAdd, Int.reduceSub, Int.reduceNeg, Int.reduceToNat, List.mapM_cons, List.mapM_nil, Option.pure_def, Option.bind_eq_bind, eq_self, decide_true, decide_false], by simp (disch := first | omega | (simp only [rkl]; omega)) only [rk1, rk2, rk3, rk4, rk5, Arg.get, ret1, AV.cells, AV.isCell, addOff, minmaxL, Cap.room, Cap.cut, cutI, isSt, resultOf, Function.comp_apply, Function.comp_def, beq_self_eq_true, if_true, if_false, ite_true, ite_false, reduceCtorEq, bne_self_eq_false, Option.some.injEq, Prod.mk.injEq, ↓reduceIte, Nat.reduceEqDiff, Nat.reduceAdd, Nat.reduceMul, Nat.reduceSub, Nat.reduceLeDiff, Nat.reduceLT, Int.reduceLT, Int.reduceLE, Int.reduceEq, Int.reduceAdd, Int.reduceSub, Int.reduceNeg, Int.reduceToNat, List.mapM_cons, List.mapM_nil, Option.pure_def, Option.bind_eq_bind, eq_self, decide_true, decide_false, r2], by simp (disch := first | omega | (simp only [rkl]; omega)) only [rk1, rk2, rk3, rk4, rk5, Arg.get, ret1, AV.cells, AV.isCell, addOff, minmaxL, Cap.room, Cap.cut, cutI, isSt, resultOf, Function.comp_apply, Function.comp_def, beq_self_eq_true, if_true, if_false, ite_true, ite_false, reduceCtorEq, bne_self_eq_false, Option.some.injEq, Prod.mk.injEq, ↓reduceIte, Nat.reduceEqDiff, Nat.reduceAdd, Nat.reduceMul, Nat.reduceSub, Nat.reduceLeDiff, Nat.reduceLT, Int.reduceLT, Int.reduceLE, Int.reduceEq, Int.reduceAdd, Int.reduceSub, Int.reduceNeg, Int.reduceToNat, List.mapM_cons, List.mapM_nil, Option.pure_def, Option.bind_eq_bind, eq_self, decide_true, decide_false]⟩
        · have h2' : ¬ (((2 * i + 2 : Nat) : Int) < (n : Int)) := by omega
          rw [if_neg (fun h => h2 h.1)]
          have el2 := inv_less Q (show 2 * i + 1 < H.length by omega) (show i < H.length by omega)
          refine ⟨fun hb => ?_, fun hb σ1 e3 => ?_⟩
          · rw [hb] at el2
            simp (disch := first | omega | (simp only [rkl]; omega)) only [rk1, rk2, rk3, rk4, rk5, Arg.get, ret1, AV.cells, AV.isCell, addOff, minmaxL, Cap.room, Cap.cut, cutI, isSt, resultOf, Function.comp_apply, Function.comp_def, beq_self_eq_true, if_true, if_false, ite_true, ite_false, reduceCtorEq, bne_self_eq_false, Option.some.injEq, Prod.mk.injEq, ↓reduceIte, Nat.reduceEqDiff, Nat.reduceAdd, Nat.reduceMul, Nat.reduceSub, Nat.reduceLeDiff, Nat.reduceLT, Int.reduceLT, Int.reduceLE, Int.reduceEq, Int.reduceAdd, Int.reduceSub, Int.reduceNeg, Int.reduceToNat, List.mapM_cons, List.mapM_nil, Option.pure_def, Option.bind_eq_bind, eq_self, decide_true, decide_false, l102_12, p102_3, p102_4, p102_5, p102_6, p102_7, p102_8, p102_9, p102_10, p102_11, r0, r2, r7, e1, e2, hpos, hge, hi7, h2', ev_invoke, el2]
            first | exact ⟨_, rfl, by simp (disch := first | omega | (simp only [rkl]; omega)) only [rk1, rk2, rk3, rk4, rk5, Arg.get, ret1, AV.cells, AV.isCell, addOff, minmaxL, Cap.room, Cap.cut, cutI, isSt, resultOf, Function.comp_apply, Function.comp_def, beq_self_eq_true, if_true, if_false, ite_true, ite_false, reduceCtorEq, bne_self_eq_false, Option.some.injEq, Prod.mk.injEq, ↓reduceIte, Nat.reduceEqDiff, Nat.reduceAdd, Nat.reduceMul, Nat.reduceSub, Nat.reduceLeDiff, Nat.reduceLT, Int.reduceLT, Int.reduceLE, Int.reduceEq, Int.reduceAdd, Int.reduceSub, Int.reduceNeg, Int.reduceToNat, List.mapM_cons, List.mapM_nil, Option.pure_def, Option.bind_eq_bind, eq_self, decide_true, decide_false, r7], by simp (disch := first | omega | (simp only [rkl]; omega)) only [rk1, rk2, rk3, rk4, rk5, Arg.get, ret1, AV.cells, AV.isCell, addOff, minmaxL, Cap.room, Cap.cut, cutI, isSt, resultOf, Function.comp_apply, Function.comp_def, beq_self_eq_true, if_true, if_false, ite_true, ite_false, reduceCtorEq, bne_self_eq_false, Option.some.injEq, Prod.mk.injEq, ↓reduceIte, Nat.reduceEqDiff, Nat.reduceAdd, Nat.reduceMul, Nat.reduceSub, Nat.reduceLeDiff, Nat.reduceLT, Int.reduceLT, Int.reduceLE, Int.reduceEq, Int.reduceAdd, Int.reduceSub, Int.reduceNeg, Int.reduceToNat, List.mapM_cons, List.mapM_nil, Option.pure_def, Option.bind_eq_bind, eq_self, decide_true, decide_false]⟩ | exact ⟨by simp (disch := first | omega | (simp only [rkl]; omega)) only [rk1, rk2, rk3, rk4, rk5, Arg.get, ret1, AV.cells, AV.isCell, addOff, minmaxL, Cap.room, Cap.cut, cutI, isSt, resultOf, Function.comp_apply, Function.comp_def, beq_self_eq_true, if_true, if_false, ite_true, ite_false, reduceCtorEq, bne_self_eq_false, Option.some.injEq, Prod.mk.injEq, ↓reduceIte, Nat.reduceEqDiff, Nat.reduceAdd, Nat.reduceMul, Nat.reduceSub, Nat.reduceLeDiff, Nat.reduceLT, Int.reduceLT, Int.reduceLE, Int.reduceEq, Int.reduceAdd, Int.reduceSub, Int.reduceNeg, Int.reduceToNat, List.mapM_cons, List.mapM_nil, Option.pure_def, Option.bind_eq_bind, eq_self, decide_true, decide_false, r7], by simp (disch := first | omega | (simp only [rkl]; omega)) only [rk1, rk2, rk3, rk4, rk5, Arg.get, ret1, AV.cells, AV.isCell, addOff, minmaxL, Cap.room, Cap.cut, cutI, isSt, resultOf, Function.comp_apply, Function.comp_def, beq_self_eq_true, if_true, if_false, ite_true, ite_false, reduceCtorEq, bne_self_eq_false, Option.some.injEq, Prod.mk.injEq, ↓reduceIte, Nat.reduceEqDiff, Nat.reduceAdd, Nat.reduceMul, Nat.reduceSub, Nat.reduceLeDiff, Nat.reduceLT, Int.reduceLT, Int.reduceLE, Int.reduceEq, Int.reduceAdd, Int.reduceSub, Int.reduceNeg, Int.reduceToNat, List.mapM_cons, List.mapM_nil, Option.pure_def, Option.bind_eq_bind, eq_self, decide_true, decide_false]⟩
          · rw [hb] at el2
            simp (disch := first | omega | (simp only [rkl]; omega)) only [rk1, rk2, rk3, rk4, rk5, Arg.get, ret1, AV.cells, AV.isCell, addOff, minmaxL, Cap.room, Cap.cut, cutI, isSt, resultOf, Function.comp_apply, Function.comp_def, beq_self_eq_true, if_true, if_false, ite_true, ite_false, reduceCtorEq, bne_self_eq_false, Option.some.injEq, Prod.mk.injEq, ↓reduceIte, Nat.reduceEqDiff, Nat.reduceAdd, Nat.reduceMul, Nat.reduceSub, Nat.reduceLeDiff, Nat.reduceLT, Int.reduceLT, Int.reduceLE, Int.reduceEq, Int.reduceAdd, Int.reduceSub, Int.reduceNeg, Int.reduceToNat, List.mapM_cons, List.mapM_nil, Option.pure_def, Option.bind_eq_bind, eq_self, decide_true, decide_false, l102_12, p102_3, p102_4, p102_5, p102_6, p102_7, p102_8, p102_9, p102_10, p102_11, r0, r2, r7, e1, e2, hpos, hge, hi7, h2', ev_invoke, el2, e3]
            first | exact ⟨_, rfl, by simp (disch := first | omega | (simp only [rkl]; omega)) only [rk1, rk2, rk3, rk4, rk5, Arg.get, ret1, AV.cells, AV.isCell, addOff, minmaxL, Cap.room, Cap.cut, cutI, isSt, resultOf, Function.comp_apply, Function.comp_def, beq_self_eq_true, if_true, if_false, ite_true, ite_false, reduceCtorEq, bne_self_eq_false, Option.some.injEq, Prod.mk.injEq, ↓reduceIte, Nat.reduceEqDiff, Nat.reduceAdd, Nat.reduceMul, Nat.reduceSub, Nat.reduceLeDiff, Nat.reduceLT, Int.reduceLT, Int.reduceLE, Int.reduceEq, Int.reduceAdd, Int.reduceSub, Int.reduceNeg, Int.reduceToNat, List.mapM_cons, List.mapM_nil, Option.pure_def, Option.bind_eq_bind, eq_self, decide_true, decide_false, r0], by simp (disch := first | omega | (simp only [rkl]; omega)) only [rk1, rk2, rk3, rk4, rk5, Arg.get, ret1, AV.cells, AV.isCell, addOff, minmaxL, Cap.room, Cap.cut, cutI, isSt, resultOf, Function.comp_apply, Function.comp_def, beq_self_eq_true, if_true, if_false, ite_true, ite_false, reduceCtorEq, bne_self_eq_false, Option.some.injEq, Prod.mk.injEq, ↓reduceIte, Nat.reduceEqDiff, Nat.reduceAdd, Nat.reduceMul, Nat.reduceSub, Nat.reduceLeDiff, Nat.reduceLT, Int.reduceLT, Int.reduceLE, Int.reduceEq, Int.reduceAdd, Int.reduceSub, Int.reduceNeg, Int.reduceToNat, List.mapM_cons, List.mapM_nil, Option.pure_def, Option.bind_eq_bind, eq_self, decide_true, decide_false], by simp (disch := first | omega | (simp only [rkl]; omega)) only [rk1, rk2, rk3, rk4, rk5, Arg.get, ret1, AV.cells, AV.isCell, addOff, minmaxL, Cap.room, Cap.cut, cutI, isSt, resultOf, Function.comp_apply, Function.comp_def, beq_self_eq_true, if_true, if_false, ite_true, ite_false, reduceCtorEq, bne_self_eq_false, Option.some.injEq, Prod.mk.injEq, ↓reduceIte, Nat.reduceEqDiff, Nat.reduceAdd, Nat.reduceMul, Nat.reduceSub, Nat.reduceLeDiff, Nat.reduceLT, Int.reduceLT, Int.reduceLE, Int.reduceEq, Int.reduceAdd, Int.reduceSub, Int.reduceNeg, Int.reduceToNat, List.mapM_cons, List.mapM_nil, Option.pure_def, Option.bind_eq_bind, eq_self, decide_true, decide_false, r2], by simp (disch := first | omega | (simp only [rkl]; omega)) only [rk1, rk2, rk3, rk4, rk5, Arg.get, ret1, AV.cells, AV.isCell, addOff, minmaxL, Cap.room, Cap.cut, cutI, isSt, resultOf, Function.comp_apply, Function.comp_def, beq_self_eq_true, if_true, if_false, ite_true, ite_false, reduceCtorEq, bne_self_eq_false, Option.some.injEq, Prod.mk.injEq, ↓reduceIte, Nat.reduceEqDiff, Nat.reduceAdd, Nat.reduceMul, Nat.reduceSub, Nat.reduceLeDiff, Nat.reduceLT, Int.reduceLT, Int.reduceLE, Int.reduceEq, Int.reduceAdd, Int.reduceSub, Int.reduceNeg, Int.reduceToNat, List.mapM_cons, List.mapM_nil, Option.pure_def, Option.bind_eq_bind, eq_self, decide_true, decide_false]⟩
      obtain ⟨hk1, hk2⟩ := hk
      generalize kid ltK f H i n = c at *
      cases hb : ltK (f (at_ H c)) (f (at_ H i)) with
      | true =>
        rw [if_pos ⟨h1, rfl⟩]
        obtain ⟨σ1, e3, Q1, o1⟩ := inv_swap Q (show i < H.length by omega) (show c < H.length by omega) (by omega)
        obtain ⟨ρ1, hr, q0, q1, q2, q7⟩ := hk2 hb σ1 e3
        rw [run_loop, hr]
        obtain ⟨ρ2, σ2, hr2, Q2, o2, b7, b1⟩ := ih (n - c) (by omega) rfl Q1 hkl (by simpa using hn) (q0.trans r0) (q2.trans r2) q7
        refine ⟨ρ2, σ2, by simp (disch := first | omega | (simp only [rkl]; omega)) only [rk1, rk2, rk3, rk4, rk5, Arg.get, ret1, AV.cells, AV.isCell, addOff, minmaxL, Cap.room, Cap.cut, cutI, isSt, resultOf, Function.comp_apply, Function.comp_def, beq_self_eq_true, if_true, if_false, ite_true, ite_false, reduceCtorEq, bne_self_eq_false, Option.some.injEq, Prod.mk.injEq, ↓reduceIte, Nat.reduceEqDiff, Nat.reduceAdd, Nat.reduceMul, Nat.reduceSub, Nat.reduceLeDiff, Nat.reduceLT, Int.reduceLT, Int.reduceLE, Int.reduceEq, Int.reduceAdd, Int.reduceSub, Int.reduceNeg, Int.reduceToNat, List.mapM_cons, List.mapM_nil, Option.pure_def, Option.bind_eq_bind, eq_self, decide_true, decide_false]; exact hr2, Q2, o1.trans (o2.weak fun q hq => ?_), b7, b1.trans q1⟩
        rcases hq with hq | hq
        · exact .inl hq
        · exact .inr ((sw_perm (by omega) (by omega)).mem_iff.1 hq)
      | false =>
        obtain ⟨ρ1, hr, q7, q1⟩ := hk1 hb
        rw [if_neg (by simp), run_loop, hr]
        simp (disch := first | omega | (simp only [rkl]; omega)) only [rk1, rk2, rk3, rk4, rk5, Arg.get, ret1, AV.cells, AV.isCell, addOff, minmaxL, Cap.room, Cap.cut, cutI, isSt, resultOf, Function.comp_apply, Function.comp_def, beq_self_eq_true, if_true, if_false, ite_true, ite_false, reduceCtorEq, bne_self_eq_false, Option.some.injEq, Prod.mk.injEq, ↓reduceIte, Nat.reduceEqDiff, Nat.reduceAdd, Nat.reduceMul, Nat.reduceSub, Nat.reduceLeDiff, Nat.reduceLT, Int.reduceLT, Int.reduceLE, Int.reduceEq, Int.reduceAdd, Int.reduceSub, Int.reduceNeg, Int.reduceToNat, List.mapM_cons, List.mapM_nil, Option.pure_def, Option.bind_eq_bind, eq_self, decide_true, decide_false]
        first | exact ⟨_, _, ⟨rfl, rfl⟩, Q, .refl _ _, q7.trans r7, q1⟩ | exact ⟨_, rfl, Q, .refl _ _, q7.trans r7, q1⟩ | exact ⟨Q, .refl _ _, q7.trans r7, q1⟩
    · rw [if_neg (fun h => h1 h.1), run_loop]
      have e1 : (2 * (i : Int) + 1) ≥ (n : Int) := by omega
      simp (disch := first | omega | (simp only [rkl]; omega)) only [rk1, rk2, rk3, rk4, rk5, Arg.get, ret1, AV.cells, AV.isCell, addOff, minmaxL, Cap.room, Cap.cut, cutI, isSt, resultOf, Function.comp_apply, Function.comp_def, beq_self_eq_true, if_true, if_false, ite_true, ite_false, reduceCtorEq, bne_self_eq_false, Option.some.injEq, Prod.mk.injEq, ↓reduceIte, Nat.reduceEqDiff, Nat.reduceAdd, Nat.reduceMul, Nat.reduceSub, Nat.reduceLeDiff, Nat.reduceLT, Int.reduceLT, Int.reduceLE, Int.reduceEq, Int.reduceAdd, Int.reduceSub, Int.reduceNeg, Int.reduceToNat, List.mapM_cons, List.mapM_nil, Option.pure_def, Option.bind_eq_bind, eq_self, decide_true, decide_false, l102_12, p102_3, p102_4, r0, r2, r7, e1]
      exact ⟨_, _, ⟨rfl, rfl⟩, Q, .refl _ _, by simp (disch := first | omega | (simp only [rkl]; omega)) only [rk1, rk2, rk3, rk4, rk5, Arg.get, ret1, AV.cells, AV.isCell, addOff, minmaxL, Cap.room, Cap.cut, cutI, isSt, resultOf, Function.comp_apply, Function.comp_def, beq_self_eq_true, if_true, if_false, ite_true, ite_false, reduceCtorEq, bne_self_eq_false, Option.some.injEq, Prod.mk.injEq, ↓reduceIte, Nat.reduceEqDiff, Nat.reduceAdd, Nat.reduceMul, Nat.reduceSub, Nat.reduceLeDiff, Nat.reduceLT, Int.reduceLT, Int.reduceLE, Int.reduceEq, Int.reduceAdd, Int.reduceSub, Int.reduceNeg, Int.reduceToNat, List.mapM_cons, List.mapM_nil, Option.pure_def, Option.bind_eq_bind, eq_self, decide_true, decide_false, r7], by simp (disch := first | omega | (simp only [rkl]; omega)) only [rk1, rk2, rk3, rk4, rk5, Arg.get, ret1, AV.cells, AV.isCell, addOff, minmaxL, Cap.room, Cap.cut, cutI, isSt, resultOf, Function.comp_apply, Function.comp_def, beq_self_eq_true, if_true, if_false, ite_true, ite_false, reduceCtorEq, bne_self_eq_false, Option.some.injEq, Prod.mk.injEq, ↓reduceIte, Nat.reduceEqDiff, Nat.reduceAdd, Nat.reduceMul, Nat.reduceSub, Nat.reduceLeDiff, Nat.reduceLT, Int.reduceLT, Int.reduceLE, Int.reduceEq, Int.reduceAdd, Int.reduceSub, Int.reduceNeg, Int.reduceToNat, List.mapM_cons, List.mapM_nil, Option.pure_def, Option.bind_eq_bind, eq_self, decide_true, decide_false]⟩

theorem down_ev {i n : Nat} {H : List Vm.Id} {σ : St} (Q : Hq σ S B b z m cap junk H f) (hi : i < n) (hn : n ≤ H.length) :
    ∃ σ', ev (tab hsS) 102 [.iface 131 (.ptr S 3), .int .i64 i, .int .i64 n] σ = some (.bool (decide ((downL ltK f H i n).2 > i)), σ') ∧ Hq σ' S B b z m cap junk (downL ltK f H i n).1 f ∧ Only σ σ' (HF B H) := by
  rw [ev_raw (tab102 hsS)]
  simp (disch := first | omega | (simp only [rkl]; omega)) only [rk1, rk2, rk3, rk4, rk5, Arg.get, ret1, AV.cells, AV.isCell, addOff, minmaxL, Cap.room, Cap.cut, cutI, isSt, resultOf, Function.comp_apply, Function.comp_def, beq_self_eq_true, if_true, if_false, ite_true, ite_false, reduceCtorEq, bne_self_eq_false, Option.some.injEq, Prod.mk.injEq, ↓reduceIte, Nat.reduceEqDiff, Nat.reduceAdd, Nat.reduceMul, Nat.reduceSub, Nat.reduceLeDiff, Nat.reduceLT, Int.reduceLT, Int.reduceLE, Int.reduceEq, Int.reduceAdd, Int.reduceSub, Int.reduceNeg, Int.reduceToNat, List.mapM_cons, List.mapM_nil, Option.pure_def, Option.bind_eq_bind, eq_self, decide_true, decide_false, code102, p102_1, p102_2]
  generalize hr : run (tab hsS) (.loop l102_12) _ _ = r
  have key : ∀ (ρ : Env), run (tab hsS) (.loop l102_12) ρ σ = r → ρ 0 = .iface 131 (.ptr S 3) → ρ 1 = .int .i64 i → ρ 2 = .int .i64 n → ρ 7 = .int .i64 i →
      ∃ ρ' σ', r = some (.exit 0, ρ', σ') ∧ Hq σ' S B b z m cap junk (downL ltK f H i n).1 f ∧ Only σ σ' (HF B H) ∧ ρ' 7 = .int .i64 (downL ltK f H i n).2 ∧ ρ' 1 = .int .i64 i := by
    intro ρ h r0 r1 r2 r7
    obtain ⟨ρ', σ', h1, h2, h3, h4, h5⟩ := down_run (n - i) rfl Q hi hn r0 r2 r7
    exact ⟨ρ', σ', by rw [← h, h1], h2, h3, h4, h5.trans r1⟩
  obtain ⟨ρ', σ', rfl, Q', o, q7, q1⟩ := key _ hr (by simp (disch := first | omega | (simp only [rkl]; omega)) only [rk1, rk2, rk3, rk4, rk5, Arg.get, ret1, AV.cells, AV.isCell, addOff, minmaxL, Cap.room, Cap.cut, cutI, isSt, resultOf, Function.comp_apply, Function.comp_def, beq_self_eq_true, if_true, if_false, ite_true, ite_false, reduceCtorEq, bne_self_eq_false, Option.some.injEq, Prod.mk.injEq, ↓reduceIte, Nat.reduceEqDiff, Nat.reduceAdd, Nat.reduceMul, Nat.reduceSub, Nat.reduceLeDiff, Nat.reduceLT, Int.reduceLT, Int.reduceLE, Int.reduceEq, Int.reduceAdd, Int.reduceSub, Int.reduceNeg, Int.reduceToNat, List.mapM_cons, List.mapM_nil, Option.pure_def, Option.bind_eq_bind, eq_self, decide_true, decide_false]) (by simp (disch := first | omega | (simp only [rkl]; omega)) only [rk1, rk2, rk3, rk4, rk5, Arg.get, ret1, AV.cells, AV.isCell, addOff, minmaxL, Cap.room, Cap.cut, cutI, isSt, resultOf, Function.comp_apply, Function.comp_def, beq_self_eq_true, if_true, if_false, ite_true, ite_false, reduceCtorEq, bne_self_eq_false, Option.some.injEq, Prod.mk.injEq, ↓reduceIte, Nat.reduceEqDiff, Nat.reduceAdd, Nat.reduceMul, Nat.reduceSub, Nat.reduceLeDiff, Nat.reduceLT, Int.reduceLT, Int.reduceLE, Int.reduceEq, Int.reduceAdd, Int.reduceSub, Int.reduceNeg, Int.reduceToNat, List.mapM_cons, List.mapM_nil, Option.pure_def, Option.bind_eq_bind, eq_self, decide_true, decide_false]) (by simp (disch := first | omega | (simp only [rkl]; omega)) only [rk1, rk2, rk3, rk4, rk5, Arg.get, ret1, AV.cells, AV.isCell, addOff, minmaxL, Cap.room, Cap.cut, cutI, isSt, resultOf, Function.comp_apply, Function.comp_def, beq_self_eq_true, if_true, if_false, ite_true, ite_false, reduceCtorEq, bne_self_eq_false, Option.some.injEq, Prod.mk.injEq, ↓reduceIte, Nat.reduceEqDiff, Nat.reduceAdd, Nat.reduceMul, Nat.reduceSub, Nat.reduceLeDiff, Nat.reduceLT, Int.reduceLT, Int.reduceLE, Int.reduceEq, Int.reduceAdd, Int.reduceSub, Int.reduceNeg, Int.reduceToNat, List.mapM_cons, List.mapM_nil, Option.pure_def, Option.bind_eq_bind, eq_self, decide_true, decide_false]) (by simp (disch := first | omega | (simp only [rkl]; omega)) only [rk1, rk2, rk3, rk4, rk5, Arg.get, ret1, AV.cells, AV.isCell, addOff, minmaxL, Cap.room, Cap.cut, cutI, isSt, resultOf, Function.comp_apply, Function.comp_def, beq_self_eq_true, if_true, if_false, ite_true, ite_false, reduceCtorEq, bne_self_eq_false, Option.some.injEq, Prod.mk.injEq, ↓reduceIte, Nat.reduceEqDiff, Nat.reduceAdd, Nat.reduceMul, Nat.reduceSub, Nat.reduceLeDiff, Nat.reduceLT, Int.reduceLT, Int.reduceLE, Int.reduceEq, Int.reduceAdd, Int.reduceSub, Int.reduceNeg, Int.reduceToNat, List.mapM_cons, List.mapM_nil, Option.pure_def, Option.bind_eq_bind, eq_self, decide_true, decide_false])
  have hd : decide (((downL ltK f H i n).2 : Int) > (i : Int)) = decide ((downL ltK f H i n).2 > i) := by
    rw [decide_eq_decide]; omega
  simp (disch := first | omega | (simp only [rkl]; omega)) only [rk1, rk2, rk3, rk4, rk5, Arg.get, ret1, AV.cells, AV.isCell, addOff, minmaxL, Cap.room, Cap.cut, cutI, isSt, resultOf, Function.comp_apply, Function.comp_def, beq_self_eq_true, if_true, if_false, ite_true, ite_false, reduceCtorEq, bne_self_eq_false, Option.some.injEq, Prod.mk.injEq, ↓reduceIte, Nat.reduceEqDiff, Nat.reduceAdd, Nat.reduceMul, Nat.reduceSub, Nat.reduceLeDiff, Nat.reduceLT, Int.reduceLT, Int.reduceLE, Int.reduceEq, Int.reduceAdd, Int.reduceSub, Int.reduceNeg, Int.reduceToNat, List.mapM_cons, List.mapM_nil, Option.pure_def, Option.bind_eq_bind, eq_self, decide_true, decide_false, p102_13, q7, q1]
  exact ⟨_, ⟨congrArg AV.bool hd, rfl⟩, Q', o⟩

theorem fix_ev {i : Nat} {H : List Vm.Id} {σ : St} (Q : Hq σ S B b z m cap junk H f) (hi : i < H.length) :
    ∃ σ', ev (tab hsS) 80 [.iface 131 (.ptr S 3), .int .i64 i] σ = some (.tup [], σ') ∧ Hq σ' S B b z m cap junk (fixL ltK f H i H.length) f ∧ Only σ σ' (HF B H) := by
  have el := inv_len Q
  obtain ⟨σ1, e1, Q1, o1⟩ := down_ev Q hi (Nat.le_refl _)
  have hp := downL_perm (lt := ltK) (f := f) (H.length - i) (H := H) rfl (Nat.le_refl _) hi
  rw [ev_raw (tab80 hsS)]
  unfold fixL
  by_cases h : (downL ltK f H i H.length).2 > i
  · rw [if_pos h]
    rw [decide_eq_true h] at e1
    simp (disch := first | omega | (simp only [rkl]; omega)) only [rk1, rk2, rk3, rk4, rk5, Arg.get, ret1, AV.cells, AV.isCell, addOff, minmaxL, Cap.room, Cap.cut, cutI, isSt, resultOf, Function.comp_apply, Function.comp_def, beq_self_eq_true, if_true, if_false, ite_true, ite_false, reduceCtorEq, bne_self_eq_false, Option.some.injEq, Prod.mk.injEq, ↓reduceIte, Nat.reduceEqDiff, Nat.reduceAdd, Nat.reduceMul, Nat.reduceSub, Nat.reduceLeDiff, Nat.reduceLT, Int.reduceLT, Int.reduceLE, Int.reduceEq, Int.reduceAdd, Int.reduceSub, Int.reduceNeg, Int.reduceToNat, List.mapM_cons, List.mapM_nil, Option.pure_def, Option.bind_eq_bind, eq_self, decide_true, decide_false, code80, p80_1, ev_invoke, el, e1]
    exact ⟨_, rfl, Q1, o1⟩
  · rw [if_neg h]
    rw [decide_eq_false h] at e1
    obtain ⟨σ2, e2, Q2, o2⟩ := up_ev Q1 (j := i) (by rw [hp.length_eq]; exact hi)
    simp (disch := first | omega | (simp only [rkl]; omega)) only [rk1, rk2, rk3, rk4, rk5, Arg.get, ret1, AV.cells, AV.isCell, addOff, minmaxL, Cap.room, Cap.cut, cutI, isSt, resultOf, Function.comp_apply, Function.comp_def, beq_self_eq_true, if_true, if_false, ite_true, ite_false, reduceCtorEq, bne_self_eq_false, Option.some.injEq, Prod.mk.injEq, ↓reduceIte, Nat.reduceEqDiff, Nat.reduceAdd, Nat.reduceMul, Nat.reduceSub, Nat.reduceLeDiff, Nat.reduceLT, Int.reduceLT, Int.reduceLE, Int.reduceEq, Int.reduceAdd, Int.reduceSub, Int.reduceNeg, Int.reduceToNat, List.mapM_cons, List.mapM_nil, Option.pure_def, Option.bind_eq_bind, eq_self, decide_true, decide_false, code80, p80_1, p80_2, ev_invoke, el, e1, e2]
    refine ⟨_, rfl, Q2, o1.trans (o2.weak fun q hq => ?_)⟩
    rcases hq with hq | hq
    · exact .inl hq
    · exact .inr (hp.mem_iff.1 hq)
end
/-
  THE SHELF: one is taken off the heap, one is put on it.
-/

section
variable {S B : Vm.Id} {b z m : AV} {cap : Cap} {junk : List AV} {f : Vm.Id → Ky} {H : List Vm.Id} {σ : St}

theorem at_drop {H : List Vm.Id} {k : Nat} (h : k < H.length - 1) : at_ H.dropLast k = at_ H k := by
  have h2 : k < H.length := by omega
  simp [at_, List.getD, List.getElem?_dropLast, h, h2]
theorem drop_last {H : List Vm.Id} (h : H ≠ []) : H.dropLast ++ [at_ H (H.length - 1)] = H := by
  have hl : H.length - 1 < H.length := by have := List.length_pos_iff.2 h; omega
  rw [at_get hl, ← List.getLast_eq_getElem h]
  exact List.dropLast_concat_getLast h

theorem pop_ev {c : Nat} (Q : Hq σ S B b z m (.ge c) junk H f) (h0 : 0 < H.length) (hc : H.length ≤ c) :
    ∃ σ', ev (tab hsS) 134 [.ptr S 3] σ = some (.iface 127 (.ptr (at_ H (H.length - 1)) 0), σ') ∧ Hq σ' S B b z m (.ge c) (.ptr (at_ H (H.length - 1)) 0 :: junk) H.dropLast f ∧
      σ'.get (at_ H (H.length - 1)) = some (thc (f (at_ H (H.length - 1))) (-1)) ∧ Only σ σ' (fun q => q = S ∨ q = at_ H (H.length - 1)) := by
  have few := Q.few
  have hk : H.length - 1 < H.length := by omega
  have hlast := drop_last (H := H) (fun e => by simp [e] at h0)
  generalize hkk : H.length - 1 = k at *
  have hx := at_mem hk
  have gx := Q.ht k hk
  have hel : elemPtr 1 k (.sl B 0 H.length (.ge c) 1) = some (.ptr B k) := by rw [elemPtr_sl hk]; simp
  have hp := ptrs_part (H := H) (junk := junk) hk
  have xS : at_ H k ≠ S := fun e => Q.sh (e ▸ hx)
  have xB : at_ H k ≠ B := fun e => Q.bh (e ▸ hx)
  have hl : (H.length : Int) - 1 = (k : Int) := by omega
  have hss : ∀ ρ : Env, sliceSl 1 (.sl B 0 H.length (.ge c) 1) none (some (.t 20)) none ρ = (bndV (ρ 20) c).bind fun h => if h ≤ c then some (.sl B 0 h (.ge c) 1) else none := by
    intro ρ
    simp only [sliceSl, bnd, Arg.get, Cap.room, Cap.cut, bndV]
    simp
    rfl
  have hbv : bndV (.int .i64 (k : Int)) c = some k := by rw [bndV_nat (by omega) (by omega)]; rfl
  have hkc : k ≤ c := by omega
  have t1 : storeAt σ 1 (.ptr S 3) (.sl B 0 k (.ge c) 1) = some (σ.set S (some (.cells [b, z, m, .sl B 0 k (.ge c) 1]))) := by rw [store_one Q.hs (by simp) (by simp) rfl]; rfl
  have gx1 : (σ.set S (some (.cells [b, z, m, .sl B 0 k (.ge c) 1]))).get (at_ H k) = some (thc (f (at_ H k)) k) := by rw [get_set, if_neg xS]; exact gx
  have t2 : storeAt (σ.set S (some (.cells [b, z, m, .sl B 0 k (.ge c) 1]))) 1 (.ptr (at_ H k) 4) (.int .i64 (-1)) = some ((σ.set S (some (.cells [b, z, m, .sl B 0 k (.ge c) 1]))).set (at_ H k) (some (.cells (thc (f (at_ H k)) (-1))))) := by rw [store_one gx1 (by simp [thc]) (by simp) rfl]; rfl
  refine ⟨(σ.set S (some (.cells [b, z, m, .sl B 0 k (.ge c) 1]))).set (at_ H k) (some (.cells (thc (f (at_ H k)) (-1)))), ?_, ⟨?_, ?_, fun i hi => ?_, ?_, Q.sb, ?_, ?_, by simp; omega⟩, get_set_same _ _ _, ⟨rfl, rfl, fun q hq => ?_⟩⟩
  · have hs := Q.hs
    rw [ev_raw (tab134 hsS)]
    simp (disch := first | omega | (simp only [rkl]; omega)) only [rk1, rk2, rk3, rk4, rk5, Arg.get, ret1, AV.cells, AV.isCell, addOff, minmaxL, Cap.room, Cap.cut, cutI, isSt, resultOf, Function.comp_apply, Function.comp_def, beq_self_eq_true, if_true, if_false, ite_true, ite_false, reduceCtorEq, bne_self_eq_false, Option.some.injEq, Prod.mk.injEq, ↓reduceIte, Nat.reduceEqDiff, Nat.reduceAdd, Nat.reduceMul, Nat.reduceSub, Nat.reduceLeDiff, Nat.reduceLT, Int.reduceLT, Int.reduceLE, Int.reduceEq, Int.reduceAdd, Int.reduceSub, Int.reduceNeg, Int.reduceToNat, List.mapM_cons, List.mapM_nil, Option.pure_def, Option.bind_eq_bind, eq_self, decide_true, decide_false, code134, p134_1, p134_2, p134_3, p134_4, p134_5, p134_6, hs, hl, hel, Q.hb, hp, hss, hbv, hkc, t1, t2]
  · rw [get_set, if_neg xS.symm, get_set_same]; simp [hkk]
  · rw [get_set, if_neg xB.symm, get_set, if_neg Q.sb.symm, Q.hb]
    congr 1
    have : ptrs H = ptrs H.dropLast ++ [.ptr (at_ H k) 0] := by
      conv => lhs; rw [← hlast]
      simp [ptrs]
    rw [this]; simp
  · have hi' : i < k := by simpa [hkk] using hi
    rw [at_drop (by omega)]
    have e1 : at_ H i ≠ at_ H k := fun e => by have := at_inj Q.nd (by omega) hk e; omega
    rw [get_set, if_neg e1, get_set, if_neg (fun e : at_ H i = S => Q.sh (e ▸ at_mem (show i < H.length by omega)))]
    exact Q.ht i (by omega)
  · have := Q.nd
    rw [← hlast] at this
    exact (List.nodup_append.1 this).1
  · exact fun h => Q.sh (List.dropLast_subset _ h)
  · exact fun h => Q.bh (List.dropLast_subset _ h)
  · have c1 : q ≠ S := fun e => hq (.inl e)
    have c2 : q ≠ at_ H k := fun e => hq (.inr e)
    simp [St.set, c1, c2]

abbrev tPop : List (TypeId × (Option (Bool × Nat) × FuncId)) := [(131, (none, 134))]
abbrev tPush : List (TypeId × (Option (Bool × Nat) × FuncId)) := [(131, (none, 135))]

theorem inv_none {E : CallH} {tbl : List (TypeId × (Option (Bool × Nat) × FuncId))} {f : FuncId} (ht : tbl.lookup 131 = some (none, f)) (v : AV) (xs : List AV) : invV E σ tbl (.iface 131 v) xs = E f (v :: xs) σ := by
  simp only [invV, ht, recv]
  rfl

theorem remove_ev {c i : Nat} (Q : Hq σ S B b z m (.ge c) junk H f) (hi : i < H.length) (hc : H.length ≤ c) :
    ∃ σ' x, ev (tab hsS) 81 [.iface 131 (.ptr S 3), .int .i64 i] σ = some (x, σ') ∧ Hq σ' S B b z m (.ge c) (.ptr (at_ H i) 0 :: junk) (cutL ltK f H i).dropLast f ∧
      σ'.get (at_ H i) = some (thc (f (at_ H i)) (-1)) ∧ Only σ σ' (fun q => q = S ∨ q = B ∨ q ∈ H) := by
  have few := Q.few
  have el := inv_len Q
  have hp := cutL_perm (lt := ltK) (f := f) hi
  have hlen := hp.length_eq
  have hlast := cutL_last (lt := ltK) (f := f) hi
  have hl : (H.length : Int) - 1 = ((H.length - 1 : Nat) : Int) := by omega
  have fin : ∀ {σ1 : St}, Hq σ1 S B b z m (.ge c) junk (cutL ltK f H i) f → Only σ σ1 (fun q => q = B ∨ q ∈ H) → ∃ σ' , invV (ev (tab hsS)) σ1 tPop (.iface 131 (.ptr S 3)) [] = some (.iface 127 (.ptr (at_ H i) 0), σ') ∧
      Hq σ' S B b z m (.ge c) (.ptr (at_ H i) 0 :: junk) (cutL ltK f H i).dropLast f ∧ σ'.get (at_ H i) = some (thc (f (at_ H i)) (-1)) ∧ Only σ σ' (fun q => q = S ∨ q = B ∨ q ∈ H) := by
    intro σ1 Q1 o1
    obtain ⟨σ2, e2, Q2, g2, o2⟩ := pop_ev Q1 (by omega) (by omega)
    rw [hlen, hlast] at e2 Q2 g2 o2
    refine ⟨σ2, (inv_none rfl _ _).trans e2, Q2, g2, (o1.weak fun q hq => .inr hq).trans (o2.weak fun q hq => ?_)⟩
    rcases hq with hq | hq
    · exact .inl hq
    · exact .inr (.inr (hq ▸ at_mem hi))
  rw [ev_raw (tab81 hsS)]
  by_cases hni : H.length - 1 = i
  · have hcut : cutL ltK f H i = H := by unfold cutL; rw [if_pos hni]
    obtain ⟨σ', e3, r1, r2, r3⟩ := fin (σ1 := σ) (by rw [hcut]; exact Q) (.refl _ _)
    have hne : ((H.length - 1 : Nat) : Int) = (i : Int) := by omega
    simp (disch := first | omega | (simp only [rkl]; omega)) only [rk1, rk2, rk3, rk4, rk5, Arg.get, ret1, AV.cells, AV.isCell, addOff, minmaxL, Cap.room, Cap.cut, cutI, isSt, resultOf, Function.comp_apply, Function.comp_def, beq_self_eq_true, if_true, if_false, ite_true, ite_false, reduceCtorEq, bne_self_eq_false, Option.some.injEq, Prod.mk.injEq, ↓reduceIte, Nat.reduceEqDiff, Nat.reduceAdd, Nat.reduceMul, Nat.reduceSub, Nat.reduceLeDiff, Nat.reduceLT, Int.reduceLT, Int.reduceLE, Int.reduceEq, Int.reduceAdd, Int.reduceSub, Int.reduceNeg, Int.reduceToNat, List.mapM_cons, List.mapM_nil, Option.pure_def, Option.bind_eq_bind, eq_self, decide_true, decide_false, code81, p81_1, p81_2, p81_3, p81_7, ev_invoke, el, hl, hne, e3]
    exact ⟨_, _, ⟨rfl, rfl⟩, r1, r2, r3⟩
  · have hcut : cutL ltK f H i = fixL ltK f (sw H i (H.length - 1)) i (H.length - 1) := by unfold cutL; rw [if_neg hni]
    have hne : ¬ (((H.length - 1 : Nat) : Int) = (i : Int)) := by omega
    obtain ⟨σ1, e1, Q1, o1⟩ := inv_swap Q hi (show H.length - 1 < H.length by omega) (by omega)
    obtain ⟨σ2, e2, Q2, o2⟩ := down_ev Q1 (i := i) (n := H.length - 1) (by omega) (by simp)
    have hsp := sw_perm (H := H) (i := i) (j := H.length - 1) hi (by omega)
    have hdp := downL_perm (lt := ltK) (f := f) (H.length - 1 - i) (H := sw H i (H.length - 1)) (i := i) rfl (by simp) (by simpa using hi)
    have o12 : Only σ σ2 (fun q => q = B ∨ q ∈ H) := o1.trans (o2.weak fun q hq => hq.imp id fun h => hsp.mem_iff.1 h)
    by_cases h : (downL ltK f (sw H i (H.length - 1)) i (H.length - 1)).2 > i
    · rw [decide_eq_true h] at e2
      have hf : fixL ltK f (sw H i (H.length - 1)) i (H.length - 1) = (downL ltK f (sw H i (H.length - 1)) i (H.length - 1)).1 := by unfold fixL; rw [if_pos h]
      obtain ⟨σ', e3, r1, r2, r3⟩ := fin (σ1 := σ2) (by rw [hcut, hf]; exact Q2) o12
      simp (disch := first | omega | (simp only [rkl]; omega)) only [rk1, rk2, rk3, rk4, rk5, Arg.get, ret1, AV.cells, AV.isCell, addOff, minmaxL, Cap.room, Cap.cut, cutI, isSt, resultOf, Function.comp_apply, Function.comp_def, beq_self_eq_true, if_true, if_false, ite_true, ite_false, reduceCtorEq, bne_self_eq_false, Option.some.injEq, Prod.mk.injEq, ↓reduceIte, Nat.reduceEqDiff, Nat.reduceAdd, Nat.reduceMul, Nat.reduceSub, Nat.reduceLeDiff, Nat.reduceLT, Int.reduceLT, Int.reduceLE, Int.reduceEq, Int.reduceAdd, Int.reduceSub, Int.reduceNeg, Int.reduceToNat, List.mapM_cons, List.mapM_nil, Option.pure_def, Option.bind_eq_bind, eq_self, decide_true, decide_false, code81, p81_1, p81_2, p81_3, p81_4, p81_5, p81_7, ev_invoke, el, hl, hne, e1, e2, e3]
      exact ⟨_, _, ⟨rfl, rfl⟩, r1, r2, r3⟩
    · rw [decide_eq_false h] at e2
      have hf : fixL ltK f (sw H i (H.length - 1)) i (H.length - 1) = upL ltK f (downL ltK f (sw H i (H.length - 1)) i (H.length - 1)).1 i := by unfold fixL; rw [if_neg h]
      obtain ⟨σ3, e4, Q3, o3⟩ := up_ev Q2 (j := i) (by rw [hdp.length_eq]; simpa using hi)
      have o13 : Only σ σ3 (fun q => q = B ∨ q ∈ H) := o12.trans (o3.weak fun q hq => hq.imp id fun h => hsp.mem_iff.1 (hdp.mem_iff.1 h))
      obtain ⟨σ', e3, r1, r2, r3⟩ := fin (σ1 := σ3) (by rw [hcut, hf]; exact Q3) o13
      simp (disch := first | omega | (simp only [rkl]; omega)) only [rk1, rk2, rk3, rk4, rk5, Arg.get, ret1, AV.cells, AV.isCell, addOff, minmaxL, Cap.room, Cap.cut, cutI, isSt, resultOf, Function.comp_apply, Function.comp_def, beq_self_eq_true, if_true, if_false, ite_true, ite_false, reduceCtorEq, bne_self_eq_false, Option.some.injEq, Prod.mk.injEq, ↓reduceIte, Nat.reduceEqDiff, Nat.reduceAdd, Nat.reduceMul, Nat.reduceSub, Nat.reduceLeDiff, Nat.reduceLT, Int.reduceLT, Int.reduceLE, Int.reduceEq, Int.reduceAdd, Int.reduceSub, Int.reduceNeg, Int.reduceToNat, List.mapM_cons, List.mapM_nil, Option.pure_def, Option.bind_eq_bind, eq_self, decide_true, decide_false, code81, p81_1, p81_2, p81_3, p81_4, p81_5, p81_6, p81_7, ev_invoke, el, hl, hne, e1, e2, e4, e3]
      exact ⟨_, _, ⟨rfl, rfl⟩, r1, r2, r3⟩
end
end Go.Proofs.Ytkhalpmmdlppkaa
