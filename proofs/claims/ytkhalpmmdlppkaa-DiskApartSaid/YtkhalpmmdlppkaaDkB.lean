/-
  THE DISK: what an object of it holds; the looks at it.
-/
import Derived.Test.YtkhalpmmdlppkaaDkA
namespace Go.Proofs.Ytkhalpmmdlppkaa
set_option linter.unusedSimpArgs false
set_option linter.unusedVariables false
open Go.Vm

abbrev W := List (Nat × List UInt8)
/-- The writes that wait, as cells. -/
def wc (w : W) : List AV := w.flatMap fun x => .int .i64 x.1 :: bs x.2
def Full (n : Nat) (w : W) : Prop := ∀ x ∈ w, x.1 < n ∧ x.2.length = 64

theorem wc_nil : wc [] = [] := rfl
theorem wc_cons (x : Nat × List UInt8) (w : W) : wc (x :: w) = (.int .i64 x.1 :: bs x.2) ++ wc w := rfl
theorem wc_app (w w' : W) : wc (w ++ w') = wc w ++ wc w' := by simp [wc]
theorem wc_len {n : Nat} : ∀ {w : W}, Full n w → (wc w).length = w.length * 65
  | [], _ => rfl
  | x :: w, h => by
    have hx := (h x (by simp)).2
    rw [wc_cons, List.length_append, List.length_cons, bs_len, hx, wc_len (w := w) fun y hy => h y (by simp [hy]), List.length_cons]
    omega
theorem wc_cell (w : W) : (wc w).all AV.isCell = true := by
  simp only [wc, List.all_eq_true, List.mem_flatMap, List.mem_cons]
  rintro x ⟨y, _, rfl | hx⟩
  · rfl
  · exact List.all_eq_true.1 (bs_cell y.2) x hx
theorem wc_snap (σ : St) (k : Nat) (w : W) : (wc w).mapM (snap σ (k + 1)) = some (wc w) := mapM_id fun y hy => by
  simp only [wc, List.mem_flatMap, List.mem_cons, bs, List.mem_map] at hy
  obtain ⟨z, _, rfl | ⟨u, _, rfl⟩⟩ := hy <;> rfl
theorem wc_flt (ok : Vm.Id → Nat → Bool) (w : W) : (wc w).all (AV.flt ok) = true := by
  simp only [wc, List.all_eq_true, List.mem_flatMap, List.mem_cons, bs, List.mem_map]
  rintro x ⟨y, _, rfl | ⟨u, _, rfl⟩⟩ <;> rfl
theorem bs_flt (ok : Vm.Id → Nat → Bool) (b : List UInt8) : (bs b).all (AV.flt ok) = true := by
  simp only [bs, List.all_eq_true, List.mem_map]
  rintro x ⟨u, _, rfl⟩; rfl
/-- One of the writes. -/
theorem wc_at {n : Nat} : ∀ {w : W} (_ : Full n w) {i : Nat} {x : Nat × List UInt8}, w[i]? = some x → ((wc w).drop (i * 65)).take 65 = .int .i64 x.1 :: bs x.2
  | y :: w, h, 0, x, hx => by
    simp only [List.getElem?_cons_zero, Option.some.injEq] at hx; subst hx
    have hy := (h y (by simp)).2
    rw [wc_cons, Nat.zero_mul, List.drop_zero]
    exact List.take_left' (by simp [hy])
  | y :: w, h, i + 1, x, hx => by
    have hy := (h y (by simp)).2
    rw [wc_cons, Nat.add_mul, Nat.one_mul, Nat.add_comm, ← List.drop_drop, List.drop_left' (by simp [hy])]
    exact wc_at (w := w) (fun z hz => h z (by simp [hz])) (by simpa using hx)

inductive WaitR : RC → W → Prop
  | nil : WaitR (.v .nilsl) []
  | sl (w : W) : WaitR (.sl (wc w) 0 w.length (.ge w.length) 65) w

structure DiskO (σ : St) (o : Nat) (K : List UInt8) (n : Nat) (w : W) (down : Bool) (armed : Int) : Prop where
  ex : ∃ kcap Wc, WaitR Wc w ∧ Vm.Obj σ o [.sl (bs K) 0 n kcap 64, Wc, .v (.bool down), .v (.int .i64 armed)]
  len : K.length = n * 64
  full : Full n w
  few : n ≤ 65536
  arm : 0 ≤ armed ∧ armed ≤ 9223372036854775807

/-- The picture of a disk. -/
def pic (K : List UInt8) (n : Nat) (fw : Bool) (w : W) (down : Bool) (armed : Int) : AV :=
  .iptr true [.isl true (bs K) n none, .isl fw (wc w) w.length none, .bool down, .int .i64 armed] 0

theorem DiskO.snap {σ : St} {o : Nat} {K : List UInt8} {n : Nat} {w : W} {down : Bool} {armed : Int} (h : DiskO σ o K n w down armed) : ∃ fw, snap σ 7 (.ptr ⟨o, 0, 0⟩ 0) = some (pic K n fw w down armed) := by
  obtain ⟨kcap, Wc, hw, ho⟩ := h.ex
  have hg := ho.get
  have hk := ho.sl (k := 0) rfl
  have hK : (bs K).take (n * 64) = bs K := List.take_of_length_le (by simp [h.len])
  cases hw with
  | nil =>
    refine ⟨false, ?_⟩
    simp [snap_ptr, hg, rcCells, RC.cell, snap_sl, hk, snap_bs, h.len, hK, pic, wc_nil, List.take_of_length_le]
  | sl =>
    refine ⟨true, ?_⟩
    have hs := ho.sl (k := 1) rfl
    have hW : (wc w).take (w.length * 65) = wc w := List.take_of_length_le (by simp [wc_len h.full])
    simp [snap_ptr, hg, rcCells, RC.cell, snap_sl, hk, hs, snap_bs, wc_snap, h.len, hK, pic, wc_len h.full, List.take_of_length_le]

section
variable {T : Table} {h : Hint} {K : List UInt8} {n : Nat} {fw : Bool} {w : W} {down : Bool} {armed : Int}

theorem up_pure : pureOf (run T) ⟨11, 1, code68, [.tmp 2], h⟩ [pic K n fw w down armed] = some (.int .i64 (if down then 3 else 0)) := by
  cases down <;> simp (disch := first | omega | (simp only [rkl]; omega)) only [rk1, rk2, rk3, rk4, rk5, Arg.get, ret1, AV.cells, AV.isCell, addOff, minmaxL, Cap.room, Cap.cut, cutI, isSt, resultOf, Function.comp_apply, Function.comp_def, beq_self_eq_true, if_true, if_false, ite_true, ite_false, reduceCtorEq, bne_self_eq_false, Option.some.injEq, Prod.mk.injEq, ↓reduceIte, Nat.reduceEqDiff, Nat.reduceAdd, Nat.reduceMul, Nat.reduceSub, Nat.reduceLeDiff, Nat.reduceLT, Int.reduceLT, Int.reduceLE, Int.reduceEq, Int.reduceAdd, Int.reduceSub, Int.reduceNeg, Int.reduceToNat, List.mapM_cons, List.mapM_nil, Option.pure_def, Option.bind_eq_bind, eq_self, decide_true, decide_false, code68, p68_1, p68_2, p68_3, p68_4, p68_5, p68_6, pic]

theorem size_pure : pureOf (run T) ⟨10, 1, code39, [.tmp 2], h⟩ [pic K n fw w down armed] = some (.int .i64 n) := by
  simp (disch := first | omega | (simp only [rkl]; omega)) only [rk1, rk2, rk3, rk4, rk5, Arg.get, ret1, AV.cells, AV.isCell, addOff, minmaxL, Cap.room, Cap.cut, cutI, isSt, resultOf, Function.comp_apply, Function.comp_def, beq_self_eq_true, if_true, if_false, ite_true, ite_false, reduceCtorEq, bne_self_eq_false, Option.some.injEq, Prod.mk.injEq, ↓reduceIte, Nat.reduceEqDiff, Nat.reduceAdd, Nat.reduceMul, Nat.reduceSub, Nat.reduceLeDiff, Nat.reduceLT, Int.reduceLT, Int.reduceLE, Int.reduceEq, Int.reduceAdd, Int.reduceSub, Int.reduceNeg, Int.reduceToNat, List.mapM_cons, List.mapM_nil, Option.pure_def, Option.bind_eq_bind, eq_self, decide_true, decide_false, code39, p39_1, p39_2, p39_3, p39_4, pic]

theorem waiting_pure : pureOf (run T) ⟨10, 1, code20, [.tmp 2], h⟩ [pic K n fw w down armed] = some (.int .i64 w.length) := by
  simp (disch := first | omega | (simp only [rkl]; omega)) only [rk1, rk2, rk3, rk4, rk5, Arg.get, ret1, AV.cells, AV.isCell, addOff, minmaxL, Cap.room, Cap.cut, cutI, isSt, resultOf, Function.comp_apply, Function.comp_def, beq_self_eq_true, if_true, if_false, ite_true, ite_false, reduceCtorEq, bne_self_eq_false, Option.some.injEq, Prod.mk.injEq, ↓reduceIte, Nat.reduceEqDiff, Nat.reduceAdd, Nat.reduceMul, Nat.reduceSub, Nat.reduceLeDiff, Nat.reduceLT, Int.reduceLT, Int.reduceLE, Int.reduceEq, Int.reduceAdd, Int.reduceSub, Int.reduceNeg, Int.reduceToNat, List.mapM_cons, List.mapM_nil, Option.pure_def, Option.bind_eq_bind, eq_self, decide_true, decide_false, code20, p20_1, p20_2, p20_3, p20_4, pic]

theorem down_pure : pureOf (run T) ⟨11, 1, code38, [.tmp 2], h⟩ [pic K n fw w down armed] = some (.bool down) := by
  simp (disch := first | omega | (simp only [rkl]; omega)) only [rk1, rk2, rk3, rk4, rk5, Arg.get, ret1, AV.cells, AV.isCell, addOff, minmaxL, Cap.room, Cap.cut, cutI, isSt, resultOf, Function.comp_apply, Function.comp_def, beq_self_eq_true, if_true, if_false, ite_true, ite_false, reduceCtorEq, bne_self_eq_false, Option.some.injEq, Prod.mk.injEq, ↓reduceIte, Nat.reduceEqDiff, Nat.reduceAdd, Nat.reduceMul, Nat.reduceSub, Nat.reduceLeDiff, Nat.reduceLT, Int.reduceLT, Int.reduceLE, Int.reduceEq, Int.reduceAdd, Int.reduceSub, Int.reduceNeg, Int.reduceToNat, List.mapM_cons, List.mapM_nil, Option.pure_def, Option.bind_eq_bind, eq_self, decide_true, decide_false, code38, p38_1, p38_2, pic]

end

/-- How the functions of the disk are called. -/
structure DiskH (hs : FuncId → Hint) : Prop where
  up : hs 68 = .pure
  size : hs 39 = .pure
  waiting : hs 20 = .pure
  down : hs 38 = .pure
  read : hs 23 = .pure
  sector : hs 18 = .pure
  hit : hs 69 = .raw
  write : hs 17 = .mut [(0, [])] none
  flush : hs 19 = .mut [(0, [])] none
  crash : hs 21 = .mut [(0, [])] none
  start : hs 22 = .mut [(0, [])] none
  arm : hs 29 = .mut [(0, [])] none
  new : hs 15 = .mut [] (some (some 0))
  fork : hs 34 = .mut [(0, [])] (some none)
  cloneS : hs 73 = .raw
  cloneW : hs 74 = .raw

section
variable {hs : FuncId → Hint} (H : DiskH hs) {σ : St} {o : Nat} {K : List UInt8} {n : Nat} {w : W} {down : Bool} {armed : Int} (D : DiskO σ o K n w down armed)
include H D

theorem up_ev : ev (tab hs) 68 [.ptr ⟨o, 0, 0⟩ 0] σ = some (.int .i64 (if down then 3 else 0), σ) := by
  obtain ⟨fw, hsn⟩ := D.snap
  exact pure_ev (H.up ▸ tab68 hs) (snaps_cons hsn (snaps_nil σ)) up_pure
theorem size_ev : ev (tab hs) 39 [.ptr ⟨o, 0, 0⟩ 0] σ = some (.int .i64 n, σ) := by
  obtain ⟨fw, hsn⟩ := D.snap
  exact pure_ev (H.size ▸ tab39 hs) (snaps_cons hsn (snaps_nil σ)) size_pure
theorem waiting_ev : ev (tab hs) 20 [.ptr ⟨o, 0, 0⟩ 0] σ = some (.int .i64 w.length, σ) := by
  obtain ⟨fw, hsn⟩ := D.snap
  exact pure_ev (H.waiting ▸ tab20 hs) (snaps_cons hsn (snaps_nil σ)) waiting_pure
theorem down_ev : ev (tab hs) 38 [.ptr ⟨o, 0, 0⟩ 0] σ = some (.bool down, σ) := by
  obtain ⟨fw, hsn⟩ := D.snap
  exact pure_ev (H.down ▸ tab38 hs) (snaps_cons hsn (snaps_nil σ)) down_pure
end
end Go.Proofs.Ytkhalpmmdlppkaa
