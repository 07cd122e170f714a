/-
  THE SHELF: New, Clean, Touch.
-/
import Derived.Test.YtkhalpmmdlppkaaShH
namespace Go.Proofs.Ytkhalpmmdlppkaa
set_option linter.unusedSimpArgs false
set_option linter.unusedVariables false
open Go.Vm

def St.newMap (σ : St) : St := (σ.alloc (.map [] [])).2
theorem ev_makeMap (E : CallH) (ρ : Env) (σ : St) : Ins.ev E ρ σ .makeMap = some (.map ⟨σ.next, 0, 0⟩, St.newMap σ) := rfl

theorem new_shelf_bad (σ : St) {bud : Int} (h : ¬ (0 ≤ bud ∧ bud ≤ 1073741824)) : ev (tab hsS) 40 [.int .i64 bud] σ = some (.tup [.nilp, .int .i64 1], σ) := by
  rw [ev_raw (tab40 hsS)]
  by_cases h1 : bud < 0
  · simp (disch := first | omega | (simp only [rkl]; omega)) only [rk1, rk2, rk3, rk4, rk5, Arg.get, ret1, AV.cells, AV.isCell, addOff, minmaxL, Cap.room, Cap.cut, cutI, isSt, resultOf, Function.comp_apply, Function.comp_def, beq_self_eq_true, if_true, if_false, ite_true, ite_false, reduceCtorEq, bne_self_eq_false, Option.some.injEq, Prod.mk.injEq, ↓reduceIte, Nat.reduceEqDiff, Nat.reduceAdd, Nat.reduceMul, Nat.reduceSub, Nat.reduceLeDiff, Nat.reduceLT, Int.reduceLT, Int.reduceLE, Int.reduceEq, Int.reduceAdd, Int.reduceSub, Int.reduceNeg, Int.reduceToNat, List.mapM_cons, List.mapM_nil, Option.pure_def, Option.bind_eq_bind, eq_self, decide_true, decide_false, code40, p40_1, p40_2, p40_3, h1]
  · have h2 : bud > 1073741824 := by omega
    simp (disch := first | omega | (simp only [rkl]; omega)) only [rk1, rk2, rk3, rk4, rk5, Arg.get, ret1, AV.cells, AV.isCell, addOff, minmaxL, Cap.room, Cap.cut, cutI, isSt, resultOf, Function.comp_apply, Function.comp_def, beq_self_eq_true, if_true, if_false, ite_true, ite_false, reduceCtorEq, bne_self_eq_false, Option.some.injEq, Prod.mk.injEq, ↓reduceIte, Nat.reduceEqDiff, Nat.reduceAdd, Nat.reduceMul, Nat.reduceSub, Nat.reduceLeDiff, Nat.reduceLT, Int.reduceLT, Int.reduceLE, Int.reduceEq, Int.reduceAdd, Int.reduceSub, Int.reduceNeg, Int.reduceToNat, List.mapM_cons, List.mapM_nil, Option.pure_def, Option.bind_eq_bind, eq_self, decide_true, decide_false, code40, p40_1, p40_2, p40_3, h1, h2]

theorem new_shelf (σ : St) (f : Vm.Id → Ky) {bud : Int} (h : 0 ≤ bud ∧ bud ≤ 1073741824) : ∃ σ', ev (tab hsS) 40 [.int .i64 bud] σ = some (.tup [.ptr ⟨σ.next + 1, 0, 0⟩ 0, .int .i64 0], σ') ∧
    Rep σ' ⟨σ.next + 1, 0, 0⟩ ⟨σ.next, 0, 0⟩ bud [] [] f .nilsl ∧ Frm σ σ' (fun _ => False) := by
  have h1 : ¬ (bud < 0) := by omega
  have h2 : ¬ (bud > 1073741824) := by omega
  have hfv : fillV [.int .i64 0, .int .i64 0, .nilm, .nilsl] [(0, 1, [.int .i64 bud]), (2, 1, [.map ⟨σ.next, 0, 0⟩])] = some [.int .i64 bud, .int .i64 0, .map ⟨σ.next, 0, 0⟩, .nilsl] := rfl
  have nn : (St.newMap σ).next = σ.next + 1 := rfl
  have hz : newCells (St.newMap σ) [.int .i64 bud, .int .i64 0, .map ⟨σ.next, 0, 0⟩, .nilsl] = some (⟨σ.next + 1, 0, 0⟩, (St.newMap σ).new [.int .i64 bud, .int .i64 0, .map ⟨σ.next, 0, 0⟩, .nilsl]) := newCells_ok rfl
  have hm : ((St.newMap σ).new [.int .i64 bud, .int .i64 0, .map ⟨σ.next, 0, 0⟩, .nilsl]).heap ⟨σ.next, 0, 0⟩ = some (.map [] []) := by
    simp [St.new, nn]; simp [St.newMap, St.alloc, St.set]
  have n2 : ((St.newMap σ).new [.int .i64 bud, .int .i64 0, .map ⟨σ.next, 0, 0⟩, .nilsl]).next = σ.next + 2 := rfl
  refine ⟨(St.newMap σ).new [.int .i64 bud, .int .i64 0, .map ⟨σ.next, 0, 0⟩, .nilsl], ?_, ⟨.nil ?_, by simpa [keysOf, ptrs] using hm, by simp, by simp, by simp, by simp, by rw [n2]; show σ.next + 1 < _; omega, by rw [n2]; show σ.next < _; omega, by simp, by simp, by simp, by simp, by simp [refId], by simp, by simp, by simp⟩, ⟨by rw [n2]; omega, rfl, fun q hq _ => ?_⟩⟩
  · rw [ev_raw (tab40 hsS)]
    simp (disch := first | omega | (simp only [rkl]; omega)) only [rk1, rk2, rk3, rk4, rk5, Arg.get, ret1, AV.cells, AV.isCell, addOff, minmaxL, Cap.room, Cap.cut, cutI, isSt, resultOf, Function.comp_apply, Function.comp_def, beq_self_eq_true, if_true, if_false, ite_true, ite_false, reduceCtorEq, bne_self_eq_false, Option.some.injEq, Prod.mk.injEq, ↓reduceIte, Nat.reduceEqDiff, Nat.reduceAdd, Nat.reduceMul, Nat.reduceSub, Nat.reduceLeDiff, Nat.reduceLT, Int.reduceLT, Int.reduceLE, Int.reduceEq, Int.reduceAdd, Int.reduceSub, Int.reduceNeg, Int.reduceToNat, List.mapM_cons, List.mapM_nil, Option.pure_def, Option.bind_eq_bind, eq_self, decide_true, decide_false, code40, p40_1, p40_2, p40_4, h1, h2, ev_makeMap, hfv, hz]
  · rw [get_new, if_pos (by rw [nn])]; simp [sumL]
  · have e1 : ¬ (q = ⟨σ.next, 0, 0⟩) := fun e => by subst e; simp at hq
    have e2 : ¬ (q = ⟨σ.next + 1, 0, 0⟩) := fun e => by subst e; simp at hq; omega
    simp [St.new, nn, e2]; simp [St.newMap, St.alloc, St.set, e1]

theorem lookP_some {f : Vm.Id → Ky} {L : List Vm.Id} {v u : Int} {j : Nat} (h : posOf (kf f) L v u = some j) : lookP f L v u = .ptr (at_ L j) 0 := by unfold lookP; rw [h]
theorem lookP_none {f : Vm.Id → Ky} {L : List Vm.Id} {v u : Int} (h : posOf (kf f) L v u = none) : lookP f L v u = .nilp := by unfold lookP; rw [h]
theorem pos_lt {f : Vm.Id → Ky} {L : List Vm.Id} {v u : Int} {j : Nat} (h : posOf (kf f) L v u = some j) : j < L.length := (posOf_some _ h).1

/-- A thing's data are other. -/
theorem Hc.other {σ : St} {S : Vm.Id} {b z m : AV} {f : Vm.Id → Ky} {H : List Vm.Id} {cc : AV} (h : Hc σ S b z m f H cc) {x : Vm.Id} {y : Ky} {a : Int} (xS : x ≠ S) (xB : refId cc ≠ some x) (ha : ∀ k, k < H.length → at_ H k = x → a = k) :
    Hc (σ.set x (some (.cells (thc y a)))) S b z m (upd f x y) H cc := by
  have hg : ∀ q, q ≠ x → (σ.set x (some (.cells (thc y a)))).get q = σ.get q := fun q hq => by rw [get_set, if_neg hq]
  cases h with
  | nil hs => exact .nil ((hg S xS.symm).trans hs)
  | sl Q h1 h2 hB =>
    have xB2 : x ≠ _ := fun e => xB (by simp [refId, e]; rfl)
    refine .sl ⟨(hg S xS.symm).trans Q.hs, (hg _ (fun e => xB (by simp [refId, e]))).trans Q.hb, fun k hk => ?_, Q.nd, Q.sb, Q.sh, Q.bh, Q.few⟩ h1 h2 hB
    by_cases e : at_ H k = x
    · rw [e, upd_same, get_set_same, ha k hk e]
    · rw [upd_other e, hg _ e]; exact Q.ht k hk

section
variable {σ : St} {S M : Vm.Id} {bud : Int} {L H : List Vm.Id} {f : Vm.Id → Ky} {cc : AV} (R : Rep σ S M bud L H f cc)
include R

theorem Rep.other {x : Vm.Id} (hx : x ∈ L) {y : Ky} {a : Int} (hv : y.v = (f x).v) (hu : y.u = (f x).u) (hs : y.sz = (f x).sz) (ha : (∃ k, k < H.length ∧ at_ H k = x ∧ a = k) ∨ (x ∉ H ∧ a = -1)) :
    Rep (σ.set x (some (.cells (thc y a)))) S M bud L H (upd f x y) cc := by
  have xS : x ≠ S := fun e => R.sL (e ▸ hx)
  have xM : M ≠ x := fun e => R.mL (e ▸ hx)
  have hkf : ∀ z, kf (upd f x y) z = kf f z := fun z => by
    by_cases e : z = x
    · subst e; simp [kf, upd_same, hv, hu]
    · simp [kf, upd_other e]
  have hsz : ∀ z, (upd f x y z).sz = (f z).sz := fun z => by
    by_cases e : z = x
    · subst e; rw [upd_same, hs]
    · rw [upd_other e]
  have hsum : sumL (upd f x y) L = sumL f L := by simp [sumL, hsz]
  have hkeys : keysOf (upd f x y) L = keysOf f L := by simp [keysOf, hkf]
  have ha' : ∀ k, k < H.length → at_ H k = x → a = k := fun k hk e => by
    rcases ha with ⟨i, hi, e2, rfl⟩ | ⟨h1, _⟩
    · rw [at_inj R.hc.nd hi hk (e2.trans e.symm)]
    · exact absurd (e ▸ at_mem hk) h1
  refine ⟨by rw [hsum]; exact R.hc.other xS (R.bL x hx) ha', by rw [hkeys]; simpa [St.set, xM] using R.hm, R.sub, fun w hw hwH => ?_, R.nd, fun p hp w hw h1 h2 => ?_, R.lS, R.lM, R.lL, R.mS, R.mL, R.sL, R.mB, R.bL, R.few, fun w hw => by rw [hsz]; exact R.sz w hw⟩
  · by_cases e : w = x
    · subst e
      rcases ha with ⟨i, hi, e2, _⟩ | ⟨_, rfl⟩
      · exact absurd (e2 ▸ at_mem hi) hwH
      · rw [get_set_same, upd_same]
    · rw [get_set, if_neg e, upd_other e]; exact R.off w hw hwH
  · have e1 := hkf p
    have e2 := hkf w
    simp only [kf, Prod.mk.injEq] at e1 e2
    exact R.key p hp w hw (by rw [← e1.1, ← e2.1]; exact h1) (by rw [← e1.2, ← e2.2]; exact h2)

theorem Rep.fix {i : Nat} (hi : i < H.length) : ∃ σ', ev (tab hsS) 80 [.iface 131 (.ptr S 3), .int .i64 i] σ = some (.tup [], σ') ∧ Rep σ' S M bud L (fixL ltK f H i H.length) f cc ∧ Frm σ σ' (Fp S M L cc) := by
  obtain ⟨σ', e, h', o⟩ := fix80 R.hc hi
  have hp := fixL_perm (lt := ltK) (f := f) (Nat.le_refl H.length) hi
  have hmem : ∀ y, y ∈ fixL ltK f H i H.length ↔ y ∈ H := fun y => hp.mem_iff
  have hn := o.next
  refine ⟨σ', e, ⟨h', ?_, fun y hy => R.sub y ((hmem y).1 hy), fun y hy hyH => ?_, R.nd, R.key, by rw [hn]; exact R.lS, by rw [hn]; exact R.lM, fun y hy => by rw [hn]; exact R.lL y hy, R.mS, R.mL, R.sL, R.mB, R.bL, R.few, R.sz⟩, (o.weak fun q hq => ?_).frm⟩
  · rw [o.heap M ?_]; exact R.hm
    rintro (h | h)
    · exact R.mL (R.sub M h)
    · exact R.mB h
  · have n1 : y ∉ H := fun h => hyH ((hmem y).2 h)
    rw [o.get ?_]; exact R.off y hy n1
    rintro (h | h)
    · exact n1 h
    · exact R.bL y hy h
  · rcases hq with hq | hq
    · exact .inr (.inr (.inl (R.sub q hq)))
    · exact .inr (.inr (.inr hq))

/-- The state behind find. -/
theorem Rep.look2 (v u : Int) : Rep ((σ.new [.int .u32 v, .int .u32 u]).new [.int .u32 v, .int .u32 u]) S M bud L H f cc ∧ ev (tab hsS) 79 [.ptr S 0, .agg [.int .u32 v, .int .u32 u]] (σ.new [.int .u32 v, .int .u32 u]) = some (lookP f L v u, (σ.new [.int .u32 v, .int .u32 u]).new [.int .u32 v, .int .u32 u]) ∧
    Frm σ ((σ.new [.int .u32 v, .int .u32 u]).new [.int .u32 v, .int .u32 u]) (fun _ => False) := by
  have f1 := Frm.new σ [.int .u32 v, .int .u32 u] (fun _ => False)
  have f2 := Frm.new (σ.new [.int .u32 v, .int .u32 u]) [.int .u32 v, .int .u32 u] (fun _ => False)
  have R1 := R.frm f1 (fun _ _ h => h)
  exact ⟨R1.frm f2 (fun _ _ h => h), find_ev R1 v u, f1.trans f2 (fun _ _ h => h)⟩

theorem clean_none {v u : Int} (hp : posOf (kf f) L v u = none) : ∃ σ', ev (tab hsS) 50 [.ptr S 0, .agg [.int .u32 v, .int .u32 u]] σ = some (.bool false, σ') ∧ Frm σ σ' (fun _ => False) := by
  have hz : newCells σ [.int .u32 v, .int .u32 u] = some (⟨σ.next, 0, 0⟩, σ.new [.int .u32 v, .int .u32 u]) := newCells_ok rfl
  have hk : (σ.new [.int .u32 v, .int .u32 u]).get ⟨σ.next, 0, 0⟩ = some [.int .u32 v, .int .u32 u] := by rw [get_new, if_pos rfl]
  obtain ⟨R2, e2, f2⟩ := R.look2 v u
  rw [lookP_none hp] at e2
  refine ⟨_, ?_, f2⟩
  rw [ev_raw (tab50 hsS)]
  simp (disch := first | omega | (simp only [rkl]; omega)) only [rk1, rk2, rk3, rk4, rk5, Arg.get, ret1, AV.cells, AV.isCell, addOff, minmaxL, Cap.room, Cap.cut, cutI, isSt, resultOf, Function.comp_apply, Function.comp_def, beq_self_eq_true, if_true, if_false, ite_true, ite_false, reduceCtorEq, bne_self_eq_false, Option.some.injEq, Prod.mk.injEq, ↓reduceIte, Nat.reduceEqDiff, Nat.reduceAdd, Nat.reduceMul, Nat.reduceSub, Nat.reduceLeDiff, Nat.reduceLT, Int.reduceLT, Int.reduceLE, Int.reduceEq, Int.reduceAdd, Int.reduceSub, Int.reduceNeg, Int.reduceToNat, List.mapM_cons, List.mapM_nil, Option.pure_def, Option.bind_eq_bind, eq_self, decide_true, decide_false, code50, p50_1, p50_2, p50_3, p50_4, hz, hk, e2]

theorem clean_ok {v u : Int} {j : Nat} (hp : posOf (kf f) L v u = some j) : ∃ σ' cc', ev (tab hsS) 50 [.ptr S 0, .agg [.int .u32 v, .int .u32 u]] σ = some (.bool true, σ') ∧
    Rep σ' S M bud L (if at_ L j ∈ H then H else upL ltK f (H ++ [at_ L j]) H.length) f cc' ∧ Frm σ σ' (Fp S M L cc) ∧ (∀ q, Fp S M L cc' q → Fp S M L cc q ∨ σ.next ≤ q.o) := by
  have hz : newCells σ [.int .u32 v, .int .u32 u] = some (⟨σ.next, 0, 0⟩, σ.new [.int .u32 v, .int .u32 u]) := newCells_ok rfl
  have hk : (σ.new [.int .u32 v, .int .u32 u]).get ⟨σ.next, 0, 0⟩ = some [.int .u32 v, .int .u32 u] := by rw [get_new, if_pos rfl]
  obtain ⟨R2, e2, f2⟩ := R.look2 v u
  rw [lookP_some hp] at e2
  have hx : at_ L j ∈ L := at_mem (pos_lt hp)
  obtain ⟨a, hg, ha⟩ := R2.thing hx
  have hn := f2.next
  by_cases hH : at_ L j ∈ H
  · rcases ha with ⟨k, hk2, _, rfl⟩ | ⟨h, _⟩
    · refine ⟨_, cc, ?_, by rw [if_pos hH]; exact R2, f2.weak (fun _ h => h.elim), fun q hq => .inl hq⟩
      have h0 : ¬ ((k : Int) < 0) := by omega
      rw [ev_raw (tab50 hsS)]
      simp (disch := first | omega | (simp only [rkl]; omega)) only [rk1, rk2, rk3, rk4, rk5, Arg.get, ret1, AV.cells, AV.isCell, addOff, minmaxL, Cap.room, Cap.cut, cutI, isSt, resultOf, Function.comp_apply, Function.comp_def, beq_self_eq_true, if_true, if_false, ite_true, ite_false, reduceCtorEq, bne_self_eq_false, Option.some.injEq, Prod.mk.injEq, ↓reduceIte, Nat.reduceEqDiff, Nat.reduceAdd, Nat.reduceMul, Nat.reduceSub, Nat.reduceLeDiff, Nat.reduceLT, Int.reduceLT, Int.reduceLE, Int.reduceEq, Int.reduceAdd, Int.reduceSub, Int.reduceNeg, Int.reduceToNat, List.mapM_cons, List.mapM_nil, Option.pure_def, Option.bind_eq_bind, eq_self, decide_true, decide_false, code50, p50_1, p50_2, p50_3, p50_5, p50_7, hz, hk, e2, hg, thc, h0]
    · exact absurd hH h
  · rcases ha with ⟨k, hk2, e, _⟩ | ⟨_, rfl⟩
    · exact absurd (e ▸ at_mem hk2) hH
    · obtain ⟨σ', cc', e3, R3, f3, hw⟩ := R2.push hx hH
      refine ⟨σ', cc', ?_, by rw [if_neg hH]; exact R3, (f2.weak (fun _ h => h.elim)).trans f3 (fun q hq h => h), fun q hq => ?_⟩
      · rw [ev_raw (tab50 hsS)]
        simp (disch := first | omega | (simp only [rkl]; omega)) only [rk1, rk2, rk3, rk4, rk5, Arg.get, ret1, AV.cells, AV.isCell, addOff, minmaxL, Cap.room, Cap.cut, cutI, isSt, resultOf, Function.comp_apply, Function.comp_def, beq_self_eq_true, if_true, if_false, ite_true, ite_false, reduceCtorEq, bne_self_eq_false, Option.some.injEq, Prod.mk.injEq, ↓reduceIte, Nat.reduceEqDiff, Nat.reduceAdd, Nat.reduceMul, Nat.reduceSub, Nat.reduceLeDiff, Nat.reduceLT, Int.reduceLT, Int.reduceLE, Int.reduceEq, Int.reduceAdd, Int.reduceSub, Int.reduceNeg, Int.reduceToNat, List.mapM_cons, List.mapM_nil, Option.pure_def, Option.bind_eq_bind, eq_self, decide_true, decide_false, code50, p50_1, p50_2, p50_3, p50_5, p50_6, p50_7, hz, hk, e2, hg, thc, e3]
      · rcases hw q hq with h | h
        · exact .inl h
        · exact .inr (by omega)
end
end Go.Proofs.Ytkhalpmmdlppkaa
