/-
  ShelfKeeps: things are put.
-/
import Derived.Test.YtkhalpmmdlppkaaShM
namespace Go.Proofs.Ytkhalpmmdlppkaa
set_option linter.unusedSimpArgs false
set_option linter.unusedVariables false
open Go.Vm

def rowsOf (f : Vm.Id → Ky) (cl : Vm.Id → Bool) (L : List Vm.Id) : List Rw := L.map fun x => ⟨f x, cl x⟩
theorem rowsOf_len (f : Vm.Id → Ky) (cl : Vm.Id → Bool) (L : List Vm.Id) : (rowsOf f cl L).length = L.length := by simp [rowsOf]
theorem rowsOf_cong {f g : Vm.Id → Ky} {cl cl2 : Vm.Id → Bool} {L : List Vm.Id} (h : ∀ x ∈ L, f x = g x ∧ cl x = cl2 x) : rowsOf f cl L = rowsOf g cl2 L := by
  unfold rowsOf
  exact List.map_congr_left fun x hx => by rw [(h x hx).1, (h x hx).2]

structure Inv7 (ρ : Env) (σ : St) (S M : Vm.Id) (bud : Int) (i : Nat) (l : List Sc) (L H : List Vm.Id) (f : Vm.Id → Ky) (cl : Vm.Id → Bool) (cc a : AV) : Prop where
  R : Rep σ S M bud L H f cc
  O : HavL σ a (rowsOf f cl L)
  la : ∀ G, refId a = some G → G.o < σ.next ∧ ¬ Fp S M L cc G
  hcl : ∀ x ∈ L, x ∈ H ↔ cl x = true
  r0 : ρ 0 = .int .i64 bud
  r1 : ρ 1 = .isl false (scs l) l.length none
  r5 : ρ 5 = .ptr S 0
  r7 : ρ 7 = a
  r8 : ρ 8 = .int .i64 i
  few : L.length ≤ i

def Next7 (S M : Vm.Id) (bud : Int) (i : Nat) (l : List Sc) (r : Option (Ex × Env × St)) : Prop := ∃ ρ σ L H f cl cc a, r = some (.normal, ρ, σ) ∧ Inv7 ρ σ S M bud i l L H f cl cc a
theorem next7_mk {ρ : Env} {σ : St} {S M : Vm.Id} {bud : Int} {i : Nat} {l : List Sc} {L H : List Vm.Id} {f : Vm.Id → Ky} {cl : Vm.Id → Bool} {cc a : AV} (h : Inv7 ρ σ S M bud i l L H f cl cc a) : Next7 S M bud i l (some (.normal, ρ, σ)) :=
  ⟨_, _, _, _, _, _, _, _, rfl, h⟩

def bPut : C := .seq (.ops p7_11) (.cond (.t 62) (.ops p7_12) .skip)
theorem l7_14_eq : l7_14 = .seq (.seq (.ops p7_8) (.cond (.t 41) .skip (.exit 0))) (.seq (.block 1 (.seq (.ops p7_9) (.seq (.ops p7_10) bPut))) (.ops p7_13)) := rfl

theorem sz_fill (v u sz us : Int) (c : Bool) : fillV [.int .u32 0, .int .u32 0, .int .i64 0, .int .i64 0, .bool false] [(0, 2, [.int .u32 v, .int .u32 u]), (2, 1, [.int .i64 sz]), (3, 1, [.int .i64 us]), (4, 1, [.bool c])] = some (rwc ⟨⟨v, u, sz, us⟩, c⟩) := rfl
theorem row_fill (r : Rw) : fillV [.int .u32 0, .int .u32 0, .int .i64 0, .int .i64 0, .bool false] [(0, 5, rwc r)] = some (rwc r) := rfl

/-- What the body of a round comes to. -/
structure Mid7 (ρ ρ' : Env) (σ' : St) (S M : Vm.Id) (bud : Int) (n : Nat) (L H : List Vm.Id) (f : Vm.Id → Ky) (cl : Vm.Id → Bool) (cc a : AV) : Prop where
  R : Rep σ' S M bud L H f cc
  O : HavL σ' a (rowsOf f cl L)
  la : ∀ G, refId a = some G → G.o < σ'.next ∧ ¬ Fp S M L cc G
  hcl : ∀ x ∈ L, x ∈ H ↔ cl x = true
  r0 : ρ' 0 = ρ 0
  r1 : ρ' 1 = ρ 1
  r5 : ρ' 5 = ρ 5
  r7 : ρ' 7 = a
  r8 : ρ' 8 = ρ 8
  few : L.length ≤ n + 1

theorem bPut_ok {ρ : Env} {σ : St} {S M : Vm.Id} {bud : Int} {L H : List Vm.Id} {f : Vm.Id → Ky} {cl : Vm.Id → Bool} {cc a : AV} {r : Option (Ex × Env × St)} (hr : run (tab hsS) bPut ρ σ = r) (R : Rep σ S M bud L H f cc) (O : HavL σ a (rowsOf f cl L))
    (la : ∀ G, refId a = some G → G.o < σ.next ∧ ¬ Fp S M L cc G) (hcl : ∀ x ∈ L, x ∈ H ↔ cl x = true) (few : L.length < 1000) {x : Sc} {q : Vm.Id} {n : Nat} (hn : n ≤ 1048576) (hq : σ.get q = some (scc x)) (lq : q.o < σ.next) (nq : ¬ Fp S M L cc q) (qa : refId a ≠ some q)
    (r5 : ρ 5 = .ptr S 0) (r7 : ρ 7 = a) (r9 : ρ 9 = .ptr q 0) (r10 : ρ 10 = .int .i64 n) :
    ∃ ρ' σ' L' H' f' cl' cc' a', r = some (.normal, ρ', σ') ∧ Mid7 ρ ρ' σ' S M bud L.length L' H' f' cl' cc' a' := by
  subst hr
  cases hp : posOf (kf f) L x.v x.u with
  | some j =>
    obtain ⟨σ1, e1, f1⟩ := put_twice R (sz := n) (by omega) hp x.us x.c
    have hn1 := f1.next
    have hrun : ∃ ρ', run (tab hsS) bPut ρ σ = some (.normal, ρ', σ1) ∧ ρ' 0 = ρ 0 ∧ ρ' 1 = ρ 1 ∧ ρ' 5 = ρ 5 ∧ ρ' 7 = ρ 7 ∧ ρ' 8 = ρ 8 := by
      simp (disch := first | omega | (simp only [rkl]; omega)) only [rk1, rk2, rk3, rk4, rk5, Arg.get, ret1, AV.cells, AV.isCell, addOff, minmaxL, Cap.room, Cap.cut, cutI, isSt, resultOf, Function.comp_apply, Function.comp_def, beq_self_eq_true, if_true, if_false, ite_true, ite_false, reduceCtorEq, bne_self_eq_false, Option.some.injEq, Prod.mk.injEq, ↓reduceIte, Nat.reduceEqDiff, Nat.reduceAdd, Nat.reduceMul, Nat.reduceSub, Nat.reduceLeDiff, Nat.reduceLT, Int.reduceLT, Int.reduceLE, Int.reduceEq, Int.reduceAdd, Int.reduceSub, Int.reduceNeg, Int.reduceToNat, List.mapM_cons, List.mapM_nil, Option.pure_def, Option.bind_eq_bind, eq_self, decide_true, decide_false, bPut, p7_11, r5, r9, r10, hq, scc, e1]
      exact ⟨_, rfl, by simp (disch := first | omega | (simp only [rkl]; omega)) only [rk1, rk2, rk3, rk4, rk5, Arg.get, ret1, AV.cells, AV.isCell, addOff, minmaxL, Cap.room, Cap.cut, cutI, isSt, resultOf, Function.comp_apply, Function.comp_def, beq_self_eq_true, if_true, if_false, ite_true, ite_false, reduceCtorEq, bne_self_eq_false, Option.some.injEq, Prod.mk.injEq, ↓reduceIte, Nat.reduceEqDiff, Nat.reduceAdd, Nat.reduceMul, Nat.reduceSub, Nat.reduceLeDiff, Nat.reduceLT, Int.reduceLT, Int.reduceLE, Int.reduceEq, Int.reduceAdd, Int.reduceSub, Int.reduceNeg, Int.reduceToNat, List.mapM_cons, List.mapM_nil, Option.pure_def, Option.bind_eq_bind, eq_self, decide_true, decide_false], by simp (disch := first | omega | (simp only [rkl]; omega)) only [rk1, rk2, rk3, rk4, rk5, Arg.get, ret1, AV.cells, AV.isCell, addOff, minmaxL, Cap.room, Cap.cut, cutI, isSt, resultOf, Function.comp_apply, Function.comp_def, beq_self_eq_true, if_true, if_false, ite_true, ite_false, reduceCtorEq, bne_self_eq_false, Option.some.injEq, Prod.mk.injEq, ↓reduceIte, Nat.reduceEqDiff, Nat.reduceAdd, Nat.reduceMul, Nat.reduceSub, Nat.reduceLeDiff, Nat.reduceLT, Int.reduceLT, Int.reduceLE, Int.reduceEq, Int.reduceAdd, Int.reduceSub, Int.reduceNeg, Int.reduceToNat, List.mapM_cons, List.mapM_nil, Option.pure_def, Option.bind_eq_bind, eq_self, decide_true, decide_false], by simp (disch := first | omega | (simp only [rkl]; omega)) only [rk1, rk2, rk3, rk4, rk5, Arg.get, ret1, AV.cells, AV.isCell, addOff, minmaxL, Cap.room, Cap.cut, cutI, isSt, resultOf, Function.comp_apply, Function.comp_def, beq_self_eq_true, if_true, if_false, ite_true, ite_false, reduceCtorEq, bne_self_eq_false, Option.some.injEq, Prod.mk.injEq, ↓reduceIte, Nat.reduceEqDiff, Nat.reduceAdd, Nat.reduceMul, Nat.reduceSub, Nat.reduceLeDiff, Nat.reduceLT, Int.reduceLT, Int.reduceLE, Int.reduceEq, Int.reduceAdd, Int.reduceSub, Int.reduceNeg, Int.reduceToNat, List.mapM_cons, List.mapM_nil, Option.pure_def, Option.bind_eq_bind, eq_self, decide_true, decide_false, r5], by simp (disch := first | omega | (simp only [rkl]; omega)) only [rk1, rk2, rk3, rk4, rk5, Arg.get, ret1, AV.cells, AV.isCell, addOff, minmaxL, Cap.room, Cap.cut, cutI, isSt, resultOf, Function.comp_apply, Function.comp_def, beq_self_eq_true, if_true, if_false, ite_true, ite_false, reduceCtorEq, bne_self_eq_false, Option.some.injEq, Prod.mk.injEq, ↓reduceIte, Nat.reduceEqDiff, Nat.reduceAdd, Nat.reduceMul, Nat.reduceSub, Nat.reduceLeDiff, Nat.reduceLT, Int.reduceLT, Int.reduceLE, Int.reduceEq, Int.reduceAdd, Int.reduceSub, Int.reduceNeg, Int.reduceToNat, List.mapM_cons, List.mapM_nil, Option.pure_def, Option.bind_eq_bind, eq_self, decide_true, decide_false], by simp (disch := first | omega | (simp only [rkl]; omega)) only [rk1, rk2, rk3, rk4, rk5, Arg.get, ret1, AV.cells, AV.isCell, addOff, minmaxL, Cap.room, Cap.cut, cutI, isSt, resultOf, Function.comp_apply, Function.comp_def, beq_self_eq_true, if_true, if_false, ite_true, ite_false, reduceCtorEq, bne_self_eq_false, Option.some.injEq, Prod.mk.injEq, ↓reduceIte, Nat.reduceEqDiff, Nat.reduceAdd, Nat.reduceMul, Nat.reduceSub, Nat.reduceLeDiff, Nat.reduceLT, Int.reduceLT, Int.reduceLE, Int.reduceEq, Int.reduceAdd, Int.reduceSub, Int.reduceNeg, Int.reduceToNat, List.mapM_cons, List.mapM_nil, Option.pure_def, Option.bind_eq_bind, eq_self, decide_true, decide_false]⟩
    obtain ⟨ρ', hr, q0, q1, q5, q7, q8⟩ := hrun
    exact ⟨ρ', σ1, L, H, f, cl, cc, a, hr, R.frm f1 (fun _ _ h => h), O.keep fun G hG => f1.get (la G hG).1 (fun h => h), fun G hG => ⟨by have := (la G hG).1; omega, (la G hG).2⟩, hcl, q0, q1, q5, q7.trans r7, q8, by omega⟩
  | none =>
    obtain ⟨σ1, X, cc1, e1, R1, f1, XL, lX, hw⟩ := put_ok R (sz := n) (by omega) hp x.us x.c (by omega)
    have hn1 := f1.next
    have hq1 : σ1.get q = some (scc x) := (f1.get lq nq).trans hq
    let f' := upd f X ⟨x.v, x.u, n, x.us⟩
    let cl' : Vm.Id → Bool := fun z => if z = X then x.c else cl z
    have hrows : rowsOf f cl L = rowsOf f' cl' L := rowsOf_cong fun y hy => by
      have : y ≠ X := fun e => XL (e ▸ hy)
      exact ⟨(upd_other this).symm, by simp [cl', this]⟩
    have hrows2 : rowsOf f' cl' (L ++ [X]) = rowsOf f cl L ++ [⟨⟨x.v, x.u, n, x.us⟩, x.c⟩] := by
      rw [hrows]; simp [rowsOf, f', cl', upd_same]
    have O1 : HavL (σ1.new (rwc ⟨⟨x.v, x.u, n, x.us⟩, x.c⟩)) a (rowsOf f cl L) := O.keep fun G hG => by
      rw [new_get (by have := (la G hG).1; omega)]; exact f1.get (la G hG).1 (la G hG).2
    obtain ⟨σ3, e3, g3, n3, v3, h3⟩ := app_row O1 (by rw [rowsOf_len]; omega) ⟨⟨x.v, x.u, n, x.us⟩, x.c⟩
    have n2 : (σ1.new (rwc ⟨⟨x.v, x.u, n, x.us⟩, x.c⟩)).next = σ1.next + 1 := rfl
    rw [n2] at e3 g3
    have hz : newCells σ1 (rwc ⟨⟨x.v, x.u, n, x.us⟩, x.c⟩) = some (⟨σ1.next, 0, 0⟩, σ1.new (rwc ⟨⟨x.v, x.u, n, x.us⟩, x.c⟩)) := newCells_ok rfl
    have hel : elems (σ1.new (rwc ⟨⟨x.v, x.u, n, x.us⟩, x.c⟩)) 5 1 (.sl ⟨σ1.next, 0, 0⟩ 0 1 (.ex 1) 5) = some (rwc ⟨⟨x.v, x.u, n, x.us⟩, x.c⟩) := by
      have : (σ1.new (rwc ⟨⟨x.v, x.u, n, x.us⟩, x.c⟩)).get ⟨σ1.next, 0, 0⟩ = some (rwc ⟨⟨x.v, x.u, n, x.us⟩, x.c⟩) := by rw [get_new, if_pos rfl]
      simp only [elems, this]; rfl
    have lF1 := R1.lF
    have heap3 : ∀ z, z.o < σ1.next → refId a ≠ some z → σ3.heap z = σ1.heap z := fun z hz hne => by
      rw [h3 z (by rw [n2]; omega) hne]
      exact (Frm.new σ1 _ (fun _ => False)).heap z hz (fun h => h)
    have R3 : Rep σ3 S M bud (L ++ [X]) (if x.c then upL ltK f' (H ++ [X]) H.length else H) f' cc1 := by
      refine R1.frm (F := fun z => refId a = some z) ⟨by rw [n3, n2]; omega, v3, fun z hz hne => heap3 z hz hne⟩ fun z hz e => ?_
      have h1 := la z e
      rcases hw z hz with h | h
      · exact h1.2 h
      · omega
    have hfv := sz_fill x.v x.u n x.us x.c
    have hrun : ∃ ρ', run (tab hsS) bPut ρ σ = some (.normal, ρ', σ3) ∧ ρ' 0 = ρ 0 ∧ ρ' 1 = ρ 1 ∧ ρ' 5 = ρ 5 ∧ ρ' 7 = .sl ⟨σ1.next + 1, 0, 0⟩ 0 ((rowsOf f cl L).length + 1) (.ge ((rowsOf f cl L).length + 1)) 5 ∧ ρ' 8 = ρ 8 := by
      have hq' := hq
      have hq1' := hq1
      simp only [scc] at hq' hq1'
      have hrf := row_fill ⟨⟨x.v, x.u, n, x.us⟩, x.c⟩
      generalize rwc ⟨⟨x.v, x.u, n, x.us⟩, x.c⟩ = cells at *
      simp (disch := first | omega | (simp only [rkl]; omega)) only [rk1, rk2, rk3, rk4, rk5, Arg.get, ret1, AV.cells, AV.isCell, addOff, minmaxL, Cap.room, Cap.cut, cutI, isSt, resultOf, Function.comp_apply, Function.comp_def, beq_self_eq_true, if_true, if_false, ite_true, ite_false, reduceCtorEq, bne_self_eq_false, Option.some.injEq, Prod.mk.injEq, ↓reduceIte, Nat.reduceEqDiff, Nat.reduceAdd, Nat.reduceMul, Nat.reduceSub, Nat.reduceLeDiff, Nat.reduceLT, Int.reduceLT, Int.reduceLE, Int.reduceEq, Int.reduceAdd, Int.reduceSub, Int.reduceNeg, Int.reduceToNat, List.mapM_cons, List.mapM_nil, Option.pure_def, Option.bind_eq_bind, eq_self, decide_true, decide_false, bPut, p7_11, p7_12, r5, r7, r9, r10, hq', hq1', e1, hfv, hrf, hz, hel, e3]
      exact ⟨_, rfl, by simp (disch := first | omega | (simp only [rkl]; omega)) only [rk1, rk2, rk3, rk4, rk5, Arg.get, ret1, AV.cells, AV.isCell, addOff, minmaxL, Cap.room, Cap.cut, cutI, isSt, resultOf, Function.comp_apply, Function.comp_def, beq_self_eq_true, if_true, if_false, ite_true, ite_false, reduceCtorEq, bne_self_eq_false, Option.some.injEq, Prod.mk.injEq, ↓reduceIte, Nat.reduceEqDiff, Nat.reduceAdd, Nat.reduceMul, Nat.reduceSub, Nat.reduceLeDiff, Nat.reduceLT, Int.reduceLT, Int.reduceLE, Int.reduceEq, Int.reduceAdd, Int.reduceSub, Int.reduceNeg, Int.reduceToNat, List.mapM_cons, List.mapM_nil, Option.pure_def, Option.bind_eq_bind, eq_self, decide_true, decide_false], by simp (disch := first | omega | (simp only [rkl]; omega)) only [rk1, rk2, rk3, rk4, rk5, Arg.get, ret1, AV.cells, AV.isCell, addOff, minmaxL, Cap.room, Cap.cut, cutI, isSt, resultOf, Function.comp_apply, Function.comp_def, beq_self_eq_true, if_true, if_false, ite_true, ite_false, reduceCtorEq, bne_self_eq_false, Option.some.injEq, Prod.mk.injEq, ↓reduceIte, Nat.reduceEqDiff, Nat.reduceAdd, Nat.reduceMul, Nat.reduceSub, Nat.reduceLeDiff, Nat.reduceLT, Int.reduceLT, Int.reduceLE, Int.reduceEq, Int.reduceAdd, Int.reduceSub, Int.reduceNeg, Int.reduceToNat, List.mapM_cons, List.mapM_nil, Option.pure_def, Option.bind_eq_bind, eq_self, decide_true, decide_false], by simp (disch := first | omega | (simp only [rkl]; omega)) only [rk1, rk2, rk3, rk4, rk5, Arg.get, ret1, AV.cells, AV.isCell, addOff, minmaxL, Cap.room, Cap.cut, cutI, isSt, resultOf, Function.comp_apply, Function.comp_def, beq_self_eq_true, if_true, if_false, ite_true, ite_false, reduceCtorEq, bne_self_eq_false, Option.some.injEq, Prod.mk.injEq, ↓reduceIte, Nat.reduceEqDiff, Nat.reduceAdd, Nat.reduceMul, Nat.reduceSub, Nat.reduceLeDiff, Nat.reduceLT, Int.reduceLT, Int.reduceLE, Int.reduceEq, Int.reduceAdd, Int.reduceSub, Int.reduceNeg, Int.reduceToNat, List.mapM_cons, List.mapM_nil, Option.pure_def, Option.bind_eq_bind, eq_self, decide_true, decide_false, r5], by simp (disch := first | omega | (simp only [rkl]; omega)) only [rk1, rk2, rk3, rk4, rk5, Arg.get, ret1, AV.cells, AV.isCell, addOff, minmaxL, Cap.room, Cap.cut, cutI, isSt, resultOf, Function.comp_apply, Function.comp_def, beq_self_eq_true, if_true, if_false, ite_true, ite_false, reduceCtorEq, bne_self_eq_false, Option.some.injEq, Prod.mk.injEq, ↓reduceIte, Nat.reduceEqDiff, Nat.reduceAdd, Nat.reduceMul, Nat.reduceSub, Nat.reduceLeDiff, Nat.reduceLT, Int.reduceLT, Int.reduceLE, Int.reduceEq, Int.reduceAdd, Int.reduceSub, Int.reduceNeg, Int.reduceToNat, List.mapM_cons, List.mapM_nil, Option.pure_def, Option.bind_eq_bind, eq_self, decide_true, decide_false], by simp (disch := first | omega | (simp only [rkl]; omega)) only [rk1, rk2, rk3, rk4, rk5, Arg.get, ret1, AV.cells, AV.isCell, addOff, minmaxL, Cap.room, Cap.cut, cutI, isSt, resultOf, Function.comp_apply, Function.comp_def, beq_self_eq_true, if_true, if_false, ite_true, ite_false, reduceCtorEq, bne_self_eq_false, Option.some.injEq, Prod.mk.injEq, ↓reduceIte, Nat.reduceEqDiff, Nat.reduceAdd, Nat.reduceMul, Nat.reduceSub, Nat.reduceLeDiff, Nat.reduceLT, Int.reduceLT, Int.reduceLE, Int.reduceEq, Int.reduceAdd, Int.reduceSub, Int.reduceNeg, Int.reduceToNat, List.mapM_cons, List.mapM_nil, Option.pure_def, Option.bind_eq_bind, eq_self, decide_true, decide_false]⟩
    obtain ⟨ρ', hr, q0, q1, q5, q7, q8⟩ := hrun
    refine ⟨ρ', σ3, L ++ [X], _, f', cl', cc1, _, hr, R3, .inr ⟨⟨σ1.next + 1, 0, 0⟩, .ge ((rowsOf f cl L).length + 1), [], ?_, ?_, ?_⟩, fun G hG => ?_, fun y hy => ?_, q0, q1, q5, q7, q8, by simp⟩
    · rw [hrows2]; simp
    · rw [hrows2]; simp [Cap.room]
    · rw [hrows2, List.append_nil]; exact g3
    · simp only [refId, Option.some.injEq] at hG; subst hG
      refine ⟨by rw [n3, n2]; show σ1.next + 1 < _; omega, fun h => ?_⟩
      have := lF1 _ h
      simp at this; omega
    · have hup := upL_perm (lt := ltK) (f := f') H.length (H := H ++ [X]) (by simp)
      have XH : X ∉ H := fun e => XL (R.sub X e)
      rcases List.mem_append.1 hy with hy | hy
      · have hne : y ≠ X := fun e => XL (e ▸ hy)
        have : cl' y = cl y := by simp [cl', hne]
        rw [this, ← hcl y hy]
        split
        · rw [hup.mem_iff]; simp [hne]
        · rfl
      · have hyX : y = X := by simpa using hy
        subst hyX
        have : cl' y = x.c := by simp [cl']
        rw [this]
        split
        · rename_i h; rw [hup.mem_iff]; simp [h]
        · rename_i h; simp [h, XH]
end Go.Proofs.Ytkhalpmmdlppkaa
