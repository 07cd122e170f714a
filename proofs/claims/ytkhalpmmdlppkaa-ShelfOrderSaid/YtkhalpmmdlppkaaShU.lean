/-
  ShelfOrder: the second shelf is filled, in another order.
-/
import Derived.Test.YtkhalpmmdlppkaaShT
namespace Go.Proofs.Ytkhalpmmdlppkaa
set_option linter.unusedSimpArgs false
set_option linter.unusedVariables false
open Go.Vm

def Over8 (S1 M1 S2 M2 : Vm.Id) (bud turn : Int) (f2 : Vm.Id → Ky) (r : Option (Ex × Env × St)) : Prop := ∃ ρ σ i l ms L H f cl cc a, r = some (.exit 0, ρ, σ) ∧ Inv8 ρ σ S1 M1 S2 M2 bud turn i l ms L H f cl cc a f2 ∧ i ≤ 60

theorem Inv8.slots {ρ ρ' : Env} {σ : St} {S1 M1 S2 M2 : Vm.Id} {bud turn : Int} {i : Nat} {l ms : List Sc} {L H : List Vm.Id} {f : Vm.Id → Ky} {cl : Vm.Id → Bool} {cc a : AV} {f2 : Vm.Id → Ky} (I : Inv8 ρ σ S1 M1 S2 M2 bud turn i l ms L H f cl cc a f2)
    (h1 : ρ' 1 = ρ 1) (h2 : ρ' 2 = ρ 2) (h7 : ρ' 7 = ρ 7) (h9 : ρ' 9 = ρ 9) (h11 : ρ' 11 = ρ 11) (h12 : ρ' 12 = ρ 12) : Inv8 ρ' σ S1 M1 S2 M2 bud turn i l ms L H f cl cc a f2 :=
  ⟨I.A, I.B, I.dj, I.rows, I.szs, I.O, I.la, h1.trans I.r1, h2.trans I.r2, h7.trans I.r7, h9.trans I.r9, h11.trans I.r11, h12.trans I.r12, I.few⟩

theorem rounds8 {S1 M1 S2 M2 : Vm.Id} {bud turn : Int} {l : List Sc} {f2 : Vm.Id → Ky} : ∀ (m i : Nat), i + m = min l.length 60 → ∀ {ρ : Env} {σ : St} {ms : List Sc} {L H : List Vm.Id} {f : Vm.Id → Ky} {cl : Vm.Id → Bool} {cc a : AV}, Inv8 ρ σ S1 M1 S2 M2 bud turn i l ms L H f cl cc a f2 → Over8 S1 M1 S2 M2 bud turn f2 (run (tab hsS) (.loop l8_15) ρ σ)
  | 0, i, him, ρ, σ, ms, L, H, f, cl, cc, a, I => by
    rw [run_loop]
    by_cases h : i < l.length
    · have h2 : (i : Int) < (l.length : Int) := by omega
      have h3 : ¬ ((i : Int) < 60) := by omega
      simp (disch := first | omega | (simp only [rkl]; omega)) only [rk1, rk2, rk3, rk4, rk5, Arg.get, ret1, AV.cells, AV.isCell, addOff, minmaxL, Cap.room, Cap.cut, cutI, isSt, resultOf, Function.comp_apply, Function.comp_def, beq_self_eq_true, if_true, if_false, ite_true, ite_false, reduceCtorEq, bne_self_eq_false, Option.some.injEq, Prod.mk.injEq, ↓reduceIte, Nat.reduceEqDiff, Nat.reduceAdd, Nat.reduceMul, Nat.reduceSub, Nat.reduceLeDiff, Nat.reduceLT, Int.reduceLT, Int.reduceLE, Int.reduceEq, Int.reduceAdd, Int.reduceSub, Int.reduceNeg, Int.reduceToNat, List.mapM_cons, List.mapM_nil, Option.pure_def, Option.bind_eq_bind, eq_self, decide_true, decide_false, l8_15, p8_9, I.r2, I.r12, h2, h3]
      exact ⟨_, σ, i, l, ms, L, H, f, cl, cc, a, rfl, I.slots (by simp (disch := first | omega | (simp only [rkl]; omega)) only [rk1, rk2, rk3, rk4, rk5, Arg.get, ret1, AV.cells, AV.isCell, addOff, minmaxL, Cap.room, Cap.cut, cutI, isSt, resultOf, Function.comp_apply, Function.comp_def, beq_self_eq_true, if_true, if_false, ite_true, ite_false, reduceCtorEq, bne_self_eq_false, Option.some.injEq, Prod.mk.injEq, ↓reduceIte, Nat.reduceEqDiff, Nat.reduceAdd, Nat.reduceMul, Nat.reduceSub, Nat.reduceLeDiff, Nat.reduceLT, Int.reduceLT, Int.reduceLE, Int.reduceEq, Int.reduceAdd, Int.reduceSub, Int.reduceNeg, Int.reduceToNat, List.mapM_cons, List.mapM_nil, Option.pure_def, Option.bind_eq_bind, eq_self, decide_true, decide_false]) (by simp (disch := first | omega | (simp only [rkl]; omega)) only [rk1, rk2, rk3, rk4, rk5, Arg.get, ret1, AV.cells, AV.isCell, addOff, minmaxL, Cap.room, Cap.cut, cutI, isSt, resultOf, Function.comp_apply, Function.comp_def, beq_self_eq_true, if_true, if_false, ite_true, ite_false, reduceCtorEq, bne_self_eq_false, Option.some.injEq, Prod.mk.injEq, ↓reduceIte, Nat.reduceEqDiff, Nat.reduceAdd, Nat.reduceMul, Nat.reduceSub, Nat.reduceLeDiff, Nat.reduceLT, Int.reduceLT, Int.reduceLE, Int.reduceEq, Int.reduceAdd, Int.reduceSub, Int.reduceNeg, Int.reduceToNat, List.mapM_cons, List.mapM_nil, Option.pure_def, Option.bind_eq_bind, eq_self, decide_true, decide_false, I.r2]) (by simp (disch := first | omega | (simp only [rkl]; omega)) only [rk1, rk2, rk3, rk4, rk5, Arg.get, ret1, AV.cells, AV.isCell, addOff, minmaxL, Cap.room, Cap.cut, cutI, isSt, resultOf, Function.comp_apply, Function.comp_def, beq_self_eq_true, if_true, if_false, ite_true, ite_false, reduceCtorEq, bne_self_eq_false, Option.some.injEq, Prod.mk.injEq, ↓reduceIte, Nat.reduceEqDiff, Nat.reduceAdd, Nat.reduceMul, Nat.reduceSub, Nat.reduceLeDiff, Nat.reduceLT, Int.reduceLT, Int.reduceLE, Int.reduceEq, Int.reduceAdd, Int.reduceSub, Int.reduceNeg, Int.reduceToNat, List.mapM_cons, List.mapM_nil, Option.pure_def, Option.bind_eq_bind, eq_self, decide_true, decide_false]) (by simp (disch := first | omega | (simp only [rkl]; omega)) only [rk1, rk2, rk3, rk4, rk5, Arg.get, ret1, AV.cells, AV.isCell, addOff, minmaxL, Cap.room, Cap.cut, cutI, isSt, resultOf, Function.comp_apply, Function.comp_def, beq_self_eq_true, if_true, if_false, ite_true, ite_false, reduceCtorEq, bne_self_eq_false, Option.some.injEq, Prod.mk.injEq, ↓reduceIte, Nat.reduceEqDiff, Nat.reduceAdd, Nat.reduceMul, Nat.reduceSub, Nat.reduceLeDiff, Nat.reduceLT, Int.reduceLT, Int.reduceLE, Int.reduceEq, Int.reduceAdd, Int.reduceSub, Int.reduceNeg, Int.reduceToNat, List.mapM_cons, List.mapM_nil, Option.pure_def, Option.bind_eq_bind, eq_self, decide_true, decide_false]) (by simp (disch := first | omega | (simp only [rkl]; omega)) only [rk1, rk2, rk3, rk4, rk5, Arg.get, ret1, AV.cells, AV.isCell, addOff, minmaxL, Cap.room, Cap.cut, cutI, isSt, resultOf, Function.comp_apply, Function.comp_def, beq_self_eq_true, if_true, if_false, ite_true, ite_false, reduceCtorEq, bne_self_eq_false, Option.some.injEq, Prod.mk.injEq, ↓reduceIte, Nat.reduceEqDiff, Nat.reduceAdd, Nat.reduceMul, Nat.reduceSub, Nat.reduceLeDiff, Nat.reduceLT, Int.reduceLT, Int.reduceLE, Int.reduceEq, Int.reduceAdd, Int.reduceSub, Int.reduceNeg, Int.reduceToNat, List.mapM_cons, List.mapM_nil, Option.pure_def, Option.bind_eq_bind, eq_self, decide_true, decide_false]) (by simp (disch := first | omega | (simp only [rkl]; omega)) only [rk1, rk2, rk3, rk4, rk5, Arg.get, ret1, AV.cells, AV.isCell, addOff, minmaxL, Cap.room, Cap.cut, cutI, isSt, resultOf, Function.comp_apply, Function.comp_def, beq_self_eq_true, if_true, if_false, ite_true, ite_false, reduceCtorEq, bne_self_eq_false, Option.some.injEq, Prod.mk.injEq, ↓reduceIte, Nat.reduceEqDiff, Nat.reduceAdd, Nat.reduceMul, Nat.reduceSub, Nat.reduceLeDiff, Nat.reduceLT, Int.reduceLT, Int.reduceLE, Int.reduceEq, Int.reduceAdd, Int.reduceSub, Int.reduceNeg, Int.reduceToNat, List.mapM_cons, List.mapM_nil, Option.pure_def, Option.bind_eq_bind, eq_self, decide_true, decide_false, I.r12]), by omega⟩
    · have h2 : ¬ ((i : Int) < (l.length : Int)) := by omega
      simp (disch := first | omega | (simp only [rkl]; omega)) only [rk1, rk2, rk3, rk4, rk5, Arg.get, ret1, AV.cells, AV.isCell, addOff, minmaxL, Cap.room, Cap.cut, cutI, isSt, resultOf, Function.comp_apply, Function.comp_def, beq_self_eq_true, if_true, if_false, ite_true, ite_false, reduceCtorEq, bne_self_eq_false, Option.some.injEq, Prod.mk.injEq, ↓reduceIte, Nat.reduceEqDiff, Nat.reduceAdd, Nat.reduceMul, Nat.reduceSub, Nat.reduceLeDiff, Nat.reduceLT, Int.reduceLT, Int.reduceLE, Int.reduceEq, Int.reduceAdd, Int.reduceSub, Int.reduceNeg, Int.reduceToNat, List.mapM_cons, List.mapM_nil, Option.pure_def, Option.bind_eq_bind, eq_self, decide_true, decide_false, l8_15, p8_9, I.r2, I.r12, h2]
      exact ⟨_, σ, i, l, ms, L, H, f, cl, cc, a, rfl, I.slots (by simp (disch := first | omega | (simp only [rkl]; omega)) only [rk1, rk2, rk3, rk4, rk5, Arg.get, ret1, AV.cells, AV.isCell, addOff, minmaxL, Cap.room, Cap.cut, cutI, isSt, resultOf, Function.comp_apply, Function.comp_def, beq_self_eq_true, if_true, if_false, ite_true, ite_false, reduceCtorEq, bne_self_eq_false, Option.some.injEq, Prod.mk.injEq, ↓reduceIte, Nat.reduceEqDiff, Nat.reduceAdd, Nat.reduceMul, Nat.reduceSub, Nat.reduceLeDiff, Nat.reduceLT, Int.reduceLT, Int.reduceLE, Int.reduceEq, Int.reduceAdd, Int.reduceSub, Int.reduceNeg, Int.reduceToNat, List.mapM_cons, List.mapM_nil, Option.pure_def, Option.bind_eq_bind, eq_self, decide_true, decide_false]) (by simp (disch := first | omega | (simp only [rkl]; omega)) only [rk1, rk2, rk3, rk4, rk5, Arg.get, ret1, AV.cells, AV.isCell, addOff, minmaxL, Cap.room, Cap.cut, cutI, isSt, resultOf, Function.comp_apply, Function.comp_def, beq_self_eq_true, if_true, if_false, ite_true, ite_false, reduceCtorEq, bne_self_eq_false, Option.some.injEq, Prod.mk.injEq, ↓reduceIte, Nat.reduceEqDiff, Nat.reduceAdd, Nat.reduceMul, Nat.reduceSub, Nat.reduceLeDiff, Nat.reduceLT, Int.reduceLT, Int.reduceLE, Int.reduceEq, Int.reduceAdd, Int.reduceSub, Int.reduceNeg, Int.reduceToNat, List.mapM_cons, List.mapM_nil, Option.pure_def, Option.bind_eq_bind, eq_self, decide_true, decide_false, I.r2]) (by simp (disch := first | omega | (simp only [rkl]; omega)) only [rk1, rk2, rk3, rk4, rk5, Arg.get, ret1, AV.cells, AV.isCell, addOff, minmaxL, Cap.room, Cap.cut, cutI, isSt, resultOf, Function.comp_apply, Function.comp_def, beq_self_eq_true, if_true, if_false, ite_true, ite_false, reduceCtorEq, bne_self_eq_false, Option.some.injEq, Prod.mk.injEq, ↓reduceIte, Nat.reduceEqDiff, Nat.reduceAdd, Nat.reduceMul, Nat.reduceSub, Nat.reduceLeDiff, Nat.reduceLT, Int.reduceLT, Int.reduceLE, Int.reduceEq, Int.reduceAdd, Int.reduceSub, Int.reduceNeg, Int.reduceToNat, List.mapM_cons, List.mapM_nil, Option.pure_def, Option.bind_eq_bind, eq_self, decide_true, decide_false]) (by simp (disch := first | omega | (simp only [rkl]; omega)) only [rk1, rk2, rk3, rk4, rk5, Arg.get, ret1, AV.cells, AV.isCell, addOff, minmaxL, Cap.room, Cap.cut, cutI, isSt, resultOf, Function.comp_apply, Function.comp_def, beq_self_eq_true, if_true, if_false, ite_true, ite_false, reduceCtorEq, bne_self_eq_false, Option.some.injEq, Prod.mk.injEq, ↓reduceIte, Nat.reduceEqDiff, Nat.reduceAdd, Nat.reduceMul, Nat.reduceSub, Nat.reduceLeDiff, Nat.reduceLT, Int.reduceLT, Int.reduceLE, Int.reduceEq, Int.reduceAdd, Int.reduceSub, Int.reduceNeg, Int.reduceToNat, List.mapM_cons, List.mapM_nil, Option.pure_def, Option.bind_eq_bind, eq_self, decide_true, decide_false]) (by simp (disch := first | omega | (simp only [rkl]; omega)) only [rk1, rk2, rk3, rk4, rk5, Arg.get, ret1, AV.cells, AV.isCell, addOff, minmaxL, Cap.room, Cap.cut, cutI, isSt, resultOf, Function.comp_apply, Function.comp_def, beq_self_eq_true, if_true, if_false, ite_true, ite_false, reduceCtorEq, bne_self_eq_false, Option.some.injEq, Prod.mk.injEq, ↓reduceIte, Nat.reduceEqDiff, Nat.reduceAdd, Nat.reduceMul, Nat.reduceSub, Nat.reduceLeDiff, Nat.reduceLT, Int.reduceLT, Int.reduceLE, Int.reduceEq, Int.reduceAdd, Int.reduceSub, Int.reduceNeg, Int.reduceToNat, List.mapM_cons, List.mapM_nil, Option.pure_def, Option.bind_eq_bind, eq_self, decide_true, decide_false]) (by simp (disch := first | omega | (simp only [rkl]; omega)) only [rk1, rk2, rk3, rk4, rk5, Arg.get, ret1, AV.cells, AV.isCell, addOff, minmaxL, Cap.room, Cap.cut, cutI, isSt, resultOf, Function.comp_apply, Function.comp_def, beq_self_eq_true, if_true, if_false, ite_true, ite_false, reduceCtorEq, bne_self_eq_false, Option.some.injEq, Prod.mk.injEq, ↓reduceIte, Nat.reduceEqDiff, Nat.reduceAdd, Nat.reduceMul, Nat.reduceSub, Nat.reduceLeDiff, Nat.reduceLT, Int.reduceLT, Int.reduceLE, Int.reduceEq, Int.reduceAdd, Int.reduceSub, Int.reduceNeg, Int.reduceToNat, List.mapM_cons, List.mapM_nil, Option.pure_def, Option.bind_eq_bind, eq_self, decide_true, decide_false, I.r12]), by omega⟩
  | m + 1, i, him, ρ, σ, ms, L, H, f, cl, cc, a, I => by
    obtain ⟨ρ1, σ1, ms1, L1, H1, f1, cl1, cc1, a1, e1, I1⟩ := round8 I (by omega) (by omega)
    rw [run_loop, e1]
    obtain ⟨ρ2, σ2, i2, l2, ms2, L2, H2, g2, cl2, cc2, a2, e2, h⟩ := rounds8 m (i + 1) (by omega) I1
    exact ⟨ρ2, σ2, i2, l2, ms2, L2, H2, g2, cl2, cc2, a2, by simp (disch := first | omega | (simp only [rkl]; omega)) only [rk1, rk2, rk3, rk4, rk5, Arg.get, ret1, AV.cells, AV.isCell, addOff, minmaxL, Cap.room, Cap.cut, cutI, isSt, resultOf, Function.comp_apply, Function.comp_def, beq_self_eq_true, if_true, if_false, ite_true, ite_false, reduceCtorEq, bne_self_eq_false, Option.some.injEq, Prod.mk.injEq, ↓reduceIte, Nat.reduceEqDiff, Nat.reduceAdd, Nat.reduceMul, Nat.reduceSub, Nat.reduceLeDiff, Nat.reduceLT, Int.reduceLT, Int.reduceLE, Int.reduceEq, Int.reduceAdd, Int.reduceSub, Int.reduceNeg, Int.reduceToNat, List.mapM_cons, List.mapM_nil, Option.pure_def, Option.bind_eq_bind, eq_self, decide_true, decide_false]; exact e2, h⟩

def PK (rows : List Rw) : Prop := rows.Pairwise fun a b => ¬ (a.k.v = b.k.v ∧ a.k.u = b.k.u)
theorem pk_rows {f : Vm.Id → Ky} {cl : Vm.Id → Bool} : ∀ {L : List Vm.Id}, L.Nodup → (∀ x ∈ L, ∀ y ∈ L, (f x).v = (f y).v → (f x).u = (f y).u → x = y) → PK (rowsOf f cl L)
  | [], _, _ => List.Pairwise.nil
  | x :: L, nd, key => by
    rw [List.nodup_cons] at nd
    refine List.Pairwise.cons (fun r hr h => ?_) (pk_rows nd.2 fun a ha b hb => key a (by simp [ha]) b (by simp [hb]))
    simp only [List.mem_map] at hr
    obtain ⟨y, hy, rfl⟩ := hr
    have := key x (by simp) y (by simp [hy]) h.1 h.2
    exact nd.1 (this ▸ hy)
theorem PK.perm {a b : List Rw} (h : a.Perm b) (pa : PK a) : PK b := (h.pairwise_iff (fun {x y} hxy e => hxy ⟨e.1.symm, e.2.symm⟩)).1 pa

def rot (ms : List Sc) (t : Nat) : List Sc := ms.drop t ++ ms.take t
theorem rot_perm (ms : List Sc) (t : Nat) : (rot ms t).Perm ms := by
  unfold rot
  exact List.perm_append_comm.trans (by rw [List.take_append_drop])
theorem rot_at {ms : List Sc} {t i : Nat} (ht : t < ms.length) (hi : i < ms.length) : (rot ms t)[i]? = ms[(i + t) % ms.length]? := by
  unfold rot
  by_cases h : i < (ms.drop t).length
  · rw [List.getElem?_append_left h, List.getElem?_drop]
    rw [List.length_drop] at h
    rw [Nat.mod_eq_of_lt (by omega), Nat.add_comm]
  · rw [List.getElem?_append_right (by omega)]
    rw [List.length_drop] at h ⊢
    have e : (i + t) % ms.length = i - (ms.length - t) := by
      have : i + t = (i - (ms.length - t)) + ms.length := by omega
      rw [this, Nat.add_mod_right, Nat.mod_eq_of_lt (by omega)]
    rw [e, List.getElem?_take, if_pos (by omega)]

structure Inv8b (ρ : Env) (σ : St) (S1 M1 S2 M2 : Vm.Id) (bud turn : Int) (t i : Nat) (ms : List Sc) (L H : List Vm.Id) (f : Vm.Id → Ky) (cl : Vm.Id → Bool) (cc a : AV) (L2 H2 : List Vm.Id) (f2 : Vm.Id → Ky) (cl2 : Vm.Id → Bool) (cc2 : AV) : Prop where
  A : Shf σ S1 M1 bud L H f cl cc
  B : Shf σ S2 M2 bud L2 H2 f2 cl2 cc2
  dj : ∀ q, Fp S1 M1 L cc q → ¬ Fp S2 M2 L2 cc2 q
  rows : rowsOf f cl L = ms.map rwOf
  rows2 : rowsOf f2 cl2 L2 = ((rot ms t).take i).map rwOf
  szs : ∀ x ∈ ms, 0 ≤ x.sz ∧ x.sz ≤ 1048576
  O : LstC σ 6 a ms.length (scs ms)
  la : ∀ G, refId a = some G → G.o < σ.next ∧ ¬ Fp S1 M1 L cc G ∧ ¬ Fp S2 M2 L2 cc2 G
  r1 : ρ 1 = .int .i64 turn
  r7 : ρ 7 = .ptr S1 0
  r9 : ρ 9 = .ptr S2 0
  r11 : ρ 11 = a
  r14 : ρ 14 = .int .i64 i

def Next8b (S1 M1 S2 M2 : Vm.Id) (bud turn : Int) (t i : Nat) (ms : List Sc) (r : Option (Ex × Env × St)) : Prop := ∃ ρ σ L H f cl cc a L2 H2 f2 cl2 cc2, r = some (.normal, ρ, σ) ∧ Inv8b ρ σ S1 M1 S2 M2 bud turn t i ms L H f cl cc a L2 H2 f2 cl2 cc2
theorem next8b_mk {ρ : Env} {σ : St} {S1 M1 S2 M2 : Vm.Id} {bud turn : Int} {t i : Nat} {ms : List Sc} {L H : List Vm.Id} {f : Vm.Id → Ky} {cl : Vm.Id → Bool} {cc a : AV} {L2 H2 : List Vm.Id} {f2 : Vm.Id → Ky} {cl2 : Vm.Id → Bool} {cc2 : AV}
    (h : Inv8b ρ σ S1 M1 S2 M2 bud turn t i ms L H f cl cc a L2 H2 f2 cl2 cc2) : Next8b S1 M1 S2 M2 bud turn t i ms (some (.normal, ρ, σ)) := ⟨_, _, _, _, _, _, _, _, _, _, _, _, _, rfl, h⟩

theorem round8b {ρ : Env} {σ : St} {S1 M1 S2 M2 : Vm.Id} {bud turn : Int} {t i : Nat} {ms : List Sc} {L H : List Vm.Id} {f : Vm.Id → Ky} {cl : Vm.Id → Bool} {cc a : AV} {L2 H2 : List Vm.Id} {f2 : Vm.Id → Ky} {cl2 : Vm.Id → Bool} {cc2 : AV}
    (I : Inv8b ρ σ S1 M1 S2 M2 bud turn t i ms L H f cl cc a L2 H2 f2 cl2 cc2) (hi : i < ms.length) (hms : ms.length ≤ 60) (htl : t < ms.length) (htw : IntKind.i64.wrap ((IntKind.u64.wrap turn).tmod ms.length) = t) : Next8b S1 M1 S2 M2 bud turn t (i + 1) ms (run (tab hsS) l8_22 ρ σ) := by
  have hidx : (i + t) % ms.length < ms.length := Nat.mod_lt _ (by omega)
  have hra := rot_at htl hi
  have hrl : (rot ms t).length = ms.length := (rot_perm ms t).length_eq
  have hlen := I.O.len
  obtain ⟨G, ha, hG⟩ : ∃ G, a = .sl G 0 ms.length (.ge ms.length) 6 ∧ σ.get G = some (scs ms) := by
    rcases I.O with ⟨_, h, _⟩ | ⟨G, h1, h2, _⟩
    · omega
    · exact ⟨G, h1, h2⟩
  have htm : ((i + t : Nat) : Int).tmod (ms.length : Int) = ((i + t) % ms.length : Nat) := by
    rw [Int.tmod_eq_emod_of_nonneg (by omega)]; rfl
  have hu : IntKind.u64.wrap (ms.length : Int) = ms.length := by
    show (ms.length : Int) % 18446744073709551616 = _
    omega
  have hadd : (i : Int) + (t : Int) = ((i + t : Nat) : Int) := by omega
  have hne : ¬ ((ms.length : Int) = 0) := by omega
  have him : (i : Int) < (ms.length : Int) := by omega
  have hep : elemPtr 6 ((i + t) % ms.length) a = some (.ptr G ((i + t) % ms.length * 6)) := by rw [ha, elemPtr_sl hidx]; simp
  have hx : ms[(i + t) % ms.length]? = some ms[(i + t) % ms.length] := List.getElem?_eq_getElem hidx
  have hxm := List.getElem_mem hidx
  have hat := scs_at hx
  have hxr : (rot ms t)[i]? = some ms[(i + t) % ms.length] := hra.trans hx
  generalize ms[(i + t) % ms.length] = x at *
  have hm6 : ((i + t) % ms.length + 1) * 6 ≤ ms.length * 6 := Nat.mul_le_mul_right _ hidx
  have hpt : Vm.part true 6 ((i + t) % ms.length * 6) (scs ms) = some (.agg (scc x)) := by rw [part_t (by rw [scs_len]; omega), hat]
  have hz : newCells σ [.int .i64 0, .int .u32 0, .int .u32 0, .int .i64 0, .int .i64 0, .bool false] = some (⟨σ.next, 0, 0⟩, σ.new [.int .i64 0, .int .u32 0, .int .u32 0, .int .i64 0, .int .i64 0, .bool false]) := newCells_ok rfl
  have hst : storeAt (σ.new [.int .i64 0, .int .u32 0, .int .u32 0, .int .i64 0, .int .i64 0, .bool false]) 6 (.ptr ⟨σ.next, 0, 0⟩ 0) (.agg (scc x)) = some (σ.new (scc x)) := new_store rfl rfl rfl
  have hg : (σ.new (scc x)).get ⟨σ.next, 0, 0⟩ = some (scc x) := by rw [get_new, if_pos rfl]
  have f1 := Frm.new σ (scc x) (fun _ => False)
  have n1 : (σ.new (scc x)).next = σ.next + 1 := rfl
  have lA := I.A.R.lF
  have lB := I.B.R.lF
  have A1 := I.A.frm f1 (fun _ _ h => h)
  have B1 := I.B.frm f1 (fun _ _ h => h)
  have hL2 : L2.length = i := by
    have := congrArg List.length I.rows2
    simp only [rowsOf, List.length_map, List.length_take, hrl] at this
    omega
  have hpk : PK ((rot ms t).map rwOf) := by
    have := pk_rows (cl := cl) I.A.R.nd I.A.R.key
    rw [I.rows] at this
    exact this.perm ((rot_perm ms t).symm.map _)
  have hp : posOf (kf f2) L2 x.v x.u = none := by
    cases hp : posOf (kf f2) L2 x.v x.u with
    | none => rfl
    | some j =>
      exfalso
      obtain ⟨hj, h1, h2⟩ := posOf_some (kf f2) hp
      have hj2 : (rowsOf f2 cl2 L2)[j]? = some ⟨f2 L2[j], cl2 L2[j]⟩ := by simp [rowsOf, hj]
      rw [I.rows2, List.getElem?_map, List.getElem?_take, if_pos (by omega)] at hj2
      have hjr : j < (rot ms t).length := by omega
      have hir : i < (rot ms t).length := by omega
      have hpw := List.pairwise_iff_getElem.1 hpk j i (by simpa using hjr) (by simpa using hir) (by omega)
      rw [List.getElem?_eq_getElem hjr] at hj2
      rw [List.getElem?_eq_getElem hir] at hxr
      simp only [Option.map_some, Option.some.injEq] at hj2 hxr
      rw [List.getElem_map, List.getElem_map, hj2, hxr] at hpw
      exact hpw ⟨h1, h2⟩
  have hsz := I.szs x hxm
  obtain ⟨s2, X, H', f', cl', cc', e2, B2, hrows, fr2, hw2⟩ := B1.put (sz := x.sz) (us := x.us) (c := x.c) hsz hp (by omega)
  have hn2 := fr2.next
  have A2 := A1.frm fr2 (fun q h1 h2 => I.dj q h1 h2)
  have c1 : Vm.part true 2 1 (scc x) = some (.agg [.int .u32 x.v, .int .u32 x.u]) := rfl
  have c3 : Vm.part false 1 3 (scc x) = some (.int .i64 x.sz) := rfl
  have c4 : Vm.part false 1 4 (scc x) = some (.int .i64 x.us) := rfl
  have c5 : Vm.part false 1 5 (scc x) = some (.bool x.c) := rfl
  have key : ∀ {ρ' : Env}, ρ' 1 = ρ 1 → ρ' 7 = ρ 7 → ρ' 9 = ρ 9 → ρ' 11 = ρ 11 → ρ' 14 = .int .i64 (i + 1 : Nat) → Next8b S1 M1 S2 M2 bud turn t (i + 1) ms (some (.normal, ρ', s2)) := by
    intro ρ' h1 h7 h9 h11 h14
    refine next8b_mk ⟨A2, B2, fun q hq hB => ?_, I.rows, ?_, I.szs, I.O.keep fun Gi hGi => ?_, fun Gi hGi => ?_, h1.trans I.r1, h7.trans I.r7, h9.trans I.r9, h11.trans I.r11, h14⟩
    · rcases hw2 q hB with h | h
      · exact I.dj q hq h
      · have := lA q hq; omega
    · have hit : (rot ms t).take (i + 1) = (rot ms t).take i ++ [x] := by
        rw [List.take_add_one, hxr]; rfl
      rw [hrows, I.rows2, hit]; simp [rwOf]
    · rw [fr2.get (by have := (I.la Gi hGi).1; omega) (I.la Gi hGi).2.2]; exact new_get (I.la Gi hGi).1
    · refine ⟨by have := (I.la Gi hGi).1; omega, (I.la Gi hGi).2.1, fun h => ?_⟩
      rcases hw2 Gi h with h | h
      · exact (I.la Gi hGi).2.2 h
      · have := (I.la Gi hGi).1; omega
  generalize scc x = cells at *
  simp (disch := first | omega | (simp only [rkl]; omega)) only [rk1, rk2, rk3, rk4, rk5, Arg.get, ret1, AV.cells, AV.isCell, addOff, minmaxL, Cap.room, Cap.cut, cutI, isSt, resultOf, Function.comp_apply, Function.comp_def, beq_self_eq_true, if_true, if_false, ite_true, ite_false, reduceCtorEq, bne_self_eq_false, Option.some.injEq, Prod.mk.injEq, ↓reduceIte, Nat.reduceEqDiff, Nat.reduceAdd, Nat.reduceMul, Nat.reduceSub, Nat.reduceLeDiff, Nat.reduceLT, Int.reduceLT, Int.reduceLE, Int.reduceEq, Int.reduceAdd, Int.reduceSub, Int.reduceNeg, Int.reduceToNat, List.mapM_cons, List.mapM_nil, Option.pure_def, Option.bind_eq_bind, eq_self, decide_true, decide_false, l8_22, p8_17, p8_18, p8_19, p8_21, I.r1, I.r9, I.r11, I.r14, hlen, him, hne, hu, htw, hadd, htm, hep, hG, hpt, hz, hst, hg, c1, c3, c4, c5, e2]
  exact key (by simp (disch := first | omega | (simp only [rkl]; omega)) only [rk1, rk2, rk3, rk4, rk5, Arg.get, ret1, AV.cells, AV.isCell, addOff, minmaxL, Cap.room, Cap.cut, cutI, isSt, resultOf, Function.comp_apply, Function.comp_def, beq_self_eq_true, if_true, if_false, ite_true, ite_false, reduceCtorEq, bne_self_eq_false, Option.some.injEq, Prod.mk.injEq, ↓reduceIte, Nat.reduceEqDiff, Nat.reduceAdd, Nat.reduceMul, Nat.reduceSub, Nat.reduceLeDiff, Nat.reduceLT, Int.reduceLT, Int.reduceLE, Int.reduceEq, Int.reduceAdd, Int.reduceSub, Int.reduceNeg, Int.reduceToNat, List.mapM_cons, List.mapM_nil, Option.pure_def, Option.bind_eq_bind, eq_self, decide_true, decide_false, I.r1]) (by simp (disch := first | omega | (simp only [rkl]; omega)) only [rk1, rk2, rk3, rk4, rk5, Arg.get, ret1, AV.cells, AV.isCell, addOff, minmaxL, Cap.room, Cap.cut, cutI, isSt, resultOf, Function.comp_apply, Function.comp_def, beq_self_eq_true, if_true, if_false, ite_true, ite_false, reduceCtorEq, bne_self_eq_false, Option.some.injEq, Prod.mk.injEq, ↓reduceIte, Nat.reduceEqDiff, Nat.reduceAdd, Nat.reduceMul, Nat.reduceSub, Nat.reduceLeDiff, Nat.reduceLT, Int.reduceLT, Int.reduceLE, Int.reduceEq, Int.reduceAdd, Int.reduceSub, Int.reduceNeg, Int.reduceToNat, List.mapM_cons, List.mapM_nil, Option.pure_def, Option.bind_eq_bind, eq_self, decide_true, decide_false]) (by simp (disch := first | omega | (simp only [rkl]; omega)) only [rk1, rk2, rk3, rk4, rk5, Arg.get, ret1, AV.cells, AV.isCell, addOff, minmaxL, Cap.room, Cap.cut, cutI, isSt, resultOf, Function.comp_apply, Function.comp_def, beq_self_eq_true, if_true, if_false, ite_true, ite_false, reduceCtorEq, bne_self_eq_false, Option.some.injEq, Prod.mk.injEq, ↓reduceIte, Nat.reduceEqDiff, Nat.reduceAdd, Nat.reduceMul, Nat.reduceSub, Nat.reduceLeDiff, Nat.reduceLT, Int.reduceLT, Int.reduceLE, Int.reduceEq, Int.reduceAdd, Int.reduceSub, Int.reduceNeg, Int.reduceToNat, List.mapM_cons, List.mapM_nil, Option.pure_def, Option.bind_eq_bind, eq_self, decide_true, decide_false, I.r9]) (by simp (disch := first | omega | (simp only [rkl]; omega)) only [rk1, rk2, rk3, rk4, rk5, Arg.get, ret1, AV.cells, AV.isCell, addOff, minmaxL, Cap.room, Cap.cut, cutI, isSt, resultOf, Function.comp_apply, Function.comp_def, beq_self_eq_true, if_true, if_false, ite_true, ite_false, reduceCtorEq, bne_self_eq_false, Option.some.injEq, Prod.mk.injEq, ↓reduceIte, Nat.reduceEqDiff, Nat.reduceAdd, Nat.reduceMul, Nat.reduceSub, Nat.reduceLeDiff, Nat.reduceLT, Int.reduceLT, Int.reduceLE, Int.reduceEq, Int.reduceAdd, Int.reduceSub, Int.reduceNeg, Int.reduceToNat, List.mapM_cons, List.mapM_nil, Option.pure_def, Option.bind_eq_bind, eq_self, decide_true, decide_false, I.r11]) (by simp (disch := first | omega | (simp only [rkl]; omega)) only [rk1, rk2, rk3, rk4, rk5, Arg.get, ret1, AV.cells, AV.isCell, addOff, minmaxL, Cap.room, Cap.cut, cutI, isSt, resultOf, Function.comp_apply, Function.comp_def, beq_self_eq_true, if_true, if_false, ite_true, ite_false, reduceCtorEq, bne_self_eq_false, Option.some.injEq, Prod.mk.injEq, ↓reduceIte, Nat.reduceEqDiff, Nat.reduceAdd, Nat.reduceMul, Nat.reduceSub, Nat.reduceLeDiff, Nat.reduceLT, Int.reduceLT, Int.reduceLE, Int.reduceEq, Int.reduceAdd, Int.reduceSub, Int.reduceNeg, Int.reduceToNat, List.mapM_cons, List.mapM_nil, Option.pure_def, Option.bind_eq_bind, eq_self, decide_true, decide_false, Int.natCast_add, Int.cast_ofNat_Int])
end Go.Proofs.Ytkhalpmmdlppkaa
