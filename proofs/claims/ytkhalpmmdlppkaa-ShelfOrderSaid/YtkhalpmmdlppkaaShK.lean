/-
  THE SHELF: Evict.
-/
import Derived.Test.YtkhalpmmdlppkaaShJ
namespace Go.Proofs.Ytkhalpmmdlppkaa
set_option linter.unusedSimpArgs false
set_option linter.unusedVariables false
open Go.Vm

/-- Who goes, who stays, and the heap behind it. -/
def evS (bud : Int) (f : Vm.Id → Ky) : Nat → List Vm.Id → List Vm.Id → List Vm.Id × List Vm.Id × List Vm.Id
  | 0, L, H => ([], L, H)
  | n + 1, L, H => if bud < sumL f L ∧ H ≠ [] then
      match posOf (kf f) L (f (at_ H 0)).v (f (at_ H 0)).u with
      | some j => (at_ H 0 :: (evS bud f n (L.eraseIdx j) (dropH f H (at_ H 0))).1, (evS bud f n (L.eraseIdx j) (dropH f H (at_ H 0))).2)
      | none => ([], L, H)
    else ([], L, H)

def gc (f : Vm.Id → Ky) (xs : List Vm.Id) : List AV := xs.flatMap fun x => [.int .u32 (f x).v, .int .u32 (f x).u]
theorem gc_len (f : Vm.Id → Ky) : ∀ xs : List Vm.Id, (gc f xs).length = xs.length * 2
  | [] => rfl
  | x :: xs => by have := gc_len f xs; simp only [gc, List.flatMap_cons, List.length_append, List.length_cons, List.length_nil] at this ⊢; omega
theorem gc_app (f : Vm.Id → Ky) (xs ys : List Vm.Id) : gc f (xs ++ ys) = gc f xs ++ gc f ys := by simp [gc]
theorem gc_cell (f : Vm.Id → Ky) (xs : List Vm.Id) : (gc f xs).all AV.isCell = true := by
  simp only [gc, List.all_eq_true, List.mem_flatMap]
  rintro y ⟨x, _, hy⟩
  simp at hy
  rcases hy with rfl | rfl <;> rfl

/-- The list that is told. -/
def OutL (σ : St) (f : Vm.Id → Ky) (a : AV) (xs : List Vm.Id) : Prop := (a = .nilsl ∧ xs = []) ∨ ∃ G : Vm.Id, a = .sl G 0 xs.length (.ge xs.length) 2 ∧ σ.get G = some (gc f xs)

/-- As Frm; of the blocks below n0 alone. -/
structure FrmB (n0 : Nat) (σ σ' : St) (F : Vm.Id → Prop) : Prop where
  next : σ.next ≤ σ'.next
  ver : σ'.ver = σ.ver
  heap : ∀ q, q.o < n0 → ¬ F q → σ'.heap q = σ.heap q

theorem app_out {s : St} {f : Vm.Id → Ky} {a : AV} {xs : List Vm.Id} (h : OutL s f a xs) (few : xs.length < 2 ^ 30) (x : Vm.Id) :
    ∃ s', appendTo s 2 8 1 (gc f [x]) a = some (.sl ⟨s.next, 0, 0⟩ 0 (xs.length + 1) (.ge (xs.length + 1)) 2, s') ∧ s'.get ⟨s.next, 0, 0⟩ = some (gc f (xs ++ [x])) ∧ s'.next = s.next + 1 ∧ s'.ver = s.ver ∧ (∀ q, q.o < s.next → refId a ≠ some q → s'.heap q = s.heap q) := by
  rcases h with ⟨rfl, rfl⟩ | ⟨G, rfl, hg⟩
  · refine ⟨s.new (gc f [x]), ?_, by rw [get_new, if_pos rfl]; rfl, rfl, rfl, fun q hq _ => (Frm.new s _ (fun _ => False)).heap q hq (fun h => h)⟩
    rw [append_nil' (by omega) (by decide) (gc_cell f [x])]; rfl
  · have hmx : (xs.length + 1) * 8 ≤ lenMax := by have : lenMax = 2 ^ 46 := rfl; omega
    refine ⟨(s.set G none).new (gc f (xs ++ [x])), ?_, by rw [get_new]; exact if_pos rfl, rfl, rfl, fun q hq hne => ?_⟩
    · simp only [appendTo, hg, Cap.room]
      rw [if_neg (by simp), if_neg (by omega), if_pos ⟨by rw [gc_len]; omega, hmx⟩]
      have e : List.take (xs.length * 2) (List.drop 0 (gc f xs)) ++ gc f [x] = gc f (xs ++ [x]) := by
        rw [List.drop_zero, List.take_of_length_le (by rw [gc_len]; omega), gc_app]
      rw [e, newCells_ok (gc_cell f _)]
      rfl
    · have e1 : q ≠ G := fun e => hne (by simp [refId, e])
      have e2 : ¬ (q = ⟨s.next, 0, 0⟩) := fun e => by subst e; simp at hq
      simp [St.new, St.set, e1, e2]

section
variable {S M : Vm.Id} {bud : Int} {f : Vm.Id → Ky}

theorem pos_of {σ : St} {L H : List Vm.Id} {cc : AV} (R : Rep σ S M bud L H f cc) {x : Vm.Id} (hx : x ∈ L) : ∃ j, posOf (kf f) L (f x).v (f x).u = some j ∧ at_ L j = x ∧ j < L.length := by
  cases h : posOf (kf f) L (f x).v (f x).u with
  | none => exact absurd ⟨rfl, rfl⟩ (posOf_none (kf f) h x hx)
  | some j =>
    obtain ⟨hj, h1, h2⟩ := posOf_some (kf f) h
    refine ⟨j, rfl, ?_, hj⟩
    rw [at_get hj]
    exact R.key _ (List.getElem_mem hj) x hx h1 h2

theorem evict_round {n0 : Nat} {σ : St} {L H : List Vm.Id} {cc a : AV} {xs : List Vm.Id} (R : Rep σ S M bud L H f cc) (hb : bud < sumL f L) (hH : H ≠ []) (hbud : -9223372036854775808 ≤ bud) (O : OutL σ f a xs) (few : xs.length < 2 ^ 30) (hn0 : n0 ≤ σ.next)
    (lF : ∀ q, Fp S M L cc q → q.o < n0) (la : ∀ G, refId a = some G → n0 ≤ G.o ∧ G.o < σ.next) {ρ : Env} (r0 : ρ 0 = .ptr S 0) (r3 : ρ 3 = a) {j : Nat} (hp : posOf (kf f) L (f (at_ H 0)).v (f (at_ H 0)).u = some j) (hj : at_ L j = at_ H 0) :
    ∃ ρ' σ' cc' a', run (tab hsS) l43_7 ρ σ = some (.normal, ρ', σ') ∧ Rep σ' S M bud (L.eraseIdx j) (dropH f H (at_ H 0)) f cc' ∧ OutL σ' f a' (xs ++ [at_ H 0]) ∧ refId cc' = refId cc ∧ FrmB n0 σ σ' (Fp S M L cc) ∧
      (∀ G, refId a' = some G → n0 ≤ G.o ∧ G.o < σ'.next) ∧ ρ' 0 = ρ 0 ∧ ρ' 3 = a' := by
  have hs := R.hs
  have h0 : 0 < H.length := List.length_pos_iff.2 hH
  have hx := at_mem h0
  have hlen := R.hc.len
  have gx := R.hc.ht 0 h0
  have hlH : (0 : Int) < (H.length : Int) := by omega
  obtain ⟨B, c, junk, hcc, hB⟩ : ∃ B c junk, cc = .sl B 0 H.length (.ge c) 1 ∧ σ.get B = some (ptrs H ++ junk) := by
    cases R.hc with
    | nil => exact absurd rfl hH
    | sl Q => exact ⟨_, _, _, rfl, Q.hb⟩
  have hel : elemPtr 1 0 cc = some (.ptr B 0) := by rw [hcc, elemPtr_sl h0]
  have hpB := ptrs_part (H := H) (junk := junk) h0
  generalize hxx : at_ H 0 = x at *
  have hz : newCells σ [.int .u32 0, .int .u32 0] = some (⟨σ.next, 0, 0⟩, σ.new [.int .u32 0, .int .u32 0]) := newCells_ok rfl
  have hst : storeAt (σ.new [.int .u32 0, .int .u32 0]) 2 (.ptr ⟨σ.next, 0, 0⟩ 0) (.agg [.int .u32 (f x).v, .int .u32 (f x).u]) = some (σ.new [.int .u32 (f x).v, .int .u32 (f x).u]) := new_store rfl rfl rfl
  have f1 := Frm.new σ [.int .u32 (f x).v, .int .u32 (f x).u] (fun _ => False)
  have R1 := R.frm f1 (fun _ _ h => h)
  have hk : (σ.new [.int .u32 (f x).v, .int .u32 (f x).u]).get ⟨σ.next, 0, 0⟩ = some [.int .u32 (f x).v, .int .u32 (f x).u] := by rw [get_new, if_pos rfl]
  obtain ⟨s2, cc', e2, R2, f2, hcc'⟩ := drop_ok R1 hp
  rw [hj] at R2
  have n1 : (σ.new [.int .u32 (f x).v, .int .u32 (f x).u]).next = σ.next + 1 := rfl
  have kF : ¬ Fp S M L cc ⟨σ.next, 0, 0⟩ := fun h => by have := lF _ h; simp at this; omega
  have hk2 : s2.get ⟨σ.next, 0, 0⟩ = some [.int .u32 (f x).v, .int .u32 (f x).u] := by rw [f2.get (by rw [n1]; show σ.next < _; omega) kF]; exact hk
  have hn2 := f2.next
  have O2 : OutL (s2.new (gc f [x])) f a xs := by
    rcases O with O | ⟨G, rfl, hg⟩
    · exact .inl O
    · obtain ⟨l1, l2⟩ := la G rfl
      refine .inr ⟨G, rfl, ?_⟩
      have gF : ¬ Fp S M L cc G := fun h => by have := lF _ h; omega
      rw [new_get (by omega), f2.get (by rw [n1]; omega) gF, new_get l2]; exact hg
  obtain ⟨s4, e4, g4, n4, v4, h4⟩ := app_out O2 few x
  have n3 : (s2.new (gc f [x])).next = s2.next + 1 := rfl
  rw [n3] at e4 g4
  have hfv : fillV [.int .u32 0, .int .u32 0] [(0, 2, [.int .u32 (f x).v, .int .u32 (f x).u])] = some (gc f [x]) := rfl
  have hz2 : newCells s2 (gc f [x]) = some (⟨s2.next, 0, 0⟩, s2.new (gc f [x])) := newCells_ok (gc_cell f _)
  have hel2 : elems (s2.new (gc f [x])) 2 1 (.sl ⟨s2.next, 0, 0⟩ 0 1 (.ex 1) 2) = some (gc f [x]) := by
    have : (s2.new (gc f [x])).get ⟨s2.next, 0, 0⟩ = some (gc f [x]) := by rw [get_new, if_pos rfl]
    simp only [elems, this]; rfl
  have heap4 : ∀ q, q.o < n0 → s4.heap q = s2.heap q := fun q hq => by
    rw [h4 q (by rw [n3]; omega) (fun e => by have := (la q e).1; omega)]
    exact (Frm.new s2 (gc f [x]) (fun _ => False)).heap q (by omega) (fun h => h)
  have lF2 : ∀ q, Fp S M (L.eraseIdx j) cc' q → q.o < n0 := fun q hq => by
    refine lF q ?_
    rcases hq with hq | hq | hq | hq
    · exact .inl hq
    · exact .inr (.inl hq)
    · exact .inr (.inr (.inl (List.mem_of_mem_eraseIdx hq)))
    · exact .inr (.inr (.inr (by rw [← hcc']; exact hq)))
  have R4 : Rep s4 S M bud (L.eraseIdx j) (dropH f H x) f cc' := by
    refine R2.frm (F := fun q => n0 ≤ q.o) ⟨by rw [n4, n3]; omega, v4, fun q _ hq => heap4 q (by omega)⟩ (fun q hq h => by have := lF2 q hq; omega)
  have hrun : ∃ ρ', run (tab hsS) l43_7 ρ σ = some (.normal, ρ', s4) ∧ ρ' 0 = ρ 0 ∧ ρ' 3 = .sl ⟨s2.next + 1, 0, 0⟩ 0 (xs.length + 1) (.ge (xs.length + 1)) 2 := by
    simp (disch := first | omega | (simp only [rkl]; omega)) only [rk1, rk2, rk3, rk4, rk5, Arg.get, ret1, AV.cells, AV.isCell, addOff, minmaxL, Cap.room, Cap.cut, cutI, isSt, resultOf, Function.comp_apply, Function.comp_def, beq_self_eq_true, if_true, if_false, ite_true, ite_false, reduceCtorEq, bne_self_eq_false, Option.some.injEq, Prod.mk.injEq, ↓reduceIte, Nat.reduceEqDiff, Nat.reduceAdd, Nat.reduceMul, Nat.reduceSub, Nat.reduceLeDiff, Nat.reduceLT, Int.reduceLT, Int.reduceLE, Int.reduceEq, Int.reduceAdd, Int.reduceSub, Int.reduceNeg, Int.reduceToNat, List.mapM_cons, List.mapM_nil, Option.pure_def, Option.bind_eq_bind, eq_self, decide_true, decide_false, l43_7]
    rw [drawn (seq_d43_3 _)]
    simp (disch := first | omega | (simp only [rkl]; omega)) only [rk1, rk2, rk3, rk4, rk5, Arg.get, ret1, AV.cells, AV.isCell, addOff, minmaxL, Cap.room, Cap.cut, cutI, isSt, resultOf, Function.comp_apply, Function.comp_def, beq_self_eq_true, if_true, if_false, ite_true, ite_false, reduceCtorEq, bne_self_eq_false, Option.some.injEq, Prod.mk.injEq, ↓reduceIte, Nat.reduceEqDiff, Nat.reduceAdd, Nat.reduceMul, Nat.reduceSub, Nat.reduceLeDiff, Nat.reduceLT, Int.reduceLT, Int.reduceLE, Int.reduceEq, Int.reduceAdd, Int.reduceSub, Int.reduceNeg, Int.reduceToNat, List.mapM_cons, List.mapM_nil, Option.pure_def, Option.bind_eq_bind, eq_self, decide_true, decide_false, d43_3, r0, hs, hb, hlen, hlH, p43_4, p43_5, p43_6, hel, hB, hpB, gx, thc, hz, hst, hk, e2, hk2, r3, hfv, hz2, hel2, e4]
    exact ⟨_, rfl, by simp (disch := first | omega | (simp only [rkl]; omega)) only [rk1, rk2, rk3, rk4, rk5, Arg.get, ret1, AV.cells, AV.isCell, addOff, minmaxL, Cap.room, Cap.cut, cutI, isSt, resultOf, Function.comp_apply, Function.comp_def, beq_self_eq_true, if_true, if_false, ite_true, ite_false, reduceCtorEq, bne_self_eq_false, Option.some.injEq, Prod.mk.injEq, ↓reduceIte, Nat.reduceEqDiff, Nat.reduceAdd, Nat.reduceMul, Nat.reduceSub, Nat.reduceLeDiff, Nat.reduceLT, Int.reduceLT, Int.reduceLE, Int.reduceEq, Int.reduceAdd, Int.reduceSub, Int.reduceNeg, Int.reduceToNat, List.mapM_cons, List.mapM_nil, Option.pure_def, Option.bind_eq_bind, eq_self, decide_true, decide_false, r0], by simp (disch := first | omega | (simp only [rkl]; omega)) only [rk1, rk2, rk3, rk4, rk5, Arg.get, ret1, AV.cells, AV.isCell, addOff, minmaxL, Cap.room, Cap.cut, cutI, isSt, resultOf, Function.comp_apply, Function.comp_def, beq_self_eq_true, if_true, if_false, ite_true, ite_false, reduceCtorEq, bne_self_eq_false, Option.some.injEq, Prod.mk.injEq, ↓reduceIte, Nat.reduceEqDiff, Nat.reduceAdd, Nat.reduceMul, Nat.reduceSub, Nat.reduceLeDiff, Nat.reduceLT, Int.reduceLT, Int.reduceLE, Int.reduceEq, Int.reduceAdd, Int.reduceSub, Int.reduceNeg, Int.reduceToNat, List.mapM_cons, List.mapM_nil, Option.pure_def, Option.bind_eq_bind, eq_self, decide_true, decide_false]⟩
  obtain ⟨ρ', hr, q0, q3⟩ := hrun
  refine ⟨ρ', s4, cc', _, hr, R4, .inr ⟨⟨s2.next + 1, 0, 0⟩, ?_, g4⟩, hcc', ⟨by rw [n4, n3]; omega, by rw [v4]; exact f2.ver, fun q hq hF => ?_⟩, fun G hG => ?_, q0, q3⟩
  · simp
  · rw [heap4 q hq, f2.heap q (by rw [n1]; omega) hF]
    exact f1.heap q (by omega) (fun h => h)
  · simp only [refId, Option.some.injEq] at hG; subst hG
    refine ⟨by show n0 ≤ s2.next + 1; omega, by rw [n4, n3]; show s2.next + 1 < _; omega⟩

theorem sum_nil {f : Vm.Id → Ky} : sumL f [] = 0 := rfl

theorem evict_loop {n0 : Nat} (hbud : -9223372036854775808 ≤ bud) : ∀ (n : Nat) {σ : St} {L H : List Vm.Id} {cc a : AV} {xs : List Vm.Id} (_ : Rep σ S M bud L H f cc) (_ : L.length ≤ n) (_ : OutL σ f a xs) (_ : xs.length + n < 2 ^ 30) (_ : n0 ≤ σ.next)
    (_ : ∀ q, Fp S M L cc q → q.o < n0) (_ : ∀ G, refId a = some G → n0 ≤ G.o ∧ G.o < σ.next) {ρ : Env} (_ : ρ 0 = .ptr S 0) (_ : ρ 3 = a),
    ∃ ρ' σ' cc' a', run (tab hsS) (.loop l43_7) ρ σ = some (.exit 0, ρ', σ') ∧ Rep σ' S M bud (evS bud f n L H).2.1 (evS bud f n L H).2.2 f cc' ∧ OutL σ' f a' (xs ++ (evS bud f n L H).1) ∧ refId cc' = refId cc ∧ FrmB n0 σ σ' (Fp S M L cc) ∧
      (∀ G, refId a' = some G → n0 ≤ G.o ∧ G.o < σ'.next) ∧ ρ' 3 = a' := by
  intro n
  have stop : ∀ {σ : St} {L H : List Vm.Id} {cc a : AV} {xs : List Vm.Id} (R : Rep σ S M bud L H f cc) (_ : ¬ (bud < sumL f L ∧ H ≠ [])) (O : OutL σ f a xs) (la : ∀ G, refId a = some G → n0 ≤ G.o ∧ G.o < σ.next) {ρ : Env} (_ : ρ 0 = .ptr S 0) (_ : ρ 3 = a),
      ∃ ρ' σ' cc' a', run (tab hsS) (.loop l43_7) ρ σ = some (.exit 0, ρ', σ') ∧ Rep σ' S M bud L H f cc' ∧ OutL σ' f a' (xs ++ []) ∧ refId cc' = refId cc ∧ FrmB n0 σ σ' (Fp S M L cc) ∧
      (∀ G, refId a' = some G → n0 ≤ G.o ∧ G.o < σ'.next) ∧ ρ' 3 = a' := by
    intro σ L H cc a xs R hno O la ρ r0 r3
    have hs := R.hs
    have hlen := R.hc.len
    rw [List.append_nil]
    have hr : ∃ ρ', run (tab hsS) (.loop l43_7) ρ σ = some (.exit 0, ρ', σ) ∧ ρ' 3 = ρ 3 := by
      rw [run_loop]
      by_cases hb : bud < sumL f L
      · have hH : ¬ ((0 : Int) < (H.length : Int)) := by
          have : H = [] := Classical.byContradiction fun h => hno ⟨hb, h⟩
          simp [this]
        simp (disch := first | omega | (simp only [rkl]; omega)) only [rk1, rk2, rk3, rk4, rk5, Arg.get, ret1, AV.cells, AV.isCell, addOff, minmaxL, Cap.room, Cap.cut, cutI, isSt, resultOf, Function.comp_apply, Function.comp_def, beq_self_eq_true, if_true, if_false, ite_true, ite_false, reduceCtorEq, bne_self_eq_false, Option.some.injEq, Prod.mk.injEq, ↓reduceIte, Nat.reduceEqDiff, Nat.reduceAdd, Nat.reduceMul, Nat.reduceSub, Nat.reduceLeDiff, Nat.reduceLT, Int.reduceLT, Int.reduceLE, Int.reduceEq, Int.reduceAdd, Int.reduceSub, Int.reduceNeg, Int.reduceToNat, List.mapM_cons, List.mapM_nil, Option.pure_def, Option.bind_eq_bind, eq_self, decide_true, decide_false, l43_7]
        rw [drawn (seq_d43_3 _)]
        simp (disch := first | omega | (simp only [rkl]; omega)) only [rk1, rk2, rk3, rk4, rk5, Arg.get, ret1, AV.cells, AV.isCell, addOff, minmaxL, Cap.room, Cap.cut, cutI, isSt, resultOf, Function.comp_apply, Function.comp_def, beq_self_eq_true, if_true, if_false, ite_true, ite_false, reduceCtorEq, bne_self_eq_false, Option.some.injEq, Prod.mk.injEq, ↓reduceIte, Nat.reduceEqDiff, Nat.reduceAdd, Nat.reduceMul, Nat.reduceSub, Nat.reduceLeDiff, Nat.reduceLT, Int.reduceLT, Int.reduceLE, Int.reduceEq, Int.reduceAdd, Int.reduceSub, Int.reduceNeg, Int.reduceToNat, List.mapM_cons, List.mapM_nil, Option.pure_def, Option.bind_eq_bind, eq_self, decide_true, decide_false, d43_3, r0, hs, hb, hlen, hH]
        exact ⟨_, rfl, by simp (disch := first | omega | (simp only [rkl]; omega)) only [rk1, rk2, rk3, rk4, rk5, Arg.get, ret1, AV.cells, AV.isCell, addOff, minmaxL, Cap.room, Cap.cut, cutI, isSt, resultOf, Function.comp_apply, Function.comp_def, beq_self_eq_true, if_true, if_false, ite_true, ite_false, reduceCtorEq, bne_self_eq_false, Option.some.injEq, Prod.mk.injEq, ↓reduceIte, Nat.reduceEqDiff, Nat.reduceAdd, Nat.reduceMul, Nat.reduceSub, Nat.reduceLeDiff, Nat.reduceLT, Int.reduceLT, Int.reduceLE, Int.reduceEq, Int.reduceAdd, Int.reduceSub, Int.reduceNeg, Int.reduceToNat, List.mapM_cons, List.mapM_nil, Option.pure_def, Option.bind_eq_bind, eq_self, decide_true, decide_false, r3]⟩
      · simp (disch := first | omega | (simp only [rkl]; omega)) only [rk1, rk2, rk3, rk4, rk5, Arg.get, ret1, AV.cells, AV.isCell, addOff, minmaxL, Cap.room, Cap.cut, cutI, isSt, resultOf, Function.comp_apply, Function.comp_def, beq_self_eq_true, if_true, if_false, ite_true, ite_false, reduceCtorEq, bne_self_eq_false, Option.some.injEq, Prod.mk.injEq, ↓reduceIte, Nat.reduceEqDiff, Nat.reduceAdd, Nat.reduceMul, Nat.reduceSub, Nat.reduceLeDiff, Nat.reduceLT, Int.reduceLT, Int.reduceLE, Int.reduceEq, Int.reduceAdd, Int.reduceSub, Int.reduceNeg, Int.reduceToNat, List.mapM_cons, List.mapM_nil, Option.pure_def, Option.bind_eq_bind, eq_self, decide_true, decide_false, l43_7]
        rw [drawn (seq_d43_3 _)]
        simp (disch := first | omega | (simp only [rkl]; omega)) only [rk1, rk2, rk3, rk4, rk5, Arg.get, ret1, AV.cells, AV.isCell, addOff, minmaxL, Cap.room, Cap.cut, cutI, isSt, resultOf, Function.comp_apply, Function.comp_def, beq_self_eq_true, if_true, if_false, ite_true, ite_false, reduceCtorEq, bne_self_eq_false, Option.some.injEq, Prod.mk.injEq, ↓reduceIte, Nat.reduceEqDiff, Nat.reduceAdd, Nat.reduceMul, Nat.reduceSub, Nat.reduceLeDiff, Nat.reduceLT, Int.reduceLT, Int.reduceLE, Int.reduceEq, Int.reduceAdd, Int.reduceSub, Int.reduceNeg, Int.reduceToNat, List.mapM_cons, List.mapM_nil, Option.pure_def, Option.bind_eq_bind, eq_self, decide_true, decide_false, d43_3, r0, hs, hb, hlen]
        exact ⟨_, rfl, by simp (disch := first | omega | (simp only [rkl]; omega)) only [rk1, rk2, rk3, rk4, rk5, Arg.get, ret1, AV.cells, AV.isCell, addOff, minmaxL, Cap.room, Cap.cut, cutI, isSt, resultOf, Function.comp_apply, Function.comp_def, beq_self_eq_true, if_true, if_false, ite_true, ite_false, reduceCtorEq, bne_self_eq_false, Option.some.injEq, Prod.mk.injEq, ↓reduceIte, Nat.reduceEqDiff, Nat.reduceAdd, Nat.reduceMul, Nat.reduceSub, Nat.reduceLeDiff, Nat.reduceLT, Int.reduceLT, Int.reduceLE, Int.reduceEq, Int.reduceAdd, Int.reduceSub, Int.reduceNeg, Int.reduceToNat, List.mapM_cons, List.mapM_nil, Option.pure_def, Option.bind_eq_bind, eq_self, decide_true, decide_false, r3]⟩
    obtain ⟨ρ', hr, q3⟩ := hr
    exact ⟨ρ', σ, cc, a, hr, R, O, rfl, ⟨Nat.le_refl _, rfl, fun _ _ _ => rfl⟩, la, q3.trans r3⟩
  induction n with
  | zero =>
    intro σ L H cc a xs R hL O few hn0 lF la ρ r0 r3
    have hH : H = [] := by
      have h0 : L = [] := List.length_eq_zero_iff.1 (by omega)
      cases H with
      | nil => rfl
      | cons y H => have := R.sub y (by simp); rw [h0] at this; simp at this
    exact stop R (fun h => h.2 hH) O la r0 r3
  | succ n ih =>
    intro σ L H cc a xs R hL O few hn0 lF la ρ r0 r3
    unfold evS
    by_cases hb : bud < sumL f L ∧ H ≠ []
    · rw [if_pos hb]
      have h0 : 0 < H.length := List.length_pos_iff.2 hb.2
      obtain ⟨j, hp, hj, hjl⟩ := pos_of R (R.sub _ (at_mem h0))
      rw [hp]
      obtain ⟨ρ1, σ1, cc1, a1, e1, R1, O1, hc1, f1, la1, q0, q3⟩ := evict_round R hb.1 hb.2 hbud O (by omega) hn0 lF la r0 r3 hp hj
      have hn1 := f1.next
      have hFe : ∀ q, Fp S M (L.eraseIdx j) cc1 q → Fp S M L cc q := fun q hq => by
        rcases hq with hq | hq | hq | hq
        · exact .inl hq
        · exact .inr (.inl hq)
        · exact .inr (.inr (.inl (List.mem_of_mem_eraseIdx hq)))
        · exact .inr (.inr (.inr (by rw [← hc1]; exact hq)))
      have hll : (L.eraseIdx j).length ≤ n := by rw [List.length_eraseIdx_of_lt hjl]; omega
      obtain ⟨ρ2, σ2, cc2, a2, e2, R2, O2, hc2, f2, la2, p3⟩ := ih R1 hll O1 (by simp; omega) (by omega) (fun q hq => lF q (hFe q hq)) la1 (q0.trans r0) q3
      refine ⟨ρ2, σ2, cc2, a2, ?_, R2, by simpa using O2, hc2.trans hc1, ⟨by have := f2.next; omega, f2.ver.trans f1.ver, fun q hq hF => ?_⟩, la2, p3⟩
      · rw [run_loop, e1]; simp (disch := first | omega | (simp only [rkl]; omega)) only [rk1, rk2, rk3, rk4, rk5, Arg.get, ret1, AV.cells, AV.isCell, addOff, minmaxL, Cap.room, Cap.cut, cutI, isSt, resultOf, Function.comp_apply, Function.comp_def, beq_self_eq_true, if_true, if_false, ite_true, ite_false, reduceCtorEq, bne_self_eq_false, Option.some.injEq, Prod.mk.injEq, ↓reduceIte, Nat.reduceEqDiff, Nat.reduceAdd, Nat.reduceMul, Nat.reduceSub, Nat.reduceLeDiff, Nat.reduceLT, Int.reduceLT, Int.reduceLE, Int.reduceEq, Int.reduceAdd, Int.reduceSub, Int.reduceNeg, Int.reduceToNat, List.mapM_cons, List.mapM_nil, Option.pure_def, Option.bind_eq_bind, eq_self, decide_true, decide_false]; exact e2
      · rw [f2.heap q hq (fun h => hF (hFe q h)), f1.heap q hq hF]
    · rw [if_neg hb]
      exact stop R hb O la r0 r3

theorem evict_ev {σ : St} {L H : List Vm.Id} {cc : AV} (R : Rep σ S M bud L H f cc) (hbud : -9223372036854775808 ≤ bud) : ∃ σ' cc' a, ev (tab hsS) 43 [.ptr S 0] σ = some (a, σ') ∧
    Rep σ' S M bud (evS bud f L.length L H).2.1 (evS bud f L.length L H).2.2 f cc' ∧ OutL σ' f a (evS bud f L.length L H).1 ∧ refId cc' = refId cc ∧ Frm σ σ' (Fp S M L cc) ∧ (∀ G, refId a = some G → σ.next ≤ G.o ∧ G.o < σ'.next) := by
  have lF : ∀ q, Fp S M L cc q → q.o < σ.next := by
    rintro q (rfl | rfl | hq | hq)
    · exact R.lS
    · exact R.lM
    · exact R.lL q hq
    · exact R.hc.lb q hq
  have hfew := R.few
  have key : ∀ (ρ : Env) r, run (tab hsS) (.loop l43_7) ρ σ = r → ρ 0 = .ptr S 0 → ρ 3 = .nilsl → ∃ ρ' σ' cc' a', r = some (.exit 0, ρ', σ') ∧ Rep σ' S M bud (evS bud f L.length L H).2.1 (evS bud f L.length L H).2.2 f cc' ∧ OutL σ' f a' (evS bud f L.length L H).1 ∧
      refId cc' = refId cc ∧ FrmB σ.next σ σ' (Fp S M L cc) ∧ (∀ G, refId a' = some G → σ.next ≤ G.o ∧ G.o < σ'.next) ∧ ρ' 3 = a' := by
    intro ρ r hr r0 r3
    subst hr
    have := evict_loop (f := f) (n0 := σ.next) hbud L.length R (Nat.le_refl _) (.inl ⟨rfl, rfl⟩) (by simp; omega) (Nat.le_refl _) lF (fun G h => by simp [refId] at h) r0 r3
    simpa using this
  rw [ev_raw (tab43 hsS)]
  simp (disch := first | omega | (simp only [rkl]; omega)) only [rk1, rk2, rk3, rk4, rk5, Arg.get, ret1, AV.cells, AV.isCell, addOff, minmaxL, Cap.room, Cap.cut, cutI, isSt, resultOf, Function.comp_apply, Function.comp_def, beq_self_eq_true, if_true, if_false, ite_true, ite_false, reduceCtorEq, bne_self_eq_false, Option.some.injEq, Prod.mk.injEq, ↓reduceIte, Nat.reduceEqDiff, Nat.reduceAdd, Nat.reduceMul, Nat.reduceSub, Nat.reduceLeDiff, Nat.reduceLT, Int.reduceLT, Int.reduceLE, Int.reduceEq, Int.reduceAdd, Int.reduceSub, Int.reduceNeg, Int.reduceToNat, List.mapM_cons, List.mapM_nil, Option.pure_def, Option.bind_eq_bind, eq_self, decide_true, decide_false, code43, p43_1, p43_2]
  generalize hr : run (tab hsS) (.loop l43_7) _ _ = r
  obtain ⟨ρ', σ', cc', a', rfl, R', O', hc, fb, la, q3⟩ := key _ _ hr (by simp (disch := first | omega | (simp only [rkl]; omega)) only [rk1, rk2, rk3, rk4, rk5, Arg.get, ret1, AV.cells, AV.isCell, addOff, minmaxL, Cap.room, Cap.cut, cutI, isSt, resultOf, Function.comp_apply, Function.comp_def, beq_self_eq_true, if_true, if_false, ite_true, ite_false, reduceCtorEq, bne_self_eq_false, Option.some.injEq, Prod.mk.injEq, ↓reduceIte, Nat.reduceEqDiff, Nat.reduceAdd, Nat.reduceMul, Nat.reduceSub, Nat.reduceLeDiff, Nat.reduceLT, Int.reduceLT, Int.reduceLE, Int.reduceEq, Int.reduceAdd, Int.reduceSub, Int.reduceNeg, Int.reduceToNat, List.mapM_cons, List.mapM_nil, Option.pure_def, Option.bind_eq_bind, eq_self, decide_true, decide_false]) (by simp (disch := first | omega | (simp only [rkl]; omega)) only [rk1, rk2, rk3, rk4, rk5, Arg.get, ret1, AV.cells, AV.isCell, addOff, minmaxL, Cap.room, Cap.cut, cutI, isSt, resultOf, Function.comp_apply, Function.comp_def, beq_self_eq_true, if_true, if_false, ite_true, ite_false, reduceCtorEq, bne_self_eq_false, Option.some.injEq, Prod.mk.injEq, ↓reduceIte, Nat.reduceEqDiff, Nat.reduceAdd, Nat.reduceMul, Nat.reduceSub, Nat.reduceLeDiff, Nat.reduceLT, Int.reduceLT, Int.reduceLE, Int.reduceEq, Int.reduceAdd, Int.reduceSub, Int.reduceNeg, Int.reduceToNat, List.mapM_cons, List.mapM_nil, Option.pure_def, Option.bind_eq_bind, eq_self, decide_true, decide_false])
  simp (disch := first | omega | (simp only [rkl]; omega)) only [rk1, rk2, rk3, rk4, rk5, Arg.get, ret1, AV.cells, AV.isCell, addOff, minmaxL, Cap.room, Cap.cut, cutI, isSt, resultOf, Function.comp_apply, Function.comp_def, beq_self_eq_true, if_true, if_false, ite_true, ite_false, reduceCtorEq, bne_self_eq_false, Option.some.injEq, Prod.mk.injEq, ↓reduceIte, Nat.reduceEqDiff, Nat.reduceAdd, Nat.reduceMul, Nat.reduceSub, Nat.reduceLeDiff, Nat.reduceLT, Int.reduceLT, Int.reduceLE, Int.reduceEq, Int.reduceAdd, Int.reduceSub, Int.reduceNeg, Int.reduceToNat, List.mapM_cons, List.mapM_nil, Option.pure_def, Option.bind_eq_bind, eq_self, decide_true, decide_false, p43_8, q3]
  exact ⟨_, cc', _, ⟨rfl, rfl⟩, R', O', hc, ⟨fb.next, fb.ver, fb.heap⟩, la⟩
end
end Go.Proofs.Ytkhalpmmdlppkaa
