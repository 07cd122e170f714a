/-
  THE SHELF: what goes, in plain words; is one in a list?
-/
import Derived.Test.YtkhalpmmdlppkaaShK
namespace Go.Proofs.Ytkhalpmmdlppkaa
set_option linter.unusedSimpArgs false
set_option linter.unusedVariables false
open Go.Vm

theorem cut_mem {H : List Vm.Id} (nd : H.Nodup) (f : Vm.Id → Ky) {k : Nat} (hk : k < H.length) : (∀ y, y ∈ (cutL ltK f H k).dropLast ↔ y ∈ H ∧ y ≠ at_ H k) ∧ (cutL ltK f H k).dropLast.Nodup ∧ (cutL ltK f H k).dropLast.length + 1 = H.length := by
  have hp := cutL_perm (lt := ltK) (f := f) hk
  have hl := hp.length_eq
  have hlast := drop_last (H := cutL ltK f H k) (fun e => by rw [e] at hl; simp at hl; omega)
  rw [hl, cutL_last hk] at hlast
  have nd' := hp.nodup_iff.2 nd
  rw [← hlast] at nd'
  have nda := List.nodup_append.1 nd'
  refine ⟨fun y => ⟨fun hy => ⟨hp.mem_iff.1 (List.dropLast_subset _ hy), fun e => nda.2.2 _ hy _ (by simp) e⟩, fun ⟨hy, hne⟩ => ?_⟩, nda.1, by simp [hl]; omega⟩
  have := hp.mem_iff.2 hy
  rw [← hlast] at this
  rcases List.mem_append.1 this with h | h
  · exact h
  · simp at h; exact absurd h hne

theorem slot_of {H : List Vm.Id} (nd : H.Nodup) {k : Nat} (hk : k < H.length) : slotOf H (at_ H k) = some k := by
  cases h : slotOf H (at_ H k) with
  | none => exact absurd (at_mem hk) (slot_none h)
  | some i => obtain ⟨h1, h2⟩ := slot_some h; rw [at_inj nd h1 hk h2]

theorem drop_mem {H : List Vm.Id} (nd : H.Nodup) (f : Vm.Id → Ky) (x : Vm.Id) : (∀ y, y ∈ dropH f H x ↔ y ∈ H ∧ y ≠ x) ∧ (dropH f H x).Nodup := by
  unfold dropH
  cases h : slotOf H x with
  | none => exact ⟨fun y => ⟨fun hy => ⟨hy, fun e => slot_none h (e ▸ hy)⟩, fun hy => hy.1⟩, nd⟩
  | some k =>
    obtain ⟨h1, h2⟩ := slot_some h
    obtain ⟨m, n, _⟩ := cut_mem nd f h1
    rw [h2] at m
    exact ⟨m, n⟩

/-- What is known of those that went. -/
structure Went (bud : Int) (f : Vm.Id → Ky) (L H G L' H' : List Vm.Id) : Prop where
  sub : ∀ x ∈ G, x ∈ H
  nd : G.Nodup
  left : ∀ x, x ∈ L' ↔ x ∈ L ∧ x ∉ G
  heap : ∀ x, x ∈ H' ↔ x ∈ H ∧ x ∉ G
  len : L'.length + G.length = L.length
  done : ¬ (bud < sumL f L' ∧ H' ≠ [])

theorem went (bud : Int) (f : Vm.Id → Ky) : ∀ (n : Nat) (L H : List Vm.Id), L.length ≤ n → L.Nodup → H.Nodup → (∀ x ∈ H, x ∈ L) → (∀ x ∈ L, ∀ y ∈ L, (f x).v = (f y).v → (f x).u = (f y).u → x = y) →
    Went bud f L H (evS bud f n L H).1 (evS bud f n L H).2.1 (evS bud f n L H).2.2 := by
  intro n
  have stop : ∀ (L H : List Vm.Id), ¬ (bud < sumL f L ∧ H ≠ []) → Went bud f L H [] L H := fun L H h => ⟨by simp, by simp, by simp, by simp, by simp, h⟩
  induction n with
  | zero =>
    intro L H hL ndL ndH sub key
    have h0 : L = [] := List.length_eq_zero_iff.1 (by omega)
    have hH : H = [] := by
      cases H with
      | nil => rfl
      | cons y H => have := sub y (by simp); rw [h0] at this; simp at this
    exact stop L H (fun h => h.2 hH)
  | succ n ih =>
    intro L H hL ndL ndH sub key
    unfold evS
    by_cases hb : bud < sumL f L ∧ H ≠ []
    · rw [if_pos hb]
      have h0 : 0 < H.length := List.length_pos_iff.2 hb.2
      have hx := at_mem h0
      generalize at_ H 0 = x at *
      cases hp : posOf (kf f) L (f x).v (f x).u with
      | none => exact absurd ⟨rfl, rfl⟩ (posOf_none (kf f) hp x (sub x hx))
      | some j =>
        obtain ⟨hj, h1, h2⟩ := posOf_some (kf f) hp
        have hjx : at_ L j = x := by rw [at_get hj]; exact key _ (List.getElem_mem hj) x (sub x hx) h1 h2
        have hm := fun y => mem_erase ndL hj y
        rw [hjx] at hm
        obtain ⟨dm, dn⟩ := drop_mem ndH f x
        have hll : (L.eraseIdx j).length ≤ n := by rw [List.length_eraseIdx_of_lt hj]; omega
        have W := ih (L.eraseIdx j) (dropH f H x) hll (ndL.sublist (List.eraseIdx_sublist _ _)) dn (fun y hy => (hm y).2 ⟨sub y ((dm y).1 hy).1, ((dm y).1 hy).2⟩) (fun a ha b hb => key a ((hm a).1 ha).1 b ((hm b).1 hb).1)
        have hxG : x ∉ (evS bud f n (L.eraseIdx j) (dropH f H x)).1 := fun h => ((dm x).1 (W.sub x h)).2 rfl
        refine ⟨fun y hy => ?_, List.nodup_cons.2 ⟨hxG, W.nd⟩, fun y => ?_, fun y => ?_, ?_, W.done⟩
        · rcases List.mem_cons.1 hy with rfl | hy
          · exact hx
          · exact ((dm y).1 (W.sub y hy)).1
        · rw [W.left, hm]; simp only [List.mem_cons, not_or]; exact ⟨fun h => ⟨h.1.1, h.1.2, h.2⟩, fun h => ⟨⟨h.1, h.2.1⟩, h.2.2⟩⟩
        · rw [W.heap, dm]; simp only [List.mem_cons, not_or]; exact ⟨fun h => ⟨h.1.1, h.1.2, h.2⟩, fun h => ⟨⟨h.1, h.2.1⟩, h.2.2⟩⟩
        · have := W.len
          rw [List.length_eraseIdx_of_lt hj] at this
          simp only [List.length_cons]; omega
    · rw [if_neg hb]
      exact stop L H hb

theorem evS_done {bud : Int} {f : Vm.Id → Ky} {L H : List Vm.Id} (h : ¬ (bud < sumL f L ∧ H ≠ [])) (n : Nat) : evS bud f n L H = ([], L, H) := by
  cases n with
  | zero => rfl
  | succ n => unfold evS; rw [if_neg h]

theorem gc_at {f : Vm.Id → Ky} : ∀ {xs : List Vm.Id} {i : Nat} {x : Vm.Id}, xs[i]? = some x → ((gc f xs).drop (i * 2)).take 2 = [.int .u32 (f x).v, .int .u32 (f x).u]
  | y :: xs, 0, x, hx => by
    simp only [List.getElem?_cons_zero, Option.some.injEq] at hx; subst hx
    rw [gc, List.flatMap_cons, Nat.zero_mul, List.drop_zero]
    exact List.take_left' rfl
  | y :: xs, i + 1, x, hx => by
    rw [gc, List.flatMap_cons, Nat.add_mul, Nat.one_mul, Nat.add_comm, ← List.drop_drop]
    show List.take 2 (List.drop (i * 2) (gc f xs)) = _
    exact gc_at (xs := xs) (by simpa using hx)

/-- Is one in a list? -/
def inL (f : Vm.Id → Ky) (xs : List Vm.Id) (v u : Int) : Bool := xs.any fun x => decide ((f x).v = v) && decide ((f x).u = u)

section
variable {f : Vm.Id → Ky} {fl : Bool} {v u : Int}

theorem in_loop {xs : List Vm.Id} (hl : xs.length < 2 ^ 40) {σ : St} {q : Vm.Id} (hg : σ.get q = some [.int .u32 v, .int .u32 u]) : ∀ (m i : Nat), i + m = xs.length → ∀ {ρ : Env}, ρ 0 = .isl fl (gc f xs) xs.length none → ρ 3 = .ptr q 0 → ρ 5 = .int .i64 i →
    ∃ ρ', run (tab hsS) (.loop l44_7) ρ σ = some (if inL f (xs.drop i) v u then .ret else .exit 0, ρ', σ) ∧ (inL f (xs.drop i) v u = true → ρ' 4 = .bool true)
  | 0, i, him, ρ, r0, r3, r5 => by
    have hi : i = xs.length := by omega
    subst hi
    rw [run_loop, List.drop_length]
    simp (disch := first | omega | (simp only [rkl]; omega)) only [rk1, rk2, rk3, rk4, rk5, Arg.get, ret1, AV.cells, AV.isCell, addOff, minmaxL, Cap.room, Cap.cut, cutI, isSt, resultOf, Function.comp_apply, Function.comp_def, beq_self_eq_true, if_true, if_false, ite_true, ite_false, reduceCtorEq, bne_self_eq_false, Option.some.injEq, Prod.mk.injEq, ↓reduceIte, Nat.reduceEqDiff, Nat.reduceAdd, Nat.reduceMul, Nat.reduceSub, Nat.reduceLeDiff, Nat.reduceLT, Int.reduceLT, Int.reduceLE, Int.reduceEq, Int.reduceAdd, Int.reduceSub, Int.reduceNeg, Int.reduceToNat, List.mapM_cons, List.mapM_nil, Option.pure_def, Option.bind_eq_bind, eq_self, decide_true, decide_false, l44_7, p44_3, r0, r5]
    exact ⟨_, ⟨rfl, rfl⟩, fun h => by simp [inL] at h⟩
  | m + 1, i, him, ρ, r0, r3, r5 => by
    have hi : i < xs.length := by omega
    have hx := List.getElem?_eq_getElem hi
    have hpt : Vm.part true 2 (i * 2) (gc f xs) = some (.agg [.int .u32 (f xs[i]).v, .int .u32 (f xs[i]).u]) := by rw [part_t (by rw [gc_len]; omega), gc_at hx]
    have hep : elemPtr 2 i (.isl fl (gc f xs) xs.length none) = some (.iptr fl (gc f xs) (i * 2)) := elemPtr_isl hi (by rw [gc_len]; omega)
    have him2 : (i : Int) < (xs.length : Int) := by omega
    have he : eqv KT (.agg [.int .u32 (f xs[i]).v, .int .u32 (f xs[i]).u]) (.agg [.int .u32 v, .int .u32 u]) = some (decide ((f xs[i]).v = v) && decide ((f xs[i]).u = u)) := eqv_kx _ _ _ _
    have hd : inL f (xs.drop i) v u = ((decide ((f xs[i]).v = v) && decide ((f xs[i]).u = u)) || inL f (xs.drop (i + 1)) v u) := by
      rw [List.drop_eq_getElem_cons hi]; rfl
    rw [hd]
    cases hb : (decide ((f xs[i]).v = v) && decide ((f xs[i]).u = u)) with
    | true =>
      rw [hb] at he
      rw [run_loop]
      simp (disch := first | omega | (simp only [rkl]; omega)) only [rk1, rk2, rk3, rk4, rk5, Arg.get, ret1, AV.cells, AV.isCell, addOff, minmaxL, Cap.room, Cap.cut, cutI, isSt, resultOf, Function.comp_apply, Function.comp_def, beq_self_eq_true, if_true, if_false, ite_true, ite_false, reduceCtorEq, bne_self_eq_false, Option.some.injEq, Prod.mk.injEq, ↓reduceIte, Nat.reduceEqDiff, Nat.reduceAdd, Nat.reduceMul, Nat.reduceSub, Nat.reduceLeDiff, Nat.reduceLT, Int.reduceLT, Int.reduceLE, Int.reduceEq, Int.reduceAdd, Int.reduceSub, Int.reduceNeg, Int.reduceToNat, List.mapM_cons, List.mapM_nil, Option.pure_def, Option.bind_eq_bind, eq_self, decide_true, decide_false, l44_7, p44_3, r0, r5, him2]
      rw [drawn (seq_d44_4 _)]
      simp (disch := first | omega | (simp only [rkl]; omega)) only [rk1, rk2, rk3, rk4, rk5, Arg.get, ret1, AV.cells, AV.isCell, addOff, minmaxL, Cap.room, Cap.cut, cutI, isSt, resultOf, Function.comp_apply, Function.comp_def, beq_self_eq_true, if_true, if_false, ite_true, ite_false, reduceCtorEq, bne_self_eq_false, Option.some.injEq, Prod.mk.injEq, ↓reduceIte, Nat.reduceEqDiff, Nat.reduceAdd, Nat.reduceMul, Nat.reduceSub, Nat.reduceLeDiff, Nat.reduceLT, Int.reduceLT, Int.reduceLE, Int.reduceEq, Int.reduceAdd, Int.reduceSub, Int.reduceNeg, Int.reduceToNat, List.mapM_cons, List.mapM_nil, Option.pure_def, Option.bind_eq_bind, eq_self, decide_true, decide_false, d44_4, r0, r3, r5, hep, hpt, hg, he, p44_5, Bool.true_or]
      exact ⟨_, rfl, fun _ => by simp (disch := first | omega | (simp only [rkl]; omega)) only [rk1, rk2, rk3, rk4, rk5, Arg.get, ret1, AV.cells, AV.isCell, addOff, minmaxL, Cap.room, Cap.cut, cutI, isSt, resultOf, Function.comp_apply, Function.comp_def, beq_self_eq_true, if_true, if_false, ite_true, ite_false, reduceCtorEq, bne_self_eq_false, Option.some.injEq, Prod.mk.injEq, ↓reduceIte, Nat.reduceEqDiff, Nat.reduceAdd, Nat.reduceMul, Nat.reduceSub, Nat.reduceLeDiff, Nat.reduceLT, Int.reduceLT, Int.reduceLE, Int.reduceEq, Int.reduceAdd, Int.reduceSub, Int.reduceNeg, Int.reduceToNat, List.mapM_cons, List.mapM_nil, Option.pure_def, Option.bind_eq_bind, eq_self, decide_true, decide_false]⟩
    | false =>
      rw [hb] at he
      have hround : ∃ ρ1, run (tab hsS) l44_7 ρ σ = some (.normal, ρ1, σ) ∧ ρ1 0 = ρ 0 ∧ ρ1 3 = ρ 3 ∧ ρ1 5 = .int .i64 (i + 1 : Nat) := by
        simp (disch := first | omega | (simp only [rkl]; omega)) only [rk1, rk2, rk3, rk4, rk5, Arg.get, ret1, AV.cells, AV.isCell, addOff, minmaxL, Cap.room, Cap.cut, cutI, isSt, resultOf, Function.comp_apply, Function.comp_def, beq_self_eq_true, if_true, if_false, ite_true, ite_false, reduceCtorEq, bne_self_eq_false, Option.some.injEq, Prod.mk.injEq, ↓reduceIte, Nat.reduceEqDiff, Nat.reduceAdd, Nat.reduceMul, Nat.reduceSub, Nat.reduceLeDiff, Nat.reduceLT, Int.reduceLT, Int.reduceLE, Int.reduceEq, Int.reduceAdd, Int.reduceSub, Int.reduceNeg, Int.reduceToNat, List.mapM_cons, List.mapM_nil, Option.pure_def, Option.bind_eq_bind, eq_self, decide_true, decide_false, l44_7, p44_3, r0, r5, him2]
        rw [drawn (seq_d44_4 _)]
        simp (disch := first | omega | (simp only [rkl]; omega)) only [rk1, rk2, rk3, rk4, rk5, Arg.get, ret1, AV.cells, AV.isCell, addOff, minmaxL, Cap.room, Cap.cut, cutI, isSt, resultOf, Function.comp_apply, Function.comp_def, beq_self_eq_true, if_true, if_false, ite_true, ite_false, reduceCtorEq, bne_self_eq_false, Option.some.injEq, Prod.mk.injEq, ↓reduceIte, Nat.reduceEqDiff, Nat.reduceAdd, Nat.reduceMul, Nat.reduceSub, Nat.reduceLeDiff, Nat.reduceLT, Int.reduceLT, Int.reduceLE, Int.reduceEq, Int.reduceAdd, Int.reduceSub, Int.reduceNeg, Int.reduceToNat, List.mapM_cons, List.mapM_nil, Option.pure_def, Option.bind_eq_bind, eq_self, decide_true, decide_false, d44_4, r0, r3, r5, hep, hpt, hg, he, p44_6]
        exact ⟨_, rfl, by simp (disch := first | omega | (simp only [rkl]; omega)) only [rk1, rk2, rk3, rk4, rk5, Arg.get, ret1, AV.cells, AV.isCell, addOff, minmaxL, Cap.room, Cap.cut, cutI, isSt, resultOf, Function.comp_apply, Function.comp_def, beq_self_eq_true, if_true, if_false, ite_true, ite_false, reduceCtorEq, bne_self_eq_false, Option.some.injEq, Prod.mk.injEq, ↓reduceIte, Nat.reduceEqDiff, Nat.reduceAdd, Nat.reduceMul, Nat.reduceSub, Nat.reduceLeDiff, Nat.reduceLT, Int.reduceLT, Int.reduceLE, Int.reduceEq, Int.reduceAdd, Int.reduceSub, Int.reduceNeg, Int.reduceToNat, List.mapM_cons, List.mapM_nil, Option.pure_def, Option.bind_eq_bind, eq_self, decide_true, decide_false, r0], by simp (disch := first | omega | (simp only [rkl]; omega)) only [rk1, rk2, rk3, rk4, rk5, Arg.get, ret1, AV.cells, AV.isCell, addOff, minmaxL, Cap.room, Cap.cut, cutI, isSt, resultOf, Function.comp_apply, Function.comp_def, beq_self_eq_true, if_true, if_false, ite_true, ite_false, reduceCtorEq, bne_self_eq_false, Option.some.injEq, Prod.mk.injEq, ↓reduceIte, Nat.reduceEqDiff, Nat.reduceAdd, Nat.reduceMul, Nat.reduceSub, Nat.reduceLeDiff, Nat.reduceLT, Int.reduceLT, Int.reduceLE, Int.reduceEq, Int.reduceAdd, Int.reduceSub, Int.reduceNeg, Int.reduceToNat, List.mapM_cons, List.mapM_nil, Option.pure_def, Option.bind_eq_bind, eq_self, decide_true, decide_false, r3], by simp (disch := first | omega | (simp only [rkl]; omega)) only [rk1, rk2, rk3, rk4, rk5, Arg.get, ret1, AV.cells, AV.isCell, addOff, minmaxL, Cap.room, Cap.cut, cutI, isSt, resultOf, Function.comp_apply, Function.comp_def, beq_self_eq_true, if_true, if_false, ite_true, ite_false, reduceCtorEq, bne_self_eq_false, Option.some.injEq, Prod.mk.injEq, ↓reduceIte, Nat.reduceEqDiff, Nat.reduceAdd, Nat.reduceMul, Nat.reduceSub, Nat.reduceLeDiff, Nat.reduceLT, Int.reduceLT, Int.reduceLE, Int.reduceEq, Int.reduceAdd, Int.reduceSub, Int.reduceNeg, Int.reduceToNat, List.mapM_cons, List.mapM_nil, Option.pure_def, Option.bind_eq_bind, eq_self, decide_true, decide_false, Int.natCast_add, Int.cast_ofNat_Int]⟩
      obtain ⟨ρ1, e1, q0, q3, q5⟩ := hround
      obtain ⟨ρ2, e2, h2⟩ := in_loop hl hg m (i + 1) (by omega) (q0.trans r0) (q3.trans r3) q5
      rw [run_loop, e1, Bool.false_or]
      exact ⟨ρ2, by simp (disch := first | omega | (simp only [rkl]; omega)) only [rk1, rk2, rk3, rk4, rk5, Arg.get, ret1, AV.cells, AV.isCell, addOff, minmaxL, Cap.room, Cap.cut, cutI, isSt, resultOf, Function.comp_apply, Function.comp_def, beq_self_eq_true, if_true, if_false, ite_true, ite_false, reduceCtorEq, bne_self_eq_false, Option.some.injEq, Prod.mk.injEq, ↓reduceIte, Nat.reduceEqDiff, Nat.reduceAdd, Nat.reduceMul, Nat.reduceSub, Nat.reduceLeDiff, Nat.reduceLT, Int.reduceLT, Int.reduceLE, Int.reduceEq, Int.reduceAdd, Int.reduceSub, Int.reduceNeg, Int.reduceToNat, List.mapM_cons, List.mapM_nil, Option.pure_def, Option.bind_eq_bind, eq_self, decide_true, decide_false]; exact e2, h2⟩

theorem in_pure {xs : List Vm.Id} (hl : xs.length < 2 ^ 40) {h : Hint} : pureOf (run (tab hsS)) ⟨18, 2, code44, [.tmp 4], h⟩ [.isl fl (gc f xs) xs.length none, .agg [.int .u32 v, .int .u32 u]] = some (.bool (inL f xs v u)) := by
  have hz : newCells emptySt [.int .u32 v, .int .u32 u] = some (⟨0, 0, 0⟩, emptySt.new [.int .u32 v, .int .u32 u]) := newCells_ok rfl
  have hg : (emptySt.new [.int .u32 v, .int .u32 u]).get ⟨0, 0, 0⟩ = some [.int .u32 v, .int .u32 u] := by rw [get_new]; exact if_pos rfl
  have key : ∀ (ρ : Env) r, run (tab hsS) (.loop l44_7) ρ (emptySt.new [.int .u32 v, .int .u32 u]) = r → ρ 0 = .isl fl (gc f xs) xs.length none → ρ 3 = .ptr ⟨0, 0, 0⟩ 0 → ρ 5 = .int .i64 0 →
      ∃ ρ', r = some (if inL f xs v u then .ret else .exit 0, ρ', emptySt.new [.int .u32 v, .int .u32 u]) ∧ (inL f xs v u = true → ρ' 4 = .bool true) := by
    intro ρ r hr r0 r3 r5
    subst hr
    have := in_loop (f := f) (fl := fl) hl hg xs.length 0 (by omega) r0 r3 r5
    simpa using this
  simp (disch := first | omega | (simp only [rkl]; omega)) only [rk1, rk2, rk3, rk4, rk5, Arg.get, ret1, AV.cells, AV.isCell, addOff, minmaxL, Cap.room, Cap.cut, cutI, isSt, resultOf, Function.comp_apply, Function.comp_def, beq_self_eq_true, if_true, if_false, ite_true, ite_false, reduceCtorEq, bne_self_eq_false, Option.some.injEq, Prod.mk.injEq, ↓reduceIte, Nat.reduceEqDiff, Nat.reduceAdd, Nat.reduceMul, Nat.reduceSub, Nat.reduceLeDiff, Nat.reduceLT, Int.reduceLT, Int.reduceLE, Int.reduceEq, Int.reduceAdd, Int.reduceSub, Int.reduceNeg, Int.reduceToNat, List.mapM_cons, List.mapM_nil, Option.pure_def, Option.bind_eq_bind, eq_self, decide_true, decide_false, code44, p44_1, p44_2, hz]
  generalize hr : run (tab hsS) (.loop l44_7) _ _ = r
  obtain ⟨ρ', rfl, q4⟩ := key _ _ hr (by simp (disch := first | omega | (simp only [rkl]; omega)) only [rk1, rk2, rk3, rk4, rk5, Arg.get, ret1, AV.cells, AV.isCell, addOff, minmaxL, Cap.room, Cap.cut, cutI, isSt, resultOf, Function.comp_apply, Function.comp_def, beq_self_eq_true, if_true, if_false, ite_true, ite_false, reduceCtorEq, bne_self_eq_false, Option.some.injEq, Prod.mk.injEq, ↓reduceIte, Nat.reduceEqDiff, Nat.reduceAdd, Nat.reduceMul, Nat.reduceSub, Nat.reduceLeDiff, Nat.reduceLT, Int.reduceLT, Int.reduceLE, Int.reduceEq, Int.reduceAdd, Int.reduceSub, Int.reduceNeg, Int.reduceToNat, List.mapM_cons, List.mapM_nil, Option.pure_def, Option.bind_eq_bind, eq_self, decide_true, decide_false]) (by simp (disch := first | omega | (simp only [rkl]; omega)) only [rk1, rk2, rk3, rk4, rk5, Arg.get, ret1, AV.cells, AV.isCell, addOff, minmaxL, Cap.room, Cap.cut, cutI, isSt, resultOf, Function.comp_apply, Function.comp_def, beq_self_eq_true, if_true, if_false, ite_true, ite_false, reduceCtorEq, bne_self_eq_false, Option.some.injEq, Prod.mk.injEq, ↓reduceIte, Nat.reduceEqDiff, Nat.reduceAdd, Nat.reduceMul, Nat.reduceSub, Nat.reduceLeDiff, Nat.reduceLT, Int.reduceLT, Int.reduceLE, Int.reduceEq, Int.reduceAdd, Int.reduceSub, Int.reduceNeg, Int.reduceToNat, List.mapM_cons, List.mapM_nil, Option.pure_def, Option.bind_eq_bind, eq_self, decide_true, decide_false]) (by simp (disch := first | omega | (simp only [rkl]; omega)) only [rk1, rk2, rk3, rk4, rk5, Arg.get, ret1, AV.cells, AV.isCell, addOff, minmaxL, Cap.room, Cap.cut, cutI, isSt, resultOf, Function.comp_apply, Function.comp_def, beq_self_eq_true, if_true, if_false, ite_true, ite_false, reduceCtorEq, bne_self_eq_false, Option.some.injEq, Prod.mk.injEq, ↓reduceIte, Nat.reduceEqDiff, Nat.reduceAdd, Nat.reduceMul, Nat.reduceSub, Nat.reduceLeDiff, Nat.reduceLT, Int.reduceLT, Int.reduceLE, Int.reduceEq, Int.reduceAdd, Int.reduceSub, Int.reduceNeg, Int.reduceToNat, List.mapM_cons, List.mapM_nil, Option.pure_def, Option.bind_eq_bind, eq_self, decide_true, decide_false])
  cases hb : inL f xs v u with
  | true =>
    have q4 := q4 hb
    simp (disch := first | omega | (simp only [rkl]; omega)) only [rk1, rk2, rk3, rk4, rk5, Arg.get, ret1, AV.cells, AV.isCell, addOff, minmaxL, Cap.room, Cap.cut, cutI, isSt, resultOf, Function.comp_apply, Function.comp_def, beq_self_eq_true, if_true, if_false, ite_true, ite_false, reduceCtorEq, bne_self_eq_false, Option.some.injEq, Prod.mk.injEq, ↓reduceIte, Nat.reduceEqDiff, Nat.reduceAdd, Nat.reduceMul, Nat.reduceSub, Nat.reduceLeDiff, Nat.reduceLT, Int.reduceLT, Int.reduceLE, Int.reduceEq, Int.reduceAdd, Int.reduceSub, Int.reduceNeg, Int.reduceToNat, List.mapM_cons, List.mapM_nil, Option.pure_def, Option.bind_eq_bind, eq_self, decide_true, decide_false, q4]
  | false => simp (disch := first | omega | (simp only [rkl]; omega)) only [rk1, rk2, rk3, rk4, rk5, Arg.get, ret1, AV.cells, AV.isCell, addOff, minmaxL, Cap.room, Cap.cut, cutI, isSt, resultOf, Function.comp_apply, Function.comp_def, beq_self_eq_true, if_true, if_false, ite_true, ite_false, reduceCtorEq, bne_self_eq_false, Option.some.injEq, Prod.mk.injEq, ↓reduceIte, Nat.reduceEqDiff, Nat.reduceAdd, Nat.reduceMul, Nat.reduceSub, Nat.reduceLeDiff, Nat.reduceLT, Int.reduceLT, Int.reduceLE, Int.reduceEq, Int.reduceAdd, Int.reduceSub, Int.reduceNeg, Int.reduceToNat, List.mapM_cons, List.mapM_nil, Option.pure_def, Option.bind_eq_bind, eq_self, decide_true, decide_false, p44_8]

theorem in_ev {σ : St} {a : AV} {xs : List Vm.Id} (O : OutL σ f a xs) (hl : xs.length < 2 ^ 40) : ev (tab hsS) 44 [a, .agg [.int .u32 v, .int .u32 u]] σ = some (.bool (inL f xs v u), σ) := by
  have hs : ∃ fl, snap σ 7 a = some (.isl fl (gc f xs) xs.length none) := by
    rcases O with ⟨rfl, rfl⟩ | ⟨G, rfl, hg⟩
    · exact ⟨false, rfl⟩
    · refine ⟨true, ?_⟩
      have hm : (gc f xs).mapM (Vm.snap σ 6) = some (gc f xs) := mapM_id fun y hy => by
        simp only [gc, List.mem_flatMap] at hy
        obtain ⟨x, _, hy⟩ := hy
        simp at hy
        rcases hy with rfl | rfl <;> rfl
      rw [snap_sl, hg]
      simp only [Option.bind_some, List.drop_zero, Nat.zero_add]
      rw [if_pos (by rw [gc_len]; exact Nat.le_refl _), List.take_of_length_le (by rw [gc_len]; exact Nat.le_refl _), hm]; rfl
  obtain ⟨fl, hs⟩ := hs
  exact pure_ev (tab44 hsS) (snaps_cons hs (snaps_cons rfl (snaps_nil _))) (in_pure hl)
end
end Go.Proofs.Ytkhalpmmdlppkaa
