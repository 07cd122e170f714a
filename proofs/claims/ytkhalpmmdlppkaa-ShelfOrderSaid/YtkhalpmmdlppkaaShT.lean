/-
  ShelfOrder: the first shelf is filled.
-/
import Derived.Test.YtkhalpmmdlppkaaShS
namespace Go.Proofs.Ytkhalpmmdlppkaa
set_option linter.unusedSimpArgs false
set_option linter.unusedVariables false
open Go.Vm

def rwOf (x : Sc) : Rw := ⟨⟨x.v, x.u, x.sz, x.us⟩, x.c⟩

/-- A shelf whose heap is one, with a mark on what is clean. -/
structure Shf (σ : St) (S M : Vm.Id) (bud : Int) (L H : List Vm.Id) (f : Vm.Id → Ky) (cl : Vm.Id → Bool) (cc : AV) : Prop where
  R : Rep σ S M bud L H f cc
  ok : Ok ltK f H.length H
  hcl : ∀ x ∈ L, x ∈ H ↔ cl x = true

theorem ok_cong {f g : Vm.Id → Ky} {H : List Vm.Id} (h : Ok ltK f H.length H) (e : ∀ x ∈ H, f x = g x) : Ok ltK g H.length H := fun k k0 hk => by
  rw [← e _ (at_mem hk), ← e _ (at_mem (show (k - 1) / 2 < H.length by omega))]
  exact h k k0 hk

theorem Shf.frm {σ σ' : St} {S M : Vm.Id} {bud : Int} {L H : List Vm.Id} {f : Vm.Id → Ky} {cl : Vm.Id → Bool} {cc : AV} (A : Shf σ S M bud L H f cl cc) {F : Vm.Id → Prop} (h : Frm σ σ' F) (hF : ∀ q, Fp S M L cc q → ¬ F q) : Shf σ' S M bud L H f cl cc := ⟨A.R.frm h hF, A.ok, A.hcl⟩

/-- Put, on such a shelf. -/
theorem Shf.put {σ : St} {S M : Vm.Id} {bud : Int} {L H : List Vm.Id} {f : Vm.Id → Ky} {cl : Vm.Id → Bool} {cc : AV} (A : Shf σ S M bud L H f cl cc) {v u sz us : Int} {c : Bool} (hsz : 0 ≤ sz ∧ sz ≤ 1048576) (hp : posOf (kf f) L v u = none) (hL : L.length < 65536) :
    ∃ σ' X H' f' cl' cc', ev (tab hsS) 42 [.ptr S 0, .agg [.int .u32 v, .int .u32 u], .int .i64 sz, .int .i64 us, .bool c] σ = some (.int .i64 0, σ') ∧ Shf σ' S M bud (L ++ [X]) H' f' cl' cc' ∧ rowsOf f' cl' (L ++ [X]) = rowsOf f cl L ++ [⟨⟨v, u, sz, us⟩, c⟩] ∧
      Frm σ σ' (Fp S M L cc) ∧ (∀ q, Fp S M (L ++ [X]) cc' q → Fp S M L cc q ∨ σ.next ≤ q.o) := by
  obtain ⟨σ1, X, cc1, e1, R1, f1, XL, lX, hw⟩ := put_ok A.R hsz hp us c hL
  have XH : X ∉ H := fun e => XL (A.R.sub X e)
  let f' := upd f X ⟨v, u, sz, us⟩
  let cl' : Vm.Id → Bool := fun z => if z = X then c else cl z
  have hf : ∀ y ∈ L, f' y = f y := fun y hy => upd_other (fun e => XL (e ▸ hy))
  have hrows : rowsOf f' cl' (L ++ [X]) = rowsOf f cl L ++ [⟨⟨v, u, sz, us⟩, c⟩] := by
    have : rowsOf f cl L = rowsOf f' cl' L := rowsOf_cong fun y hy => ⟨(hf y hy).symm, by
      have : y ≠ X := fun e => XL (e ▸ hy)
      simp [cl', this]⟩
    rw [this]; simp [rowsOf, f', cl', upd_same]
  have hup := upL_perm (lt := ltK) (f := f') H.length (H := H ++ [X]) (by simp)
  have okf : Ok ltK f' H.length H := ok_cong A.ok fun x hx => (hf x (A.R.sub x hx)).symm
  refine ⟨σ1, X, _, f', cl', cc1, e1, ⟨R1, ?_, fun y hy => ?_⟩, hrows, f1, hw⟩
  · cases c with
    | false => exact okf
    | true =>
      have := push_ok ordK (x := X) okf
      simp only [if_true]
      have hl : (upL ltK f' (H ++ [X]) H.length).length = H.length + 1 := by rw [hup.length_eq]; simp
      show Ok ltK f' (upL ltK f' (H ++ [X]) H.length).length (upL ltK f' (H ++ [X]) H.length)
      rw [hl]; exact this
  · rcases List.mem_append.1 hy with hy | hy
    · have hne : y ≠ X := fun e => XL (e ▸ hy)
      have : cl' y = cl y := by simp [cl', hne]
      rw [this, ← A.hcl y hy]
      split
      · rw [hup.mem_iff]; simp [hne]
      · rfl
    · have hyX : y = X := by simpa using hy
      subst hyX
      have : cl' y = c := by simp [cl']
      rw [this]
      split
      · rename_i h; rw [hup.mem_iff]; simp [h]
      · rename_i h; simp [h, XH]

structure Inv8 (ρ : Env) (σ : St) (S1 M1 S2 M2 : Vm.Id) (bud turn : Int) (i : Nat) (l ms : List Sc) (L H : List Vm.Id) (f : Vm.Id → Ky) (cl : Vm.Id → Bool) (cc a : AV) (f2 : Vm.Id → Ky) : Prop where
  A : Shf σ S1 M1 bud L H f cl cc
  B : Rep σ S2 M2 bud [] [] f2 .nilsl
  dj : ∀ q, Fp S1 M1 L cc q → ¬ Fp S2 M2 [] .nilsl q
  rows : rowsOf f cl L = ms.map rwOf
  szs : ∀ x ∈ ms, 0 ≤ x.sz ∧ x.sz ≤ 1048576
  O : LstC σ 6 a ms.length (scs ms)
  la : ∀ G, refId a = some G → G.o < σ.next ∧ ¬ Fp S1 M1 L cc G ∧ ¬ Fp S2 M2 [] .nilsl G
  r1 : ρ 1 = .int .i64 turn
  r2 : ρ 2 = .isl false (scs l) l.length none
  r7 : ρ 7 = .ptr S1 0
  r9 : ρ 9 = .ptr S2 0
  r11 : ρ 11 = a
  r12 : ρ 12 = .int .i64 i
  few : ms.length ≤ i

def Next8 (S1 M1 S2 M2 : Vm.Id) (bud turn : Int) (i : Nat) (l : List Sc) (f2 : Vm.Id → Ky) (r : Option (Ex × Env × St)) : Prop := ∃ ρ σ ms L H f cl cc a, r = some (.normal, ρ, σ) ∧ Inv8 ρ σ S1 M1 S2 M2 bud turn i l ms L H f cl cc a f2
theorem next8_mk {ρ : Env} {σ : St} {S1 M1 S2 M2 : Vm.Id} {bud turn : Int} {i : Nat} {l ms : List Sc} {L H : List Vm.Id} {f : Vm.Id → Ky} {cl : Vm.Id → Bool} {cc a : AV} {f2 : Vm.Id → Ky} (h : Inv8 ρ σ S1 M1 S2 M2 bud turn i l ms L H f cl cc a f2) : Next8 S1 M1 S2 M2 bud turn i l f2 (some (.normal, ρ, σ)) :=
  ⟨_, _, _, _, _, _, _, _, _, rfl, h⟩

theorem sc_fill (x : Sc) : fillV [.int .i64 0, .int .u32 0, .int .u32 0, .int .i64 0, .int .i64 0, .bool false] [(0, 6, scc x)] = some (scc x) := rfl
theorem scs_app (a b : List Sc) : scs (a ++ b) = scs a ++ scs b := by simp [scs]

theorem round8 {ρ : Env} {σ : St} {S1 M1 S2 M2 : Vm.Id} {bud turn : Int} {i : Nat} {l ms : List Sc} {L H : List Vm.Id} {f : Vm.Id → Ky} {cl : Vm.Id → Bool} {cc a : AV} {f2 : Vm.Id → Ky} (I : Inv8 ρ σ S1 M1 S2 M2 bud turn i l ms L H f cl cc a f2) (hi : i < l.length) (hi2 : i < 60) :
    Next8 S1 M1 S2 M2 bud turn (i + 1) l f2 (run (tab hsS) l8_15 ρ σ) := by
  have hx : l[i]? = some l[i] := List.getElem?_eq_getElem hi
  have hat := scs_at hx
  generalize l[i] = x at hx hat
  have hsl := scs_len l
  have hm : (i + 1) * 6 ≤ l.length * 6 := Nat.mul_le_mul_right _ hi
  have hpt : Vm.part true 6 (i * 6) (scs l) = some (.agg (scc x)) := by rw [part_t (by omega), hat]
  have hep : elemPtr 6 i (.isl false (scs l) l.length none) = some (.iptr false (scs l) (i * 6)) := elemPtr_isl hi (by omega)
  have hz : newCells σ [.int .i64 0, .int .u32 0, .int .u32 0, .int .i64 0, .int .i64 0, .bool false] = some (⟨σ.next, 0, 0⟩, σ.new [.int .i64 0, .int .u32 0, .int .u32 0, .int .i64 0, .int .i64 0, .bool false]) := newCells_ok rfl
  have hst : storeAt (σ.new [.int .i64 0, .int .u32 0, .int .u32 0, .int .i64 0, .int .i64 0, .bool false]) 6 (.ptr ⟨σ.next, 0, 0⟩ 0) (.agg (scc x)) = some (σ.new (scc x)) := new_store rfl rfl rfl
  have hg0 : (σ.new (scc x)).get ⟨σ.next, 0, 0⟩ = some (scc x) := by rw [get_new, if_pos rfl]
  have hp3 : Vm.part false 1 3 (scc x) = some (.int .i64 x.sz) := rfl
  obtain ⟨t, ht, hw⟩ := mod_small x.sz 200 (by omega) (by omega)
  have hw : IntKind.i64.wrap ((IntKind.u64.wrap x.sz).tmod 200) = t := hw
  have hst2 : storeAt (σ.new (scc x)) 1 (.ptr ⟨σ.next, 0, 0⟩ 3) (.int .i64 t) = some ((σ.new (scc x)).set ⟨σ.next, 0, 0⟩ (some (.cells (scc ⟨x.kind, x.v, x.u, t, x.us, x.c⟩)))) := by rw [store_one hg0 (by simp [scc]) (by simp) rfl]; rfl
  have hg : ((σ.new (scc x)).set ⟨σ.next, 0, 0⟩ (some (.cells (scc ⟨x.kind, x.v, x.u, t, x.us, x.c⟩)))).get ⟨σ.next, 0, 0⟩ = some (scc ⟨x.kind, x.v, x.u, t, x.us, x.c⟩) := get_set_same _ _ _
  have f1 : Frm σ ((σ.new (scc x)).set ⟨σ.next, 0, 0⟩ (some (.cells (scc ⟨x.kind, x.v, x.u, t, x.us, x.c⟩)))) (fun _ => False) := ⟨by show σ.next ≤ σ.next + 1; omega, rfl, fun q hq _ => by
    have e : ¬ (q = ⟨σ.next, 0, 0⟩) := fun e => by subst e; simp at hq
    simp [St.set, St.new, e]⟩
  have n1 : ((σ.new (scc x)).set ⟨σ.next, 0, 0⟩ (some (.cells (scc ⟨x.kind, x.v, x.u, t, x.us, x.c⟩)))).next = σ.next + 1 := rfl
  have him : (i : Int) < (l.length : Int) := by omega
  have him2 : (i : Int) < 60 := by omega
  have lA := I.A.R.lF
  have lB := I.B.lF
  generalize (σ.new (scc x)).set ⟨σ.next, 0, 0⟩ (some (.cells (scc ⟨x.kind, x.v, x.u, t, x.us, x.c⟩))) = s1 at *
  have A1 := I.A.frm f1 (fun _ _ h => h)
  have B1 := I.B.frm f1 (fun _ _ h => h)
  have O1 := I.O.keep (σ' := s1) fun G hG => f1.get (I.la G hG).1 (fun h => h)
  have hlr : L.length = ms.length := by have := congrArg List.length I.rows; simpa [rowsOf] using this
  have c1 : Vm.part true 2 1 (scc ⟨x.kind, x.v, x.u, t, x.us, x.c⟩) = some (.agg [.int .u32 x.v, .int .u32 x.u]) := rfl
  have c3 : Vm.part false 1 3 (scc ⟨x.kind, x.v, x.u, t, x.us, x.c⟩) = some (.int .i64 t) := rfl
  have c4 : Vm.part false 1 4 (scc ⟨x.kind, x.v, x.u, t, x.us, x.c⟩) = some (.int .i64 x.us) := rfl
  have c5 : Vm.part false 1 5 (scc ⟨x.kind, x.v, x.u, t, x.us, x.c⟩) = some (.bool x.c) := rfl
  have c6 : Vm.part true 6 0 (scc ⟨x.kind, x.v, x.u, t, x.us, x.c⟩) = some (.agg (scc ⟨x.kind, x.v, x.u, t, x.us, x.c⟩)) := rfl
  cases hp : posOf (kf f) L x.v x.u with
  | some j =>
    obtain ⟨s2, e2, f2'⟩ := put_twice A1.R (sz := t) (by omega) hp x.us x.c
    have hn2 := f2'.next
    simp (disch := first | omega | (simp only [rkl]; omega)) only [rk1, rk2, rk3, rk4, rk5, Arg.get, ret1, AV.cells, AV.isCell, addOff, minmaxL, Cap.room, Cap.cut, cutI, isSt, resultOf, Function.comp_apply, Function.comp_def, beq_self_eq_true, if_true, if_false, ite_true, ite_false, reduceCtorEq, bne_self_eq_false, Option.some.injEq, Prod.mk.injEq, ↓reduceIte, Nat.reduceEqDiff, Nat.reduceAdd, Nat.reduceMul, Nat.reduceSub, Nat.reduceLeDiff, Nat.reduceLT, Int.reduceLT, Int.reduceLE, Int.reduceEq, Int.reduceAdd, Int.reduceSub, Int.reduceNeg, Int.reduceToNat, List.mapM_cons, List.mapM_nil, Option.pure_def, Option.bind_eq_bind, eq_self, decide_true, decide_false, l8_15, p8_9, p8_10, p8_11, p8_12, p8_14, I.r2, I.r7, I.r12, him, him2, hep, hpt, hz, hst, hg0, hp3, hw, hst2, hg, c1, c3, c4, c5, e2]
    exact next8_mk ⟨A1.frm f2' (fun _ _ h => h), B1.frm f2' (fun _ _ h => h), I.dj, I.rows, I.szs, O1.keep fun G hG => f2'.get (by have := (I.la G hG).1; omega) (fun h => h), fun G hG => ⟨by have := (I.la G hG).1; omega, (I.la G hG).2⟩,
      by simp (disch := first | omega | (simp only [rkl]; omega)) only [rk1, rk2, rk3, rk4, rk5, Arg.get, ret1, AV.cells, AV.isCell, addOff, minmaxL, Cap.room, Cap.cut, cutI, isSt, resultOf, Function.comp_apply, Function.comp_def, beq_self_eq_true, if_true, if_false, ite_true, ite_false, reduceCtorEq, bne_self_eq_false, Option.some.injEq, Prod.mk.injEq, ↓reduceIte, Nat.reduceEqDiff, Nat.reduceAdd, Nat.reduceMul, Nat.reduceSub, Nat.reduceLeDiff, Nat.reduceLT, Int.reduceLT, Int.reduceLE, Int.reduceEq, Int.reduceAdd, Int.reduceSub, Int.reduceNeg, Int.reduceToNat, List.mapM_cons, List.mapM_nil, Option.pure_def, Option.bind_eq_bind, eq_self, decide_true, decide_false, I.r1], by simp (disch := first | omega | (simp only [rkl]; omega)) only [rk1, rk2, rk3, rk4, rk5, Arg.get, ret1, AV.cells, AV.isCell, addOff, minmaxL, Cap.room, Cap.cut, cutI, isSt, resultOf, Function.comp_apply, Function.comp_def, beq_self_eq_true, if_true, if_false, ite_true, ite_false, reduceCtorEq, bne_self_eq_false, Option.some.injEq, Prod.mk.injEq, ↓reduceIte, Nat.reduceEqDiff, Nat.reduceAdd, Nat.reduceMul, Nat.reduceSub, Nat.reduceLeDiff, Nat.reduceLT, Int.reduceLT, Int.reduceLE, Int.reduceEq, Int.reduceAdd, Int.reduceSub, Int.reduceNeg, Int.reduceToNat, List.mapM_cons, List.mapM_nil, Option.pure_def, Option.bind_eq_bind, eq_self, decide_true, decide_false, I.r2], by simp (disch := first | omega | (simp only [rkl]; omega)) only [rk1, rk2, rk3, rk4, rk5, Arg.get, ret1, AV.cells, AV.isCell, addOff, minmaxL, Cap.room, Cap.cut, cutI, isSt, resultOf, Function.comp_apply, Function.comp_def, beq_self_eq_true, if_true, if_false, ite_true, ite_false, reduceCtorEq, bne_self_eq_false, Option.some.injEq, Prod.mk.injEq, ↓reduceIte, Nat.reduceEqDiff, Nat.reduceAdd, Nat.reduceMul, Nat.reduceSub, Nat.reduceLeDiff, Nat.reduceLT, Int.reduceLT, Int.reduceLE, Int.reduceEq, Int.reduceAdd, Int.reduceSub, Int.reduceNeg, Int.reduceToNat, List.mapM_cons, List.mapM_nil, Option.pure_def, Option.bind_eq_bind, eq_self, decide_true, decide_false, I.r7], by simp (disch := first | omega | (simp only [rkl]; omega)) only [rk1, rk2, rk3, rk4, rk5, Arg.get, ret1, AV.cells, AV.isCell, addOff, minmaxL, Cap.room, Cap.cut, cutI, isSt, resultOf, Function.comp_apply, Function.comp_def, beq_self_eq_true, if_true, if_false, ite_true, ite_false, reduceCtorEq, bne_self_eq_false, Option.some.injEq, Prod.mk.injEq, ↓reduceIte, Nat.reduceEqDiff, Nat.reduceAdd, Nat.reduceMul, Nat.reduceSub, Nat.reduceLeDiff, Nat.reduceLT, Int.reduceLT, Int.reduceLE, Int.reduceEq, Int.reduceAdd, Int.reduceSub, Int.reduceNeg, Int.reduceToNat, List.mapM_cons, List.mapM_nil, Option.pure_def, Option.bind_eq_bind, eq_self, decide_true, decide_false, I.r9], by simp (disch := first | omega | (simp only [rkl]; omega)) only [rk1, rk2, rk3, rk4, rk5, Arg.get, ret1, AV.cells, AV.isCell, addOff, minmaxL, Cap.room, Cap.cut, cutI, isSt, resultOf, Function.comp_apply, Function.comp_def, beq_self_eq_true, if_true, if_false, ite_true, ite_false, reduceCtorEq, bne_self_eq_false, Option.some.injEq, Prod.mk.injEq, ↓reduceIte, Nat.reduceEqDiff, Nat.reduceAdd, Nat.reduceMul, Nat.reduceSub, Nat.reduceLeDiff, Nat.reduceLT, Int.reduceLT, Int.reduceLE, Int.reduceEq, Int.reduceAdd, Int.reduceSub, Int.reduceNeg, Int.reduceToNat, List.mapM_cons, List.mapM_nil, Option.pure_def, Option.bind_eq_bind, eq_self, decide_true, decide_false, I.r11], by simp (disch := first | omega | (simp only [rkl]; omega)) only [rk1, rk2, rk3, rk4, rk5, Arg.get, ret1, AV.cells, AV.isCell, addOff, minmaxL, Cap.room, Cap.cut, cutI, isSt, resultOf, Function.comp_apply, Function.comp_def, beq_self_eq_true, if_true, if_false, ite_true, ite_false, reduceCtorEq, bne_self_eq_false, Option.some.injEq, Prod.mk.injEq, ↓reduceIte, Nat.reduceEqDiff, Nat.reduceAdd, Nat.reduceMul, Nat.reduceSub, Nat.reduceLeDiff, Nat.reduceLT, Int.reduceLT, Int.reduceLE, Int.reduceEq, Int.reduceAdd, Int.reduceSub, Int.reduceNeg, Int.reduceToNat, List.mapM_cons, List.mapM_nil, Option.pure_def, Option.bind_eq_bind, eq_self, decide_true, decide_false, Int.natCast_add, Int.cast_ofNat_Int], by have := I.few; omega⟩
  | none =>
    obtain ⟨s2, X, H', f', cl', cc', e2, A2, hrows, fr2, hw2⟩ := A1.put (sz := t) (us := x.us) (c := x.c) (by omega) hp (by have := I.few; omega)
    have hn2 := fr2.next
    have kF : ¬ Fp S1 M1 L cc ⟨σ.next, 0, 0⟩ := fun h => by have := lA _ h; simp at this
    have hg2 : s2.get ⟨σ.next, 0, 0⟩ = some (scc ⟨x.kind, x.v, x.u, t, x.us, x.c⟩) := (fr2.get (by rw [n1]; show σ.next < _; omega) kF).trans hg
    have B2 := B1.frm fr2 (fun q h1 h2 => I.dj q h2 h1)
    have O2 : LstC (s2.new (scc ⟨x.kind, x.v, x.u, t, x.us, x.c⟩)) 6 a ms.length (scs ms) := O1.keep fun G hG => by
      rw [new_get (by have := (I.la G hG).1; omega)]; exact fr2.get (by have := (I.la G hG).1; omega) (I.la G hG).2.1
    obtain ⟨s4, e4, O4, n4, v4, h4⟩ := app_lst O2 (bytes := 40) (row := scc ⟨x.kind, x.v, x.u, t, x.us, x.c⟩) (by omega) (by have := I.few; omega) rfl rfl
    have n3 : (s2.new (scc ⟨x.kind, x.v, x.u, t, x.us, x.c⟩)).next = s2.next + 1 := rfl
    rw [n3] at e4 O4
    have hz2 : newCells s2 (scc ⟨x.kind, x.v, x.u, t, x.us, x.c⟩) = some (⟨s2.next, 0, 0⟩, s2.new (scc ⟨x.kind, x.v, x.u, t, x.us, x.c⟩)) := newCells_ok rfl
    have hel : elems (s2.new (scc ⟨x.kind, x.v, x.u, t, x.us, x.c⟩)) 6 1 (.sl ⟨s2.next, 0, 0⟩ 0 1 (.ex 1) 6) = some (scc ⟨x.kind, x.v, x.u, t, x.us, x.c⟩) := by
      have : (s2.new (scc ⟨x.kind, x.v, x.u, t, x.us, x.c⟩)).get ⟨s2.next, 0, 0⟩ = some (scc ⟨x.kind, x.v, x.u, t, x.us, x.c⟩) := by rw [get_new, if_pos rfl]
      simp only [elems, this]; rfl
    have hfl := sc_fill ⟨x.kind, x.v, x.u, t, x.us, x.c⟩
    have heap4 : ∀ z, z.o < s2.next → refId a ≠ some z → s4.heap z = s2.heap z := fun z hz hne => by
      rw [h4 z (by rw [n3]; omega) hne]
      exact (Frm.new s2 _ (fun _ => False)).heap z hz (fun h => h)
    have fr4 : Frm s2 s4 (fun z => refId a = some z) := ⟨by rw [n4, n3]; omega, v4, fun z hz hne => heap4 z hz hne⟩
    have A4 := A2.frm fr4 (fun z hz e => by
      have h1 := I.la z e
      rcases hw2 z hz with h | h
      · exact h1.2.1 h
      · omega)
    have B4 := B2.frm fr4 (fun z hz e => (I.la z e).2.2 hz)
    have lA2 := A2.R.lF
    have key : ∀ {ρ' : Env}, ρ' 1 = ρ 1 → ρ' 2 = ρ 2 → ρ' 7 = ρ 7 → ρ' 9 = ρ 9 → ρ' 11 = .sl ⟨s2.next + 1, 0, 0⟩ 0 (ms.length + 1) (.ge (ms.length + 1)) 6 → ρ' 12 = .int .i64 (i + 1 : Nat) → Next8 S1 M1 S2 M2 bud turn (i + 1) l f2 (some (.normal, ρ', s4)) := by
      intro ρ' h1 h2 h7 h9 h11 h12
      refine next8_mk (ms := ms ++ [⟨x.kind, x.v, x.u, t, x.us, x.c⟩]) ⟨A4, B4, fun q hq hB => ?_, by rw [hrows, I.rows]; simp [rwOf], fun y hy => ?_, by rw [scs_app, List.length_append]; simpa [scs] using O4, fun G hG => ?_, h1.trans I.r1, h2.trans I.r2, h7.trans I.r7, h9.trans I.r9, h11, h12, by have := I.few; simp; omega⟩
      · rcases hw2 q hq with h | h
        · exact I.dj q h hB
        · have := lB q hB; omega
      · rcases List.mem_append.1 hy with hy | hy
        · exact I.szs y hy
        · simp at hy; subst hy; simp only; omega
      · simp only [refId, Option.some.injEq] at hG; subst hG
        refine ⟨by rw [n4, n3]; show s2.next + 1 < _; omega, fun h => ?_, fun h => ?_⟩
        · have := lA2 _ h; simp at this; omega
        · have := lB _ h; simp at this; omega
    have hla := I.r11
    generalize scc ⟨x.kind, x.v, x.u, t, x.us, x.c⟩ = cells at *
    simp (disch := first | omega | (simp only [rkl]; omega)) only [rk1, rk2, rk3, rk4, rk5, Arg.get, ret1, AV.cells, AV.isCell, addOff, minmaxL, Cap.room, Cap.cut, cutI, isSt, resultOf, Function.comp_apply, Function.comp_def, beq_self_eq_true, if_true, if_false, ite_true, ite_false, reduceCtorEq, bne_self_eq_false, Option.some.injEq, Prod.mk.injEq, ↓reduceIte, Nat.reduceEqDiff, Nat.reduceAdd, Nat.reduceMul, Nat.reduceSub, Nat.reduceLeDiff, Nat.reduceLT, Int.reduceLT, Int.reduceLE, Int.reduceEq, Int.reduceAdd, Int.reduceSub, Int.reduceNeg, Int.reduceToNat, List.mapM_cons, List.mapM_nil, Option.pure_def, Option.bind_eq_bind, eq_self, decide_true, decide_false, l8_15, p8_9, p8_10, p8_11, p8_12, p8_13, p8_14, I.r2, I.r7, I.r11, I.r12, him, him2, hep, hpt, hz, hst, hg0, hp3, hw, hst2, hg, c1, c3, c4, c5, e2, hg2, c6, hfl, hz2, hel, e4]
    exact key (by simp (disch := first | omega | (simp only [rkl]; omega)) only [rk1, rk2, rk3, rk4, rk5, Arg.get, ret1, AV.cells, AV.isCell, addOff, minmaxL, Cap.room, Cap.cut, cutI, isSt, resultOf, Function.comp_apply, Function.comp_def, beq_self_eq_true, if_true, if_false, ite_true, ite_false, reduceCtorEq, bne_self_eq_false, Option.some.injEq, Prod.mk.injEq, ↓reduceIte, Nat.reduceEqDiff, Nat.reduceAdd, Nat.reduceMul, Nat.reduceSub, Nat.reduceLeDiff, Nat.reduceLT, Int.reduceLT, Int.reduceLE, Int.reduceEq, Int.reduceAdd, Int.reduceSub, Int.reduceNeg, Int.reduceToNat, List.mapM_cons, List.mapM_nil, Option.pure_def, Option.bind_eq_bind, eq_self, decide_true, decide_false]) (by simp (disch := first | omega | (simp only [rkl]; omega)) only [rk1, rk2, rk3, rk4, rk5, Arg.get, ret1, AV.cells, AV.isCell, addOff, minmaxL, Cap.room, Cap.cut, cutI, isSt, resultOf, Function.comp_apply, Function.comp_def, beq_self_eq_true, if_true, if_false, ite_true, ite_false, reduceCtorEq, bne_self_eq_false, Option.some.injEq, Prod.mk.injEq, ↓reduceIte, Nat.reduceEqDiff, Nat.reduceAdd, Nat.reduceMul, Nat.reduceSub, Nat.reduceLeDiff, Nat.reduceLT, Int.reduceLT, Int.reduceLE, Int.reduceEq, Int.reduceAdd, Int.reduceSub, Int.reduceNeg, Int.reduceToNat, List.mapM_cons, List.mapM_nil, Option.pure_def, Option.bind_eq_bind, eq_self, decide_true, decide_false, I.r2]) (by simp (disch := first | omega | (simp only [rkl]; omega)) only [rk1, rk2, rk3, rk4, rk5, Arg.get, ret1, AV.cells, AV.isCell, addOff, minmaxL, Cap.room, Cap.cut, cutI, isSt, resultOf, Function.comp_apply, Function.comp_def, beq_self_eq_true, if_true, if_false, ite_true, ite_false, reduceCtorEq, bne_self_eq_false, Option.some.injEq, Prod.mk.injEq, ↓reduceIte, Nat.reduceEqDiff, Nat.reduceAdd, Nat.reduceMul, Nat.reduceSub, Nat.reduceLeDiff, Nat.reduceLT, Int.reduceLT, Int.reduceLE, Int.reduceEq, Int.reduceAdd, Int.reduceSub, Int.reduceNeg, Int.reduceToNat, List.mapM_cons, List.mapM_nil, Option.pure_def, Option.bind_eq_bind, eq_self, decide_true, decide_false, I.r7]) (by simp (disch := first | omega | (simp only [rkl]; omega)) only [rk1, rk2, rk3, rk4, rk5, Arg.get, ret1, AV.cells, AV.isCell, addOff, minmaxL, Cap.room, Cap.cut, cutI, isSt, resultOf, Function.comp_apply, Function.comp_def, beq_self_eq_true, if_true, if_false, ite_true, ite_false, reduceCtorEq, bne_self_eq_false, Option.some.injEq, Prod.mk.injEq, ↓reduceIte, Nat.reduceEqDiff, Nat.reduceAdd, Nat.reduceMul, Nat.reduceSub, Nat.reduceLeDiff, Nat.reduceLT, Int.reduceLT, Int.reduceLE, Int.reduceEq, Int.reduceAdd, Int.reduceSub, Int.reduceNeg, Int.reduceToNat, List.mapM_cons, List.mapM_nil, Option.pure_def, Option.bind_eq_bind, eq_self, decide_true, decide_false]) (by simp (disch := first | omega | (simp only [rkl]; omega)) only [rk1, rk2, rk3, rk4, rk5, Arg.get, ret1, AV.cells, AV.isCell, addOff, minmaxL, Cap.room, Cap.cut, cutI, isSt, resultOf, Function.comp_apply, Function.comp_def, beq_self_eq_true, if_true, if_false, ite_true, ite_false, reduceCtorEq, bne_self_eq_false, Option.some.injEq, Prod.mk.injEq, ↓reduceIte, Nat.reduceEqDiff, Nat.reduceAdd, Nat.reduceMul, Nat.reduceSub, Nat.reduceLeDiff, Nat.reduceLT, Int.reduceLT, Int.reduceLE, Int.reduceEq, Int.reduceAdd, Int.reduceSub, Int.reduceNeg, Int.reduceToNat, List.mapM_cons, List.mapM_nil, Option.pure_def, Option.bind_eq_bind, eq_self, decide_true, decide_false]) (by simp (disch := first | omega | (simp only [rkl]; omega)) only [rk1, rk2, rk3, rk4, rk5, Arg.get, ret1, AV.cells, AV.isCell, addOff, minmaxL, Cap.room, Cap.cut, cutI, isSt, resultOf, Function.comp_apply, Function.comp_def, beq_self_eq_true, if_true, if_false, ite_true, ite_false, reduceCtorEq, bne_self_eq_false, Option.some.injEq, Prod.mk.injEq, ↓reduceIte, Nat.reduceEqDiff, Nat.reduceAdd, Nat.reduceMul, Nat.reduceSub, Nat.reduceLeDiff, Nat.reduceLT, Int.reduceLT, Int.reduceLE, Int.reduceEq, Int.reduceAdd, Int.reduceSub, Int.reduceNeg, Int.reduceToNat, List.mapM_cons, List.mapM_nil, Option.pure_def, Option.bind_eq_bind, eq_self, decide_true, decide_false, Int.natCast_add, Int.cast_ofNat_Int])
end Go.Proofs.Ytkhalpmmdlppkaa
