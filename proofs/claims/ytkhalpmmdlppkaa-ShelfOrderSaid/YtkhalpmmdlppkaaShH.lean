/-
  THE SHELF: find, Put, Size, Len, New.
-/
import Derived.Test.YtkhalpmmdlppkaaShG
namespace Go.Proofs.Ytkhalpmmdlppkaa
set_option linter.unusedSimpArgs false
set_option linter.unusedVariables false
open Go.Vm

def lookV (kt : EqT) (zero : AV) (σ : St) (m k : AV) : Option (AV × St) := (mapOf σ m).bind fun p => (findIn kt k p.1).bind fun r => match r with | some j => (p.2[j]?).map fun v => (v, σ) | none => some (zero, σ)
theorem ev_lookup (E : CallH) (ρ : Env) (σ : St) (kt : EqT) (zero : AV) (m k : Arg) : Ins.ev E ρ σ (.lookup kt zero false m k) = lookV kt zero σ (m.get ρ) (k.get ρ) := by
  simp only [Ins.ev, lookV]
  rfl
def updV (kt : EqT) (σ : St) (m k v : AV) : Option (AV × St) := match m with
    | .map i => match σ.heap i with
      | some (.map ks vs) => (findIn kt k ks).bind fun r =>
        match r with
        | some j => if sameKey (ks.getD j .nilp) k = true then some (.tup [], σ.set i (some (.map ks (vs.set j v)))) else none
        | none => some (.tup [], σ.set i (some (.map (ks ++ [k]) (vs ++ [v]))))
      | _ => none
    | _ => none
theorem ev_mapUpd (E : CallH) (ρ : Env) (σ : St) (kt : EqT) (m k v : Arg) : Ins.ev E ρ σ (.mapUpd kt m k v) = updV kt σ (m.get ρ) (k.get ρ) (v.get ρ) := rfl
def delV (kt : EqT) (σ : St) (m k : AV) : Option (AV × St) := match m with
    | .map i => match σ.heap i with
      | some (.map ks vs) => (findIn kt k ks).bind fun r =>
        match r with
        | some j => some (.tup [], σ.set i (some (.map (ks.eraseIdx j) (vs.eraseIdx j))))
        | none => some (.tup [], σ)
      | _ => none
    | _ => none
theorem ev_delete (E : CallH) (ρ : Env) (σ : St) (kt : EqT) (m k : Arg) : Ins.ev E ρ σ (.delete kt m k) = delV kt σ (m.get ρ) (k.get ρ) := rfl

/-- What is found. -/
def lookP (f : Vm.Id → Ky) (L : List Vm.Id) (v u : Int) : AV := match posOf (kf f) L v u with | some j => .ptr (at_ L j) 0 | none => .nilp

theorem look_map {σ : St} {M : Vm.Id} {f : Vm.Id → Ky} {L : List Vm.Id} (hm : σ.heap M = some (.map (keysOf f L) (ptrs L))) (v u : Int) :
    lookV KT .nilp σ (.map M) (.agg [.int .u32 v, .int .u32 u]) = some (lookP f L v u, σ) := by
  have hf := findIn_kx (kf f) L v u
  simp only [lookV, mapOf, hm, Option.bind_some]
  rw [show AV.agg [.int .u32 v, .int .u32 u] = kx v u from rfl]
  simp only [keysOf, hf, Option.bind_some, lookP]
  cases h : posOf (kf f) L v u with
  | none => rfl
  | some j =>
    obtain ⟨hj, _⟩ := posOf_some (kf f) h
    simp [ptrs, at_eq hj]

theorem upd_map {σ : St} {M : Vm.Id} {f : Vm.Id → Ky} {L : List Vm.Id} (hm : σ.heap M = some (.map (keysOf f L) (ptrs L))) {v u : Int} (h : posOf (kf f) L v u = none) (p : AV) :
    updV KT σ (.map M) (.agg [.int .u32 v, .int .u32 u]) p = some (.tup [], σ.set M (some (.map (keysOf f L ++ [kx v u]) (ptrs L ++ [p])))) := by
  have hf := findIn_kx (kf f) L v u
  simp only [updV, hm]
  rw [show AV.agg [.int .u32 v, .int .u32 u] = kx v u from rfl]
  rw [show findIn KT (kx v u) (keysOf f L) = some (posOf (kf f) L v u) from hf, h]
  rfl

def upd (f : Vm.Id → Ky) (x : Vm.Id) (y : Ky) : Vm.Id → Ky := fun z => if z = x then y else f z
theorem upd_same (f : Vm.Id → Ky) (x : Vm.Id) (y : Ky) : upd f x y x = y := by simp [upd]
theorem upd_other {f : Vm.Id → Ky} {x z : Vm.Id} {y : Ky} (h : z ≠ x) : upd f x y z = f z := by simp [upd, h]

section
variable {σ : St} {S M : Vm.Id} {bud : Int} {L H : List Vm.Id} {f : Vm.Id → Ky} {cc : AV} (R : Rep σ S M bud L H f cc)
include R

theorem find_ev (v u : Int) : ev (tab hsS) 79 [.ptr S 0, .agg [.int .u32 v, .int .u32 u]] σ = some (lookP f L v u, σ.new [.int .u32 v, .int .u32 u]) := by
  have hs : (σ.new [.int .u32 v, .int .u32 u]).get S = some [.int .i64 bud, .int .i64 (sumL f L), .map M, cc] := (new_get R.lS).trans R.hs
  have hm : (σ.new [.int .u32 v, .int .u32 u]).heap M = some (.map (keysOf f L) (ptrs L)) := ((Frm.new σ _ (fun _ => False)).heap M R.lM (fun h => h)).trans R.hm
  have hl := look_map hm v u
  have hz : newCells σ [.int .u32 v, .int .u32 u] = some (⟨σ.next, 0, 0⟩, σ.new [.int .u32 v, .int .u32 u]) := newCells_ok rfl
  rw [ev_raw (tab79 hsS)]
  simp (disch := first | omega | (simp only [rkl]; omega)) only [rk1, rk2, rk3, rk4, rk5, Arg.get, ret1, AV.cells, AV.isCell, addOff, minmaxL, Cap.room, Cap.cut, cutI, isSt, resultOf, Function.comp_apply, Function.comp_def, beq_self_eq_true, if_true, if_false, ite_true, ite_false, reduceCtorEq, bne_self_eq_false, Option.some.injEq, Prod.mk.injEq, ↓reduceIte, Nat.reduceEqDiff, Nat.reduceAdd, Nat.reduceMul, Nat.reduceSub, Nat.reduceLeDiff, Nat.reduceLT, Int.reduceLT, Int.reduceLE, Int.reduceEq, Int.reduceAdd, Int.reduceSub, Int.reduceNeg, Int.reduceToNat, List.mapM_cons, List.mapM_nil, Option.pure_def, Option.bind_eq_bind, eq_self, decide_true, decide_false, code79, p79_1, p79_2, hz]
  rw [drawn (seq_d79_4 _)]
  simp (disch := first | omega | (simp only [rkl]; omega)) only [rk1, rk2, rk3, rk4, rk5, Arg.get, ret1, AV.cells, AV.isCell, addOff, minmaxL, Cap.room, Cap.cut, cutI, isSt, resultOf, Function.comp_apply, Function.comp_def, beq_self_eq_true, if_true, if_false, ite_true, ite_false, reduceCtorEq, bne_self_eq_false, Option.some.injEq, Prod.mk.injEq, ↓reduceIte, Nat.reduceEqDiff, Nat.reduceAdd, Nat.reduceMul, Nat.reduceSub, Nat.reduceLeDiff, Nat.reduceLT, Int.reduceLT, Int.reduceLE, Int.reduceEq, Int.reduceAdd, Int.reduceSub, Int.reduceNeg, Int.reduceToNat, List.mapM_cons, List.mapM_nil, Option.pure_def, Option.bind_eq_bind, eq_self, decide_true, decide_false, d79_4, hs, ev_lookup, hl]

theorem size_shelf : ev (tab hsS) 45 [.ptr S 0] σ = some (.int .i64 (sumL f L), σ) := by
  have hs := R.hs
  rw [ev_raw (tab45 hsS)]
  simp (disch := first | omega | (simp only [rkl]; omega)) only [rk1, rk2, rk3, rk4, rk5, Arg.get, ret1, AV.cells, AV.isCell, addOff, minmaxL, Cap.room, Cap.cut, cutI, isSt, resultOf, Function.comp_apply, Function.comp_def, beq_self_eq_true, if_true, if_false, ite_true, ite_false, reduceCtorEq, bne_self_eq_false, Option.some.injEq, Prod.mk.injEq, ↓reduceIte, Nat.reduceEqDiff, Nat.reduceAdd, Nat.reduceMul, Nat.reduceSub, Nat.reduceLeDiff, Nat.reduceLT, Int.reduceLT, Int.reduceLE, Int.reduceEq, Int.reduceAdd, Int.reduceSub, Int.reduceNeg, Int.reduceToNat, List.mapM_cons, List.mapM_nil, Option.pure_def, Option.bind_eq_bind, eq_self, decide_true, decide_false, code45, p45_1, p45_2, p45_4, hs]
theorem len_shelf : ev (tab hsS) 46 [.ptr S 0] σ = some (.int .i64 L.length, σ) := by
  have hs := R.hs
  have hl : lenIn σ .map (.map M) = some L.length := by simp [lenIn, R.hm, keysOf]
  rw [ev_raw (tab46 hsS)]
  simp (disch := first | omega | (simp only [rkl]; omega)) only [rk1, rk2, rk3, rk4, rk5, Arg.get, ret1, AV.cells, AV.isCell, addOff, minmaxL, Cap.room, Cap.cut, cutI, isSt, resultOf, Function.comp_apply, Function.comp_def, beq_self_eq_true, if_true, if_false, ite_true, ite_false, reduceCtorEq, bne_self_eq_false, Option.some.injEq, Prod.mk.injEq, ↓reduceIte, Nat.reduceEqDiff, Nat.reduceAdd, Nat.reduceMul, Nat.reduceSub, Nat.reduceLeDiff, Nat.reduceLT, Int.reduceLT, Int.reduceLE, Int.reduceEq, Int.reduceAdd, Int.reduceSub, Int.reduceNeg, Int.reduceToNat, List.mapM_cons, List.mapM_nil, Option.pure_def, Option.bind_eq_bind, eq_self, decide_true, decide_false, code46, p46_1, p46_2, p46_4, hs, hl]

/-- One more, not clean. -/
theorem Rep.add {v u sz us : Int} (h : posOf (kf f) L v u = none) (hsz : 0 ≤ sz ∧ sz ≤ 1048576) (hL : L.length < 65536) {X : Vm.Id} (hX : X = ⟨σ.next + 1, 0, 0⟩) {s4 : St}
    (h4 : s4 = ((((σ.new [.int .u32 v, .int .u32 u]).new (thc ⟨v, u, sz, us⟩ (-1))).set M (some (.map (keysOf f L ++ [kx v u]) (ptrs L ++ [.ptr X 0])))).set S (some (.cells [.int .i64 bud, .int .i64 (sumL f L + sz), .map M, cc])))) :
    Rep s4 S M bud (L ++ [X]) H (upd f X ⟨v, u, sz, us⟩) cc ∧ Frm σ s4 (Fp S M L cc) ∧ X ∉ L := by
  have XL : X ∉ L := fun e => by have := R.lL X e; rw [hX] at this; simp at this; omega
  have XS : S ≠ X := fun e => by have := R.lS; rw [e, hX] at this; simp at this; omega
  have XM : M ≠ X := fun e => by have := R.lM; rw [e, hX] at this; simp at this; omega
  have XK : X ≠ ⟨σ.next, 0, 0⟩ := by rw [hX]; simp
  have XB : refId cc ≠ some X := fun e => by have := R.hc.lb X e; rw [hX] at this; simp at this; omega
  have heap_old : ∀ q, q.o < σ.next → q ≠ S → q ≠ M → s4.heap q = σ.heap q := fun q hq h1 h2 => by
    have e1 : ¬ (q = ⟨σ.next, 0, 0⟩) := fun e => by subst e; simp at hq
    have e2 : ¬ (q = ⟨σ.next + 1, 0, 0⟩) := fun e => by subst e; simp at hq; omega
    rw [h4]; simp [St.set, St.new, h1, h2, e1, e2]
  have hfeq : ∀ y ∈ L, upd f X ⟨v, u, sz, us⟩ y = f y := fun y hy => upd_other (fun e => XL (e ▸ hy))
  have hsum : sumL (upd f X ⟨v, u, sz, us⟩) (L ++ [X]) = sumL f L + sz := by
    simp only [sumL, List.map_append, List.sum_append, List.map_cons, List.map_nil, List.sum_cons, List.sum_nil, upd_same]
    rw [List.map_congr_left fun y hy => by rw [hfeq y hy]]; omega
  have hkeys : keysOf (upd f X ⟨v, u, sz, us⟩) (L ++ [X]) = keysOf f L ++ [kx v u] := by
    simp only [keysOf, List.map_append, List.map_cons, List.map_nil, kf, upd_same]
    rw [List.map_congr_left fun y hy => by rw [hfeq y hy]]
  have gX : s4.get X = some (thc ⟨v, u, sz, us⟩ (-1)) := by
    rw [h4, get_set, if_neg XS.symm]
    have : ((((σ.new [.int .u32 v, .int .u32 u]).new (thc ⟨v, u, sz, us⟩ (-1))).set M (some (.map (keysOf f L ++ [kx v u]) (ptrs L ++ [.ptr X 0]))))).get X = ((σ.new [.int .u32 v, .int .u32 u]).new (thc ⟨v, u, sz, us⟩ (-1))).get X := by
      simp [St.get, St.set, XM.symm]
    rw [this, get_new, hX]; exact if_pos rfl
  have hn4 : s4.next = σ.next + 2 := by rw [h4]; rfl
  have h3 : Hc (((σ.new [.int .u32 v, .int .u32 u]).new (thc ⟨v, u, sz, us⟩ (-1))).set M (some (.map (keysOf f L ++ [kx v u]) (ptrs L ++ [.ptr X 0])))) S (.int .i64 bud) (.int .i64 (sumL f L)) (.map M) f H cc := by
    refine R.hc.frm (fun q hq => ?_) (by show σ.next ≤ σ.next + 1 + 1; omega)
    have hqo : q.o < σ.next := by
      rcases hq with hq | hq | hq
      · exact hq ▸ R.lS
      · exact R.lL q (R.sub q hq)
      · exact R.hc.lb q hq
    have hqM : q ≠ M := by
      rintro rfl
      rcases hq with hq | hq | hq
      · exact R.mS hq
      · exact R.mL (R.sub _ hq)
      · exact R.mB hq
    have e1 : ¬ (q = ⟨σ.next, 0, 0⟩) := fun e => by subst e; simp at hqo
    have e2 : ¬ (q = ⟨σ.next + 1, 0, 0⟩) := fun e => by subst e; simp at hqo; omega
    simp [St.set, St.new, hqM, e1, e2]
  refine ⟨⟨?_, ?_, fun x hx => List.mem_append_left _ (R.sub x hx), fun x hx hxH => ?_, ?_, fun x hx y hy hv hu => ?_, by rw [hn4]; have := R.lS; omega, by rw [hn4]; have := R.lM; omega, fun x hx => ?_, R.mS, fun e => ?_, fun e => ?_, R.mB, fun x hx => ?_, by simp; omega, fun x hx => ?_⟩, ⟨by rw [hn4]; omega, by rw [h4]; rfl, fun q hq hF => heap_old q hq (fun e => hF (.inl e)) (fun e => hF (.inr (.inl e)))⟩, XL⟩
  · rw [hsum, h4]
    exact (h3.size (z' := .int .i64 (sumL f L + sz))).cong fun x hx => (hfeq x (R.sub x hx)).symm
  · rw [hkeys, h4]
    simp [St.set, R.mS, ptrs]
  · rcases List.mem_append.1 hx with hx | hx
    · have hxS : x ≠ S := fun e => R.sL (e ▸ hx)
      have hxM : x ≠ M := fun e => R.mL (e ▸ hx)
      rw [hfeq x hx]
      simp only [St.get, heap_old x (R.lL x hx) hxS hxM]
      exact R.off x hx hxH
    · simp at hx; subst hx
      rw [upd_same]; exact gX
  · rw [List.nodup_append]
    exact ⟨R.nd, by simp, fun y hy w hw e => by simp at hw; subst hw; subst e; exact XL hy⟩
  · have hno := posOf_none (kf f) h
    rcases List.mem_append.1 hx with hx1 | hx1 <;> rcases List.mem_append.1 hy with hy1 | hy1
    · rw [hfeq x hx1, hfeq y hy1] at hv hu; exact R.key x hx1 y hy1 hv hu
    · have e : y = X := by simpa using hy1
      rw [hfeq x hx1, e, upd_same] at hv hu
      exact absurd ⟨hv, hu⟩ (hno x hx1)
    · have e : x = X := by simpa using hx1
      rw [hfeq y hy1, e, upd_same] at hv hu
      exact absurd ⟨hv.symm, hu.symm⟩ (hno y hy1)
    · simp at hx1 hy1; rw [hx1, hy1]
  · rcases List.mem_append.1 hx with hx | hx
    · have := R.lL x hx; omega
    · simp at hx; subst hx; rw [hn4, hX]; show σ.next + 1 < _; omega
  · rcases List.mem_append.1 e with e | e
    · exact R.mL e
    · simp at e; exact XM e
  · rcases List.mem_append.1 e with e | e
    · exact R.sL e
    · simp at e; exact XS e
  · rcases List.mem_append.1 hx with hx | hx
    · exact R.bL x hx
    · simp at hx; subst hx; exact XB
  · rcases List.mem_append.1 hx with hx | hx
    · rw [hfeq x hx]; exact R.sz x hx
    · simp at hx; subst hx; rw [upd_same]; exact hsz

omit R in
/-- Put. -/
theorem put_bad {sz : Int} (h : sz < 0 ∨ 1048576 < sz) (v u us : Int) (c : Bool) : ∃ σ', ev (tab hsS) 42 [.ptr S 0, .agg [.int .u32 v, .int .u32 u], .int .i64 sz, .int .i64 us, .bool c] σ = some (.int .i64 1, σ') ∧ Frm σ σ' (fun _ => False) := by
  have hz : newCells σ [.int .u32 v, .int .u32 u] = some (⟨σ.next, 0, 0⟩, σ.new [.int .u32 v, .int .u32 u]) := newCells_ok rfl
  refine ⟨_, ?_, Frm.new σ [.int .u32 v, .int .u32 u] _⟩
  rw [ev_raw (tab42 hsS)]
  by_cases h1 : sz < 0
  · simp (disch := first | omega | (simp only [rkl]; omega)) only [rk1, rk2, rk3, rk4, rk5, Arg.get, ret1, AV.cells, AV.isCell, addOff, minmaxL, Cap.room, Cap.cut, cutI, isSt, resultOf, Function.comp_apply, Function.comp_def, beq_self_eq_true, if_true, if_false, ite_true, ite_false, reduceCtorEq, bne_self_eq_false, Option.some.injEq, Prod.mk.injEq, ↓reduceIte, Nat.reduceEqDiff, Nat.reduceAdd, Nat.reduceMul, Nat.reduceSub, Nat.reduceLeDiff, Nat.reduceLT, Int.reduceLT, Int.reduceLE, Int.reduceEq, Int.reduceAdd, Int.reduceSub, Int.reduceNeg, Int.reduceToNat, List.mapM_cons, List.mapM_nil, Option.pure_def, Option.bind_eq_bind, eq_self, decide_true, decide_false, code42, p42_1, p42_2, p42_4, p42_5, hz, h1]
  · have h2 : sz > 1048576 := by omega
    simp (disch := first | omega | (simp only [rkl]; omega)) only [rk1, rk2, rk3, rk4, rk5, Arg.get, ret1, AV.cells, AV.isCell, addOff, minmaxL, Cap.room, Cap.cut, cutI, isSt, resultOf, Function.comp_apply, Function.comp_def, beq_self_eq_true, if_true, if_false, ite_true, ite_false, reduceCtorEq, bne_self_eq_false, Option.some.injEq, Prod.mk.injEq, ↓reduceIte, Nat.reduceEqDiff, Nat.reduceAdd, Nat.reduceMul, Nat.reduceSub, Nat.reduceLeDiff, Nat.reduceLT, Int.reduceLT, Int.reduceLE, Int.reduceEq, Int.reduceAdd, Int.reduceSub, Int.reduceNeg, Int.reduceToNat, List.mapM_cons, List.mapM_nil, Option.pure_def, Option.bind_eq_bind, eq_self, decide_true, decide_false, code42, p42_1, p42_2, p42_4, p42_5, hz, h1, h2]

theorem put_twice {sz : Int} (h : 0 ≤ sz ∧ sz ≤ 1048576) {v u : Int} {j : Nat} (hp : posOf (kf f) L v u = some j) (us : Int) (c : Bool) : ∃ σ', ev (tab hsS) 42 [.ptr S 0, .agg [.int .u32 v, .int .u32 u], .int .i64 sz, .int .i64 us, .bool c] σ = some (.int .i64 6, σ') ∧ Frm σ σ' (fun _ => False) := by
  have hz : newCells σ [.int .u32 v, .int .u32 u] = some (⟨σ.next, 0, 0⟩, σ.new [.int .u32 v, .int .u32 u]) := newCells_ok rfl
  have hs : (σ.new [.int .u32 v, .int .u32 u]).get S = some [.int .i64 bud, .int .i64 (sumL f L), .map M, cc] := (new_get R.lS).trans R.hs
  have hm : (σ.new [.int .u32 v, .int .u32 u]).heap M = some (.map (keysOf f L) (ptrs L)) := ((Frm.new σ _ (fun _ => False)).heap M R.lM (fun h => h)).trans R.hm
  have hl := look_map hm v u
  have hlp : lookP f L v u = .ptr (at_ L j) 0 := by unfold lookP; rw [hp]
  rw [hlp] at hl
  have h1 : ¬ (sz < 0) := by omega
  have h2 : ¬ (sz > 1048576) := by omega
  refine ⟨_, ?_, Frm.new σ [.int .u32 v, .int .u32 u] _⟩
  rw [ev_raw (tab42 hsS)]
  simp (disch := first | omega | (simp only [rkl]; omega)) only [rk1, rk2, rk3, rk4, rk5, Arg.get, ret1, AV.cells, AV.isCell, addOff, minmaxL, Cap.room, Cap.cut, cutI, isSt, resultOf, Function.comp_apply, Function.comp_def, beq_self_eq_true, if_true, if_false, ite_true, ite_false, reduceCtorEq, bne_self_eq_false, Option.some.injEq, Prod.mk.injEq, ↓reduceIte, Nat.reduceEqDiff, Nat.reduceAdd, Nat.reduceMul, Nat.reduceSub, Nat.reduceLeDiff, Nat.reduceLT, Int.reduceLT, Int.reduceLE, Int.reduceEq, Int.reduceAdd, Int.reduceSub, Int.reduceNeg, Int.reduceToNat, List.mapM_cons, List.mapM_nil, Option.pure_def, Option.bind_eq_bind, eq_self, decide_true, decide_false, code42, p42_1, p42_2, p42_4, hz, h1, h2]
  rw [drawn (seq_d42_6 _)]
  simp (disch := first | omega | (simp only [rkl]; omega)) only [rk1, rk2, rk3, rk4, rk5, Arg.get, ret1, AV.cells, AV.isCell, addOff, minmaxL, Cap.room, Cap.cut, cutI, isSt, resultOf, Function.comp_apply, Function.comp_def, beq_self_eq_true, if_true, if_false, ite_true, ite_false, reduceCtorEq, bne_self_eq_false, Option.some.injEq, Prod.mk.injEq, ↓reduceIte, Nat.reduceEqDiff, Nat.reduceAdd, Nat.reduceMul, Nat.reduceSub, Nat.reduceLeDiff, Nat.reduceLT, Int.reduceLT, Int.reduceLE, Int.reduceEq, Int.reduceAdd, Int.reduceSub, Int.reduceNeg, Int.reduceToNat, List.mapM_cons, List.mapM_nil, Option.pure_def, Option.bind_eq_bind, eq_self, decide_true, decide_false, d42_6, hs, ev_lookup, hl, p42_7]

theorem put_ok {sz : Int} (h : 0 ≤ sz ∧ sz ≤ 1048576) {v u : Int} (hp : posOf (kf f) L v u = none) (us : Int) (c : Bool) (hL : L.length < 65536) :
    ∃ σ' X cc', ev (tab hsS) 42 [.ptr S 0, .agg [.int .u32 v, .int .u32 u], .int .i64 sz, .int .i64 us, .bool c] σ = some (.int .i64 0, σ') ∧
      Rep σ' S M bud (L ++ [X]) (if c then upL ltK (upd f X ⟨v, u, sz, us⟩) (H ++ [X]) H.length else H) (upd f X ⟨v, u, sz, us⟩) cc' ∧ Frm σ σ' (Fp S M L cc) ∧ X ∉ L ∧ σ.next ≤ X.o ∧
      (∀ q, Fp S M (L ++ [X]) cc' q → Fp S M L cc q ∨ σ.next ≤ q.o) := by
  have hz : newCells σ [.int .u32 v, .int .u32 u] = some (⟨σ.next, 0, 0⟩, σ.new [.int .u32 v, .int .u32 u]) := newCells_ok rfl
  have hs : (σ.new [.int .u32 v, .int .u32 u]).get S = some [.int .i64 bud, .int .i64 (sumL f L), .map M, cc] := (new_get R.lS).trans R.hs
  have hm : (σ.new [.int .u32 v, .int .u32 u]).heap M = some (.map (keysOf f L) (ptrs L)) := ((Frm.new σ _ (fun _ => False)).heap M R.lM (fun h => h)).trans R.hm
  have hk : (σ.new [.int .u32 v, .int .u32 u]).get ⟨σ.next, 0, 0⟩ = some [.int .u32 v, .int .u32 u] := by rw [get_new, if_pos rfl]
  have hl := look_map hm v u
  have hlp : lookP f L v u = .nilp := by unfold lookP; rw [hp]
  rw [hlp] at hl
  have h1 : ¬ (sz < 0) := by omega
  have h2 : ¬ (sz > 1048576) := by omega
  have hll : lenIn (σ.new [.int .u32 v, .int .u32 u]) .map (.map M) = some L.length := by simp [lenIn, hm, keysOf]
  have h3 : ¬ ((L.length : Int) ≥ 65536) := by omega
  have hfv : fillV [.int .u32 0, .int .u32 0, .int .i64 0, .int .i64 0, .int .i64 0] [(0, 2, [.int .u32 v, .int .u32 u]), (2, 1, [.int .i64 sz]), (3, 1, [.int .i64 us]), (4, 1, [.int .i64 (-1)])] = some (thc ⟨v, u, sz, us⟩ (-1)) := rfl
  have hz2 : newCells (σ.new [.int .u32 v, .int .u32 u]) (thc ⟨v, u, sz, us⟩ (-1)) = some (⟨σ.next + 1, 0, 0⟩, (σ.new [.int .u32 v, .int .u32 u]).new (thc ⟨v, u, sz, us⟩ (-1))) := newCells_ok rfl
  have hs2 : ((σ.new [.int .u32 v, .int .u32 u]).new (thc ⟨v, u, sz, us⟩ (-1))).get S = some [.int .i64 bud, .int .i64 (sumL f L), .map M, cc] := (new_get (by have := R.lS; show S.o < σ.next + 1; omega)).trans hs
  have hk2 : ((σ.new [.int .u32 v, .int .u32 u]).new (thc ⟨v, u, sz, us⟩ (-1))).get ⟨σ.next, 0, 0⟩ = some [.int .u32 v, .int .u32 u] := (new_get (by show σ.next < σ.next + 1; omega)).trans hk
  have hm2 : ((σ.new [.int .u32 v, .int .u32 u]).new (thc ⟨v, u, sz, us⟩ (-1))).heap M = some (.map (keysOf f L) (ptrs L)) := ((Frm.new (σ.new [.int .u32 v, .int .u32 u]) _ (fun _ => False)).heap M (by have := R.lM; show M.o < σ.next + 1; omega) (fun h => h)).trans hm
  have hu := upd_map hm2 hp (.ptr ⟨σ.next + 1, 0, 0⟩ 0)
  generalize hs3d : ((σ.new [.int .u32 v, .int .u32 u]).new (thc ⟨v, u, sz, us⟩ (-1))).set M (some (.map (keysOf f L ++ [kx v u]) (ptrs L ++ [.ptr ⟨σ.next + 1, 0, 0⟩ 0]))) = s3 at hu
  have hs3 : s3.get S = some [.int .i64 bud, .int .i64 (sumL f L), .map M, cc] := by
    rw [← hs3d]
    have : (((σ.new [.int .u32 v, .int .u32 u]).new (thc ⟨v, u, sz, us⟩ (-1))).set M (some (.map (keysOf f L ++ [kx v u]) (ptrs L ++ [.ptr ⟨σ.next + 1, 0, 0⟩ 0])))).get S = ((σ.new [.int .u32 v, .int .u32 u]).new (thc ⟨v, u, sz, us⟩ (-1))).get S := by simp [St.get, St.set, R.mS.symm]
    rw [this]; exact hs2
  have hsl := sum_le R.sz
  have hfew := R.few
  have t1 : storeAt s3 1 (.ptr S 1) (.int .i64 (sumL f L + sz)) = some (s3.set S (some (.cells [.int .i64 bud, .int .i64 (sumL f L + sz), .map M, cc]))) := by rw [store_one hs3 (by simp) (by simp) rfl]; rfl
  obtain ⟨R4, fr4, XL⟩ := R.add (us := us) hp h hL rfl (s4 := s3.set S (some (.cells [.int .i64 bud, .int .i64 (sumL f L + sz), .map M, cc]))) (by rw [← hs3d])
  generalize s3.set S (some (.cells [.int .i64 bud, .int .i64 (sumL f L + sz), .map M, cc])) = s4 at t1 R4 fr4
  have hs4 := R4.hs
  have common : ∀ q, Fp S M (L ++ [⟨σ.next + 1, 0, 0⟩]) cc q → Fp S M L cc q ∨ σ.next ≤ q.o := by
    rintro q (hq | hq | hq | hq)
    · exact .inl (.inl hq)
    · exact .inl (.inr (.inl hq))
    · rcases List.mem_append.1 hq with hq | hq
      · exact .inl (.inr (.inr (.inl hq)))
      · simp at hq; subst hq; exact .inr (by show σ.next ≤ σ.next + 1; omega)
    · exact .inl (.inr (.inr (.inr hq)))
  cases c with
  | false =>
    refine ⟨s4, ⟨σ.next + 1, 0, 0⟩, cc, ?_, by simpa using R4, fr4, XL, by show σ.next ≤ σ.next + 1; omega, common⟩
    rw [ev_raw (tab42 hsS)]
    simp (disch := first | omega | (simp only [rkl]; omega)) only [rk1, rk2, rk3, rk4, rk5, Arg.get, ret1, AV.cells, AV.isCell, addOff, minmaxL, Cap.room, Cap.cut, cutI, isSt, resultOf, Function.comp_apply, Function.comp_def, beq_self_eq_true, if_true, if_false, ite_true, ite_false, reduceCtorEq, bne_self_eq_false, Option.some.injEq, Prod.mk.injEq, ↓reduceIte, Nat.reduceEqDiff, Nat.reduceAdd, Nat.reduceMul, Nat.reduceSub, Nat.reduceLeDiff, Nat.reduceLT, Int.reduceLT, Int.reduceLE, Int.reduceEq, Int.reduceAdd, Int.reduceSub, Int.reduceNeg, Int.reduceToNat, List.mapM_cons, List.mapM_nil, Option.pure_def, Option.bind_eq_bind, eq_self, decide_true, decide_false, code42, p42_1, p42_2, p42_4, hz, h1, h2]
    rw [drawn (seq_d42_6 _)]
    simp (disch := first | omega | (simp only [rkl]; omega)) only [rk1, rk2, rk3, rk4, rk5, Arg.get, ret1, AV.cells, AV.isCell, addOff, minmaxL, Cap.room, Cap.cut, cutI, isSt, resultOf, Function.comp_apply, Function.comp_def, beq_self_eq_true, if_true, if_false, ite_true, ite_false, reduceCtorEq, bne_self_eq_false, Option.some.injEq, Prod.mk.injEq, ↓reduceIte, Nat.reduceEqDiff, Nat.reduceAdd, Nat.reduceMul, Nat.reduceSub, Nat.reduceLeDiff, Nat.reduceLT, Int.reduceLT, Int.reduceLE, Int.reduceEq, Int.reduceAdd, Int.reduceSub, Int.reduceNeg, Int.reduceToNat, List.mapM_cons, List.mapM_nil, Option.pure_def, Option.bind_eq_bind, eq_self, decide_true, decide_false, d42_6, hs, hk, ev_lookup, hl, p42_8, hll, h3, p42_10, hfv, hz2]
    rw [drawn (seq_d42_11 _)]
    simp (disch := first | omega | (simp only [rkl]; omega)) only [rk1, rk2, rk3, rk4, rk5, Arg.get, ret1, AV.cells, AV.isCell, addOff, minmaxL, Cap.room, Cap.cut, cutI, isSt, resultOf, Function.comp_apply, Function.comp_def, beq_self_eq_true, if_true, if_false, ite_true, ite_false, reduceCtorEq, bne_self_eq_false, Option.some.injEq, Prod.mk.injEq, ↓reduceIte, Nat.reduceEqDiff, Nat.reduceAdd, Nat.reduceMul, Nat.reduceSub, Nat.reduceLeDiff, Nat.reduceLT, Int.reduceLT, Int.reduceLE, Int.reduceEq, Int.reduceAdd, Int.reduceSub, Int.reduceNeg, Int.reduceToNat, List.mapM_cons, List.mapM_nil, Option.pure_def, Option.bind_eq_bind, eq_self, decide_true, decide_false, d42_11, hs2, hk2, ev_mapUpd, hu, p42_12, hs3, t1, p42_13, p42_15]
  | true =>
    have XH : (⟨σ.next + 1, 0, 0⟩ : Vm.Id) ∉ H := fun e => XL (R.sub _ e)
    obtain ⟨s5, cc', e5, R5, fr5, hw⟩ := R4.push (x := ⟨σ.next + 1, 0, 0⟩) (by simp) XH
    refine ⟨s5, ⟨σ.next + 1, 0, 0⟩, cc', ?_, by simpa using R5, fr4.trans fr5 fun q hq hF => ?_, XL, by show σ.next ≤ σ.next + 1; omega, fun q hq => ?_⟩
    · rw [ev_raw (tab42 hsS)]
      simp (disch := first | omega | (simp only [rkl]; omega)) only [rk1, rk2, rk3, rk4, rk5, Arg.get, ret1, AV.cells, AV.isCell, addOff, minmaxL, Cap.room, Cap.cut, cutI, isSt, resultOf, Function.comp_apply, Function.comp_def, beq_self_eq_true, if_true, if_false, ite_true, ite_false, reduceCtorEq, bne_self_eq_false, Option.some.injEq, Prod.mk.injEq, ↓reduceIte, Nat.reduceEqDiff, Nat.reduceAdd, Nat.reduceMul, Nat.reduceSub, Nat.reduceLeDiff, Nat.reduceLT, Int.reduceLT, Int.reduceLE, Int.reduceEq, Int.reduceAdd, Int.reduceSub, Int.reduceNeg, Int.reduceToNat, List.mapM_cons, List.mapM_nil, Option.pure_def, Option.bind_eq_bind, eq_self, decide_true, decide_false, code42, p42_1, p42_2, p42_4, hz, h1, h2]
      rw [drawn (seq_d42_6 _)]
      simp (disch := first | omega | (simp only [rkl]; omega)) only [rk1, rk2, rk3, rk4, rk5, Arg.get, ret1, AV.cells, AV.isCell, addOff, minmaxL, Cap.room, Cap.cut, cutI, isSt, resultOf, Function.comp_apply, Function.comp_def, beq_self_eq_true, if_true, if_false, ite_true, ite_false, reduceCtorEq, bne_self_eq_false, Option.some.injEq, Prod.mk.injEq, ↓reduceIte, Nat.reduceEqDiff, Nat.reduceAdd, Nat.reduceMul, Nat.reduceSub, Nat.reduceLeDiff, Nat.reduceLT, Int.reduceLT, Int.reduceLE, Int.reduceEq, Int.reduceAdd, Int.reduceSub, Int.reduceNeg, Int.reduceToNat, List.mapM_cons, List.mapM_nil, Option.pure_def, Option.bind_eq_bind, eq_self, decide_true, decide_false, d42_6, hs, hk, ev_lookup, hl, p42_8, hll, h3, p42_10, hfv, hz2]
      rw [drawn (seq_d42_11 _)]
      simp (disch := first | omega | (simp only [rkl]; omega)) only [rk1, rk2, rk3, rk4, rk5, Arg.get, ret1, AV.cells, AV.isCell, addOff, minmaxL, Cap.room, Cap.cut, cutI, isSt, resultOf, Function.comp_apply, Function.comp_def, beq_self_eq_true, if_true, if_false, ite_true, ite_false, reduceCtorEq, bne_self_eq_false, Option.some.injEq, Prod.mk.injEq, ↓reduceIte, Nat.reduceEqDiff, Nat.reduceAdd, Nat.reduceMul, Nat.reduceSub, Nat.reduceLeDiff, Nat.reduceLT, Int.reduceLT, Int.reduceLE, Int.reduceEq, Int.reduceAdd, Int.reduceSub, Int.reduceNeg, Int.reduceToNat, List.mapM_cons, List.mapM_nil, Option.pure_def, Option.bind_eq_bind, eq_self, decide_true, decide_false, d42_11, hs2, hk2, ev_mapUpd, hu, p42_12, hs3, t1, p42_13, p42_14, hs4, e5, p42_15]
    · rcases common q hF with h | h
      · exact h
      · omega
    · rcases hw q hq with h | h
      · exact common q h
      · have := fr4.next; exact .inr (by omega)
end
end Go.Proofs.Ytkhalpmmdlppkaa
