/-
  THE DISK: what a sector's bytes are; the law's helpers.
-/
import Derived.Test.YtkhalpmmdlppkaaTabD
import Derived.Test.YtkhalpmmdlppkaaVmW
namespace Go.Proofs.Ytkhalpmmdlppkaa
set_option linter.unusedSimpArgs false
set_option linter.unusedVariables false
open Go.Vm

/-- Bytes of a whole sector, these over and over. -/
def sec (b : List UInt8) : List UInt8 := (List.range 64).map fun i => b.getD (i % b.length) 0
@[simp] theorem sec_len (b : List UInt8) : (sec b).length = 64 := by simp [sec]

theorem splice_one {cs : List AV} {i : Nat} (v : AV) (h : i < cs.length) : splice cs i [v] = cs.set i v := by
  simp only [splice, List.length_singleton, List.set_eq_take_append_cons_drop, h, if_true, List.singleton_append]

def secAt (b : List UInt8) (i : Nat) : List UInt8 := (sec b).take i ++ List.replicate (64 - i) 0
theorem secAt_len (b : List UInt8) {i : Nat} (h : i ≤ 64) : (secAt b i).length = 64 := by simp [secAt]; omega
theorem secAt_get (b : List UInt8) (k j : Nat) : (secAt b k)[j]? = if j < k ∧ j < 64 then some (b.getD (j % b.length) 0) else if j < 64 then some 0 else none := by
  unfold secAt
  by_cases hj : j < min k 64
  · rw [List.getElem?_append_left (by simp; omega), List.getElem?_take, if_pos (by omega), if_pos (by omega)]
    have h64 : j < 64 := by omega
    simp [sec, h64]
  · rw [List.getElem?_append_right (by simp; omega), if_neg (by omega)]
    simp only [List.getElem?_replicate, List.length_take, sec_len]
    by_cases h : j < 64
    · rw [if_pos h, if_pos (by omega)]
    · rw [if_neg h, if_neg (by omega)]

theorem secAt_set (b : List UInt8) {i : Nat} (h : i < 64) : (secAt b i).set i (b.getD (i % b.length) 0) = secAt b (i + 1) := by
  apply List.ext_getElem?
  intro j
  rw [List.getElem?_set, secAt_len b (by omega), secAt_get, secAt_get]
  by_cases hj : i = j
  · subst hj
    rw [if_pos rfl, if_pos h, if_pos (by omega)]
  · rw [if_neg hj]
    by_cases h1 : j < i ∧ j < 64
    · rw [if_pos h1, if_pos (by omega)]
    · rw [if_neg h1, if_neg (show ¬ (j < i + 1 ∧ j < 64) by omega)]
theorem secAt_all (b : List UInt8) : secAt b 64 = sec b := by simp [secAt, List.take_of_length_le]
theorem bs_set (b : List UInt8) (i : Nat) (x : UInt8) : (bs b).set i (.int .u8 x.toNat) = bs (b.set i x) := by simp [bs, List.map_set]

section
variable {T : Table}

theorem sector_round (b : List UInt8) (f : Bool) (c : Option Nat) (id : Vm.Id) (cap : Cap) (hn : 0 < b.length) (hb : b.length < 2 ^ 62) (i : Nat) (hi : i < 64) (ρ : Env) (σ : St) (h4 : ρ 4 = .int .i64 i) (h3 : ρ 3 = .sl id 0 64 cap 1)
    (h0 : ρ 0 = .isl f (bs b) b.length c) (hg : σ.get id = some (bs (secAt b i))) : ∃ ρ', run T l18_7 ρ σ = some (.normal, ρ', σ.set id (some (.cells (bs (secAt b (i + 1)))))) ∧ ρ' 4 = .int .i64 (i + 1 : Nat) ∧ ρ' 3 = ρ 3 ∧ ρ' 0 = ρ 0 := by
  have hm : i % b.length < b.length := Nat.mod_lt _ hn
  have hgl : (secAt b i).length = 64 := secAt_len b (by omega)
  have hx : b[i % b.length]? = some (b.getD (i % b.length) 0) := by simp [List.getD_eq_getElem?_getD, hm]
  have hst := store_one (v := .int .u8 (b.getD (i % b.length) 0).toNat) (off := i) hg (by simp [hgl]; omega) (by simp) rfl
  simp (disch := first | omega | (simp only [rkl]; omega)) only [rk1, rk2, rk3, rk4, rk5, Arg.get, ret1, AV.cells, AV.isCell, addOff, minmaxL, Cap.room, Cap.cut, cutI, isSt, resultOf, Function.comp_apply, Function.comp_def, beq_self_eq_true, if_true, if_false, ite_true, ite_false, reduceCtorEq, bne_self_eq_false, Option.some.injEq, Prod.mk.injEq, ↓reduceIte, Nat.reduceEqDiff, Nat.reduceAdd, Nat.reduceMul, Nat.reduceSub, Nat.reduceLeDiff, Nat.reduceLT, Int.reduceLT, Int.reduceLE, Int.reduceEq, Int.reduceAdd, Int.reduceSub, Int.reduceNeg, Int.reduceToNat, List.mapM_cons, List.mapM_nil, Option.pure_def, Option.bind_eq_bind, eq_self, decide_true, decide_false, l18_7, p18_4, p18_5, p18_6, h4, h3, h0, hx, hst, bs_set, secAt_set, bs_len, bs_get]
  exact ⟨_, rfl, by simp (disch := first | omega | (simp only [rkl]; omega)) only [rk1, rk2, rk3, rk4, rk5, Arg.get, ret1, AV.cells, AV.isCell, addOff, minmaxL, Cap.room, Cap.cut, cutI, isSt, resultOf, Function.comp_apply, Function.comp_def, beq_self_eq_true, if_true, if_false, ite_true, ite_false, reduceCtorEq, bne_self_eq_false, Option.some.injEq, Prod.mk.injEq, ↓reduceIte, Nat.reduceEqDiff, Nat.reduceAdd, Nat.reduceMul, Nat.reduceSub, Nat.reduceLeDiff, Nat.reduceLT, Int.reduceLT, Int.reduceLE, Int.reduceEq, Int.reduceAdd, Int.reduceSub, Int.reduceNeg, Int.reduceToNat, List.mapM_cons, List.mapM_nil, Option.pure_def, Option.bind_eq_bind, eq_self, decide_true, decide_false, Int.natCast_add, Int.cast_ofNat_Int], by simp (disch := first | omega | (simp only [rkl]; omega)) only [rk1, rk2, rk3, rk4, rk5, Arg.get, ret1, AV.cells, AV.isCell, addOff, minmaxL, Cap.room, Cap.cut, cutI, isSt, resultOf, Function.comp_apply, Function.comp_def, beq_self_eq_true, if_true, if_false, ite_true, ite_false, reduceCtorEq, bne_self_eq_false, Option.some.injEq, Prod.mk.injEq, ↓reduceIte, Nat.reduceEqDiff, Nat.reduceAdd, Nat.reduceMul, Nat.reduceSub, Nat.reduceLeDiff, Nat.reduceLT, Int.reduceLT, Int.reduceLE, Int.reduceEq, Int.reduceAdd, Int.reduceSub, Int.reduceNeg, Int.reduceToNat, List.mapM_cons, List.mapM_nil, Option.pure_def, Option.bind_eq_bind, eq_self, decide_true, decide_false, h3], by simp (disch := first | omega | (simp only [rkl]; omega)) only [rk1, rk2, rk3, rk4, rk5, Arg.get, ret1, AV.cells, AV.isCell, addOff, minmaxL, Cap.room, Cap.cut, cutI, isSt, resultOf, Function.comp_apply, Function.comp_def, beq_self_eq_true, if_true, if_false, ite_true, ite_false, reduceCtorEq, bne_self_eq_false, Option.some.injEq, Prod.mk.injEq, ↓reduceIte, Nat.reduceEqDiff, Nat.reduceAdd, Nat.reduceMul, Nat.reduceSub, Nat.reduceLeDiff, Nat.reduceLT, Int.reduceLT, Int.reduceLE, Int.reduceEq, Int.reduceAdd, Int.reduceSub, Int.reduceNeg, Int.reduceToNat, List.mapM_cons, List.mapM_nil, Option.pure_def, Option.bind_eq_bind, eq_self, decide_true, decide_false, h0]⟩

theorem sector_loop (b : List UInt8) (f : Bool) (c : Option Nat) (id : Vm.Id) (cap : Cap) (hn : 0 < b.length) (hb : b.length < 2 ^ 62) : ∀ (m i : Nat), i + m = 64 → ∀ (ρ : Env) (σ : St), ρ 4 = .int .i64 i → ρ 3 = .sl id 0 64 cap 1 →
    ρ 0 = .isl f (bs b) b.length c → σ.get id = some (bs (secAt b i)) → ∃ ρ', run T (.loop l18_7) ρ σ = some (.exit 0, ρ', if m = 0 then σ else σ.set id (some (.cells (bs (sec b))))) ∧ ρ' 3 = ρ 3
  | 0, i, him, ρ, σ, h4, h3, h0, hg => by
    obtain rfl : i = 64 := by omega
    rw [run_loop]
    simp (disch := first | omega | (simp only [rkl]; omega)) only [rk1, rk2, rk3, rk4, rk5, Arg.get, ret1, AV.cells, AV.isCell, addOff, minmaxL, Cap.room, Cap.cut, cutI, isSt, resultOf, Function.comp_apply, Function.comp_def, beq_self_eq_true, if_true, if_false, ite_true, ite_false, reduceCtorEq, bne_self_eq_false, Option.some.injEq, Prod.mk.injEq, ↓reduceIte, Nat.reduceEqDiff, Nat.reduceAdd, Nat.reduceMul, Nat.reduceSub, Nat.reduceLeDiff, Nat.reduceLT, Int.reduceLT, Int.reduceLE, Int.reduceEq, Int.reduceAdd, Int.reduceSub, Int.reduceNeg, Int.reduceToNat, List.mapM_cons, List.mapM_nil, Option.pure_def, Option.bind_eq_bind, eq_self, decide_true, decide_false, l18_7, p18_4, h4, h3, h0]
    exact ⟨_, rfl, by simp (disch := first | omega | (simp only [rkl]; omega)) only [rk1, rk2, rk3, rk4, rk5, Arg.get, ret1, AV.cells, AV.isCell, addOff, minmaxL, Cap.room, Cap.cut, cutI, isSt, resultOf, Function.comp_apply, Function.comp_def, beq_self_eq_true, if_true, if_false, ite_true, ite_false, reduceCtorEq, bne_self_eq_false, Option.some.injEq, Prod.mk.injEq, ↓reduceIte, Nat.reduceEqDiff, Nat.reduceAdd, Nat.reduceMul, Nat.reduceSub, Nat.reduceLeDiff, Nat.reduceLT, Int.reduceLT, Int.reduceLE, Int.reduceEq, Int.reduceAdd, Int.reduceSub, Int.reduceNeg, Int.reduceToNat, List.mapM_cons, List.mapM_nil, Option.pure_def, Option.bind_eq_bind, eq_self, decide_true, decide_false, h3]⟩
  | m + 1, i, him, ρ, σ, h4, h3, h0, hg => by
    obtain ⟨ρ1, hr, g4, g3, g0⟩ := sector_round (T := T) b f c id cap hn hb i (by omega) ρ σ h4 h3 h0 hg
    rw [run_loop, hr]
    obtain ⟨ρ2, hr2, k3⟩ := sector_loop b f c id cap hn hb m (i + 1) (by omega) ρ1 _ g4 (g3.trans h3) (g0.trans h0) (get_set_same _ _ _)
    refine ⟨ρ2, ?_, k3.trans g3⟩
    simp (disch := first | omega | (simp only [rkl]; omega)) only [rk1, rk2, rk3, rk4, rk5, Arg.get, ret1, AV.cells, AV.isCell, addOff, minmaxL, Cap.room, Cap.cut, cutI, isSt, resultOf, Function.comp_apply, Function.comp_def, beq_self_eq_true, if_true, if_false, ite_true, ite_false, reduceCtorEq, bne_self_eq_false, Option.some.injEq, Prod.mk.injEq, ↓reduceIte, Nat.reduceEqDiff, Nat.reduceAdd, Nat.reduceMul, Nat.reduceSub, Nat.reduceLeDiff, Nat.reduceLT, Int.reduceLT, Int.reduceLE, Int.reduceEq, Int.reduceAdd, Int.reduceSub, Int.reduceNeg, Int.reduceToNat, List.mapM_cons, List.mapM_nil, Option.pure_def, Option.bind_eq_bind, eq_self, decide_true, decide_false]
    rw [hr2]
    split
    · have : i + 1 = 64 := by omega
      rw [this, secAt_all]
    · rw [st_set_set]

theorem sector_out {b : List UInt8} {f : Bool} {c : Option Nat} {id : Vm.Id} {cap : Cap} {ρ : Env} {σ : St} {r} (hr : run T (.loop l18_7) ρ σ = r) (hb : b.length < 2 ^ 62) (h4 : ρ 4 = .int .i64 0) (h3 : ρ 3 = .sl id 0 64 cap 1) (h0 : ρ 0 = .isl f (bs b) b.length c)
    (hg : σ.get id = some (bs (secAt b 0))) : ∃ ρ' σ', r = some (.exit 0, ρ', σ') ∧ ρ' 3 = .sl id 0 64 cap 1 ∧ σ'.get id = some (bs (sec b)) := by
  subst hr
  rcases Nat.eq_zero_or_pos b.length with hn | hn
  · rw [run_loop]
    simp (disch := first | omega | (simp only [rkl]; omega)) only [rk1, rk2, rk3, rk4, rk5, Arg.get, ret1, AV.cells, AV.isCell, addOff, minmaxL, Cap.room, Cap.cut, cutI, isSt, resultOf, Function.comp_apply, Function.comp_def, beq_self_eq_true, if_true, if_false, ite_true, ite_false, reduceCtorEq, bne_self_eq_false, Option.some.injEq, Prod.mk.injEq, ↓reduceIte, Nat.reduceEqDiff, Nat.reduceAdd, Nat.reduceMul, Nat.reduceSub, Nat.reduceLeDiff, Nat.reduceLT, Int.reduceLT, Int.reduceLE, Int.reduceEq, Int.reduceAdd, Int.reduceSub, Int.reduceNeg, Int.reduceToNat, List.mapM_cons, List.mapM_nil, Option.pure_def, Option.bind_eq_bind, eq_self, decide_true, decide_false, l18_7, p18_4, h4, h3, h0, hn]
    refine ⟨_, _, ⟨rfl, rfl⟩, by simp (disch := first | omega | (simp only [rkl]; omega)) only [rk1, rk2, rk3, rk4, rk5, Arg.get, ret1, AV.cells, AV.isCell, addOff, minmaxL, Cap.room, Cap.cut, cutI, isSt, resultOf, Function.comp_apply, Function.comp_def, beq_self_eq_true, if_true, if_false, ite_true, ite_false, reduceCtorEq, bne_self_eq_false, Option.some.injEq, Prod.mk.injEq, ↓reduceIte, Nat.reduceEqDiff, Nat.reduceAdd, Nat.reduceMul, Nat.reduceSub, Nat.reduceLeDiff, Nat.reduceLT, Int.reduceLT, Int.reduceLE, Int.reduceEq, Int.reduceAdd, Int.reduceSub, Int.reduceNeg, Int.reduceToNat, List.mapM_cons, List.mapM_nil, Option.pure_def, Option.bind_eq_bind, eq_self, decide_true, decide_false, h3], ?_⟩
    rw [hg]
    obtain rfl : b = [] := List.eq_nil_of_length_eq_zero hn
    rfl
  · obtain ⟨ρ', hr, k3⟩ := sector_loop (T := T) b f c id cap hn hb 64 0 rfl ρ σ h4 h3 h0 hg
    exact ⟨ρ', _, hr, k3.trans h3, get_set_same _ _ _⟩

theorem sector_pure {h : Hint} (b : List UInt8) (f : Bool) (c : Option Nat) (hb : b.length < 2 ^ 62) :
    pureOf (run T) ⟨28, 1, code18, [.tmp 2], h⟩ [.isl f (bs b) b.length c] = some (.isl false (bs (sec b)) 64 none) := by
  have hz : (List.replicate 64 (AV.int .u8 0)) = bs (secAt b 0) := by simp [secAt, bs]
  have hnc : newCells emptySt (bs (secAt b 0)) = some (⟨0, 0, 0⟩, emptySt.new (bs (secAt b 0))) := newCells_ok (bs_cell _)
  have hgm : (64 : Nat) ≤ growMax := by decide
  simp (disch := first | omega | (simp only [rkl]; omega)) only [rk1, rk2, rk3, rk4, rk5, Arg.get, ret1, AV.cells, AV.isCell, addOff, minmaxL, Cap.room, Cap.cut, cutI, isSt, resultOf, Function.comp_apply, Function.comp_def, beq_self_eq_true, if_true, if_false, ite_true, ite_false, reduceCtorEq, bne_self_eq_false, Option.some.injEq, Prod.mk.injEq, ↓reduceIte, Nat.reduceEqDiff, Nat.reduceAdd, Nat.reduceMul, Nat.reduceSub, Nat.reduceLeDiff, Nat.reduceLT, Int.reduceLT, Int.reduceLE, Int.reduceEq, Int.reduceAdd, Int.reduceSub, Int.reduceNeg, Int.reduceToNat, List.mapM_cons, List.mapM_nil, Option.pure_def, Option.bind_eq_bind, eq_self, decide_true, decide_false, code18, p18_1, p18_2, p18_3, hz, hnc, hgm]
  generalize hr : run T (.loop l18_7) _ _ = r
  obtain ⟨ρ', σ', rfl, k3, kg⟩ := sector_out (b := b) (f := f) (c := c) (id := ⟨0, 0, 0⟩) (cap := .ex 64) hr hb (by simp (disch := first | omega | (simp only [rkl]; omega)) only [rk1, rk2, rk3, rk4, rk5, Arg.get, ret1, AV.cells, AV.isCell, addOff, minmaxL, Cap.room, Cap.cut, cutI, isSt, resultOf, Function.comp_apply, Function.comp_def, beq_self_eq_true, if_true, if_false, ite_true, ite_false, reduceCtorEq, bne_self_eq_false, Option.some.injEq, Prod.mk.injEq, ↓reduceIte, Nat.reduceEqDiff, Nat.reduceAdd, Nat.reduceMul, Nat.reduceSub, Nat.reduceLeDiff, Nat.reduceLT, Int.reduceLT, Int.reduceLE, Int.reduceEq, Int.reduceAdd, Int.reduceSub, Int.reduceNeg, Int.reduceToNat, List.mapM_cons, List.mapM_nil, Option.pure_def, Option.bind_eq_bind, eq_self, decide_true, decide_false]) (by simp (disch := first | omega | (simp only [rkl]; omega)) only [rk1, rk2, rk3, rk4, rk5, Arg.get, ret1, AV.cells, AV.isCell, addOff, minmaxL, Cap.room, Cap.cut, cutI, isSt, resultOf, Function.comp_apply, Function.comp_def, beq_self_eq_true, if_true, if_false, ite_true, ite_false, reduceCtorEq, bne_self_eq_false, Option.some.injEq, Prod.mk.injEq, ↓reduceIte, Nat.reduceEqDiff, Nat.reduceAdd, Nat.reduceMul, Nat.reduceSub, Nat.reduceLeDiff, Nat.reduceLT, Int.reduceLT, Int.reduceLE, Int.reduceEq, Int.reduceAdd, Int.reduceSub, Int.reduceNeg, Int.reduceToNat, List.mapM_cons, List.mapM_nil, Option.pure_def, Option.bind_eq_bind, eq_self, decide_true, decide_false]) (by simp (disch := first | omega | (simp only [rkl]; omega)) only [rk1, rk2, rk3, rk4, rk5, Arg.get, ret1, AV.cells, AV.isCell, addOff, minmaxL, Cap.room, Cap.cut, cutI, isSt, resultOf, Function.comp_apply, Function.comp_def, beq_self_eq_true, if_true, if_false, ite_true, ite_false, reduceCtorEq, bne_self_eq_false, Option.some.injEq, Prod.mk.injEq, ↓reduceIte, Nat.reduceEqDiff, Nat.reduceAdd, Nat.reduceMul, Nat.reduceSub, Nat.reduceLeDiff, Nat.reduceLT, Int.reduceLT, Int.reduceLE, Int.reduceEq, Int.reduceAdd, Int.reduceSub, Int.reduceNeg, Int.reduceToNat, List.mapM_cons, List.mapM_nil, Option.pure_def, Option.bind_eq_bind, eq_self, decide_true, decide_false]) (by simp (disch := first | omega | (simp only [rkl]; omega)) only [rk1, rk2, rk3, rk4, rk5, Arg.get, ret1, AV.cells, AV.isCell, addOff, minmaxL, Cap.room, Cap.cut, cutI, isSt, resultOf, Function.comp_apply, Function.comp_def, beq_self_eq_true, if_true, if_false, ite_true, ite_false, reduceCtorEq, bne_self_eq_false, Option.some.injEq, Prod.mk.injEq, ↓reduceIte, Nat.reduceEqDiff, Nat.reduceAdd, Nat.reduceMul, Nat.reduceSub, Nat.reduceLeDiff, Nat.reduceLT, Int.reduceLT, Int.reduceLE, Int.reduceEq, Int.reduceAdd, Int.reduceSub, Int.reduceNeg, Int.reduceToNat, List.mapM_cons, List.mapM_nil, Option.pure_def, Option.bind_eq_bind, eq_self, decide_true, decide_false])
  simp (disch := first | omega | (simp only [rkl]; omega)) only [rk1, rk2, rk3, rk4, rk5, Arg.get, ret1, AV.cells, AV.isCell, addOff, minmaxL, Cap.room, Cap.cut, cutI, isSt, resultOf, Function.comp_apply, Function.comp_def, beq_self_eq_true, if_true, if_false, ite_true, ite_false, reduceCtorEq, bne_self_eq_false, Option.some.injEq, Prod.mk.injEq, ↓reduceIte, Nat.reduceEqDiff, Nat.reduceAdd, Nat.reduceMul, Nat.reduceSub, Nat.reduceLeDiff, Nat.reduceLT, Int.reduceLT, Int.reduceLE, Int.reduceEq, Int.reduceAdd, Int.reduceSub, Int.reduceNeg, Int.reduceToNat, List.mapM_cons, List.mapM_nil, Option.pure_def, Option.bind_eq_bind, eq_self, decide_true, decide_false, p18_8, k3, kg]
  simp [frz_bs, List.take_of_length_le]

theorem sector_ev {hs : FuncId → Hint} (hp : hs 18 = .pure) {x : AV} {σ : St} {b : List UInt8} {f : Bool} {c : Option Nat} (hx : snap σ 7 x = some (.isl f (bs b) b.length c)) (hb : b.length < 2 ^ 62) :
    ev (tab hs) 18 [x] σ = some (.isl false (bs (sec b)) 64 none, σ) := by
  have ht := tab18 hs
  rw [hp] at ht
  rw [ev_pure ht, List.mapM_cons, hx]
  simp only [List.mapM_nil, Option.pure_def, Option.bind_eq_bind, Option.bind_some, sector_pure b f c hb, Option.map_some]
end
/-
  THE DISK: what an object of it holds; the looks at it.
-/

abbrev W := List (Nat × List UInt8)
/-- The writes that wait, as cells. -/
def wc (w : W) : List AV := w.flatMap fun x => .int .i64 x.1 :: bs x.2
def Full (n : Nat) (w : W) : Prop := ∀ x ∈ w, x.1 < n ∧ x.2.length = 64

theorem wc_nil : wc [] = [] := rfl
theorem wc_cons (x : Nat × List UInt8) (w : W) : wc (x :: w) = (.int .i64 x.1 :: bs x.2) ++ wc w := rfl
theorem wc_app (w w' : W) : wc (w ++ w') = wc w ++ wc w' := by simp [wc]
theorem wc_len {n : Nat} : ∀ {w : W}, Full n w → (wc w).length = w.length * 65
  | [], _ => rfl
  | x :: w, h => by
    have hx := (h x (by simp)).2
    rw [wc_cons, List.length_append, List.length_cons, bs_len, hx, wc_len (w := w) fun y hy => h y (by simp [hy]), List.length_cons]
    omega
theorem wc_cell (w : W) : (wc w).all AV.isCell = true := by
  simp only [wc, List.all_eq_true, List.mem_flatMap, List.mem_cons]
  rintro x ⟨y, _, rfl | hx⟩
  · rfl
  · exact List.all_eq_true.1 (bs_cell y.2) x hx
theorem wc_snap (σ : St) (k : Nat) (w : W) : (wc w).mapM (snap σ (k + 1)) = some (wc w) := mapM_id fun y hy => by
  simp only [wc, List.mem_flatMap, List.mem_cons, bs, List.mem_map] at hy
  obtain ⟨z, _, rfl | ⟨u, _, rfl⟩⟩ := hy <;> rfl
theorem wc_flt (ok : Vm.Id → Nat → Bool) (w : W) : (wc w).all (AV.flt ok) = true := by
  simp only [wc, List.all_eq_true, List.mem_flatMap, List.mem_cons, bs, List.mem_map]
  rintro x ⟨y, _, rfl | ⟨u, _, rfl⟩⟩ <;> rfl
theorem bs_flt (ok : Vm.Id → Nat → Bool) (b : List UInt8) : (bs b).all (AV.flt ok) = true := by
  simp only [bs, List.all_eq_true, List.mem_map]
  rintro x ⟨u, _, rfl⟩; rfl
/-- One of the writes. -/
theorem wc_at {n : Nat} : ∀ {w : W} (_ : Full n w) {i : Nat} {x : Nat × List UInt8}, w[i]? = some x → ((wc w).drop (i * 65)).take 65 = .int .i64 x.1 :: bs x.2
  | y :: w, h, 0, x, hx => by
    simp only [List.getElem?_cons_zero, Option.some.injEq] at hx; subst hx
    have hy := (h y (by simp)).2
    rw [wc_cons, Nat.zero_mul, List.drop_zero]
    exact List.take_left' (by simp [hy])
  | y :: w, h, i + 1, x, hx => by
    have hy := (h y (by simp)).2
    rw [wc_cons, Nat.add_mul, Nat.one_mul, Nat.add_comm, ← List.drop_drop, List.drop_left' (by simp [hy])]
    exact wc_at (w := w) (fun z hz => h z (by simp [hz])) (by simpa using hx)

inductive WaitR : RC → W → Prop
  | nil : WaitR (.v .nilsl) []
  | sl (w : W) (h : w ≠ []) : WaitR (.sl (wc w) 0 w.length (.ge w.length) 65) w

structure DiskO (σ : St) (o : Nat) (K : List UInt8) (n : Nat) (w : W) (down : Bool) (armed : Int) : Prop where
  ex : ∃ kcap Wc, WaitR Wc w ∧ Vm.Obj σ o [.sl (bs K) 0 n kcap 64, Wc, .v (.bool down), .v (.int .i64 armed)]
  len : K.length = n * 64
  full : Full n w
  few : n ≤ 65536
  arm : 0 ≤ armed ∧ armed ≤ 9223372036854775807

/-- The picture of a disk. -/
def pic (K : List UInt8) (n : Nat) (fw : Bool) (w : W) (down : Bool) (armed : Int) : AV :=
  .iptr true [.isl true (bs K) n none, .isl fw (wc w) w.length none, .bool down, .int .i64 armed] 0

theorem DiskO.snap {σ : St} {o : Nat} {K : List UInt8} {n : Nat} {w : W} {down : Bool} {armed : Int} (h : DiskO σ o K n w down armed) : ∃ fw, snap σ 7 (.ptr ⟨o, 0, 0⟩ 0) = some (pic K n fw w down armed) := by
  obtain ⟨kcap, Wc, hw, ho⟩ := h.ex
  have hg := ho.get
  have hk := ho.sl (k := 0) rfl
  have hK : (bs K).take (n * 64) = bs K := List.take_of_length_le (by simp [h.len])
  cases hw with
  | nil =>
    refine ⟨false, ?_⟩
    simp [snap_ptr, hg, rcCells, RC.cell, snap_sl, hk, snap_bs, h.len, hK, pic, wc_nil, List.take_of_length_le]
  | sl =>
    refine ⟨true, ?_⟩
    have hs := ho.sl (k := 1) rfl
    have hW : (wc w).take (w.length * 65) = wc w := List.take_of_length_le (by simp [wc_len h.full])
    simp [snap_ptr, hg, rcCells, RC.cell, snap_sl, hk, hs, snap_bs, wc_snap, h.len, hK, pic, wc_len h.full, List.take_of_length_le]

section
variable {T : Table} {h : Hint} {K : List UInt8} {n : Nat} {fw : Bool} {w : W} {down : Bool} {armed : Int}

theorem up_pure : pureOf (run T) ⟨11, 1, code68, [.tmp 2], h⟩ [pic K n fw w down armed] = some (.int .i64 (if down then 3 else 0)) := by
  cases down <;> simp (disch := first | omega | (simp only [rkl]; omega)) only [rk1, rk2, rk3, rk4, rk5, Arg.get, ret1, AV.cells, AV.isCell, addOff, minmaxL, Cap.room, Cap.cut, cutI, isSt, resultOf, Function.comp_apply, Function.comp_def, beq_self_eq_true, if_true, if_false, ite_true, ite_false, reduceCtorEq, bne_self_eq_false, Option.some.injEq, Prod.mk.injEq, ↓reduceIte, Nat.reduceEqDiff, Nat.reduceAdd, Nat.reduceMul, Nat.reduceSub, Nat.reduceLeDiff, Nat.reduceLT, Int.reduceLT, Int.reduceLE, Int.reduceEq, Int.reduceAdd, Int.reduceSub, Int.reduceNeg, Int.reduceToNat, List.mapM_cons, List.mapM_nil, Option.pure_def, Option.bind_eq_bind, eq_self, decide_true, decide_false, code68, p68_1, p68_2, p68_3, p68_4, p68_5, p68_6, pic]

theorem size_pure : pureOf (run T) ⟨10, 1, code39, [.tmp 2], h⟩ [pic K n fw w down armed] = some (.int .i64 n) := by
  simp (disch := first | omega | (simp only [rkl]; omega)) only [rk1, rk2, rk3, rk4, rk5, Arg.get, ret1, AV.cells, AV.isCell, addOff, minmaxL, Cap.room, Cap.cut, cutI, isSt, resultOf, Function.comp_apply, Function.comp_def, beq_self_eq_true, if_true, if_false, ite_true, ite_false, reduceCtorEq, bne_self_eq_false, Option.some.injEq, Prod.mk.injEq, ↓reduceIte, Nat.reduceEqDiff, Nat.reduceAdd, Nat.reduceMul, Nat.reduceSub, Nat.reduceLeDiff, Nat.reduceLT, Int.reduceLT, Int.reduceLE, Int.reduceEq, Int.reduceAdd, Int.reduceSub, Int.reduceNeg, Int.reduceToNat, List.mapM_cons, List.mapM_nil, Option.pure_def, Option.bind_eq_bind, eq_self, decide_true, decide_false, code39, p39_1, p39_2, p39_3, p39_4, pic]

theorem waiting_pure : pureOf (run T) ⟨10, 1, code20, [.tmp 2], h⟩ [pic K n fw w down armed] = some (.int .i64 w.length) := by
  simp (disch := first | omega | (simp only [rkl]; omega)) only [rk1, rk2, rk3, rk4, rk5, Arg.get, ret1, AV.cells, AV.isCell, addOff, minmaxL, Cap.room, Cap.cut, cutI, isSt, resultOf, Function.comp_apply, Function.comp_def, beq_self_eq_true, if_true, if_false, ite_true, ite_false, reduceCtorEq, bne_self_eq_false, Option.some.injEq, Prod.mk.injEq, ↓reduceIte, Nat.reduceEqDiff, Nat.reduceAdd, Nat.reduceMul, Nat.reduceSub, Nat.reduceLeDiff, Nat.reduceLT, Int.reduceLT, Int.reduceLE, Int.reduceEq, Int.reduceAdd, Int.reduceSub, Int.reduceNeg, Int.reduceToNat, List.mapM_cons, List.mapM_nil, Option.pure_def, Option.bind_eq_bind, eq_self, decide_true, decide_false, code20, p20_1, p20_2, p20_3, p20_4, pic]

theorem down_pure : pureOf (run T) ⟨11, 1, code38, [.tmp 2], h⟩ [pic K n fw w down armed] = some (.bool down) := by
  simp (disch := first | omega | (simp only [rkl]; omega)) only [rk1, rk2, rk3, rk4, rk5, Arg.get, ret1, AV.cells, AV.isCell, addOff, minmaxL, Cap.room, Cap.cut, cutI, isSt, resultOf, Function.comp_apply, Function.comp_def, beq_self_eq_true, if_true, if_false, ite_true, ite_false, reduceCtorEq, bne_self_eq_false, Option.some.injEq, Prod.mk.injEq, ↓reduceIte, Nat.reduceEqDiff, Nat.reduceAdd, Nat.reduceMul, Nat.reduceSub, Nat.reduceLeDiff, Nat.reduceLT, Int.reduceLT, Int.reduceLE, Int.reduceEq, Int.reduceAdd, Int.reduceSub, Int.reduceNeg, Int.reduceToNat, List.mapM_cons, List.mapM_nil, Option.pure_def, Option.bind_eq_bind, eq_self, decide_true, decide_false, code38, p38_1, p38_2, pic]

end

/-- How the functions of the disk are called. -/
structure DiskH (hs : FuncId → Hint) : Prop where
  up : hs 68 = .pure
  size : hs 39 = .pure
  waiting : hs 20 = .pure
  down : hs 38 = .pure
  sector : hs 18 = .pure
  hit : hs 69 = .raw
  write : hs 17 = .mut [(0, [])] none
  flush : hs 19 = .mut [(0, [])] none
  crash : hs 21 = .mut [(0, [])] none
  start : hs 22 = .mut [(0, [])] none
  arm : hs 29 = .mut [(0, [])] none
  new : hs 15 = .mut [] (some (some 0))
  fork : hs 34 = .mut [(0, [])] (some none)
  cloneS : hs 73 = .raw
  cloneW : hs 74 = .raw

section
variable {hs : FuncId → Hint} (H : DiskH hs) {σ : St} {o : Nat} {K : List UInt8} {n : Nat} {w : W} {down : Bool} {armed : Int} (D : DiskO σ o K n w down armed)
include H D

theorem up_ev : ev (tab hs) 68 [.ptr ⟨o, 0, 0⟩ 0] σ = some (.int .i64 (if down then 3 else 0), σ) := by
  obtain ⟨fw, hsn⟩ := D.snap
  exact pure_ev (H.up ▸ tab68 hs) (snaps_cons hsn (snaps_nil σ)) up_pure
theorem size_ev : ev (tab hs) 39 [.ptr ⟨o, 0, 0⟩ 0] σ = some (.int .i64 n, σ) := by
  obtain ⟨fw, hsn⟩ := D.snap
  exact pure_ev (H.size ▸ tab39 hs) (snaps_cons hsn (snaps_nil σ)) size_pure
theorem waiting_ev : ev (tab hs) 20 [.ptr ⟨o, 0, 0⟩ 0] σ = some (.int .i64 w.length, σ) := by
  obtain ⟨fw, hsn⟩ := D.snap
  exact pure_ev (H.waiting ▸ tab20 hs) (snaps_cons hsn (snaps_nil σ)) waiting_pure
theorem down_ev : ev (tab hs) 38 [.ptr ⟨o, 0, 0⟩ 0] σ = some (.bool down, σ) := by
  obtain ⟨fw, hsn⟩ := D.snap
  exact pure_ev (H.down ▸ tab38 hs) (snaps_cons hsn (snaps_nil σ)) down_pure
end
/-
  THE DISK: what a sector shows.
-/

/-- A sector that is kept. -/
def secK (K : List UInt8) (a : Nat) : List UInt8 := (K.drop (a * 64)).take 64
/-- What a sector shows. -/
def shown (K : List UInt8) (w : W) (a : Nat) : List UInt8 := w.foldl (fun s x => if x.1 = a then x.2 else s) (secK K a)

theorem secK_len {K : List UInt8} {n a : Nat} (h : K.length = n * 64) (ha : a < n) : (secK K a).length = 64 := by
  simp only [secK, List.length_take, List.length_drop, h]
  have : (a + 1) * 64 ≤ n * 64 := Nat.mul_le_mul_right _ ha
  omega

def z65 : List AV := [.int .i64 0] ++ List.replicate 64 (.int .u8 0)
theorem z65_ok (σ : St) : newCells σ (.int .i64 0 :: List.replicate 64 (.int .u8 0)) = some (⟨σ.next, 0, 0⟩, σ.new z65) := newCells_ok (by simp [AV.isCell])
theorem z65_store {σ : St} {x : Nat × List UInt8} (h : x.2.length = 64) : storeAt (σ.new z65) 65 (.ptr ⟨σ.next, 0, 0⟩ 0) (.agg (.int .i64 x.1 :: bs x.2)) = some (σ.new (.int .i64 x.1 :: bs x.2)) :=
  new_store (by simp [z65]) (by simp [h]) (by simp [AV.isCell])

section
variable {hs : FuncId → Hint} (H : DiskH hs) {K : List UInt8} {n : Nat} {fw : Bool} {w : W} {down : Bool} {armed : Int}

theorem up_pic (σ : St) (hu : hs 68 = .pure) : ev (tab hs) 68 [pic K n fw w down armed] σ = some (.int .i64 (if down then 3 else 0), σ) :=
  pure_ev (hu ▸ tab68 hs) (snaps_cons rfl (snaps_nil σ)) up_pure

theorem read_round {T : Table} (hf : Full n w) {i a : Nat} {x : Nat × List UInt8} (hx : w[i]? = some x) (hw : w.length < 2 ^ 62) {ρ : Env} {σ : St} {s : List UInt8} (hl : s.length = 64) (h7 : ρ 7 = .ptr ⟨0, 0, 0⟩ 0) (h36 : ρ 36 = .isl fw (wc w) w.length none)
    (h37 : ρ 37 = .int .i64 w.length) (h38 : ρ 38 = .int .i64 i) (h1 : ρ 1 = .int .i64 a) (hg : σ.get ⟨0, 0, 0⟩ = some (bs s)) (hn : 0 < σ.next) :
    ∃ ρ' σ', run T l23_14 ρ σ = some (.normal, ρ', σ') ∧ ρ' 7 = ρ 7 ∧ ρ' 36 = ρ 36 ∧ ρ' 37 = ρ 37 ∧ ρ' 38 = .int .i64 (i + 1 : Nat) ∧ ρ' 1 = ρ 1 ∧ σ'.get ⟨0, 0, 0⟩ = some (bs (if x.1 = a then x.2 else s)) ∧ 0 < σ'.next := by
  have hi : i < w.length := (List.getElem?_eq_some_iff.1 hx).1
  have hx2 : x.2.length = 64 := (hf x (List.mem_of_getElem? hx)).2
  have hat := wc_at hf hx
  have hwl := wc_len hf
  have hm : (i + 1) * 65 ≤ w.length * 65 := Nat.mul_le_mul_right _ hi
  have hpt : Vm.part true 65 (i * 65) (wc w) = some (.agg (.int .i64 x.1 :: bs x.2)) := by rw [part_t (by omega), hat]
  have hep : elemPtr 65 i (.isl fw (wc w) w.length none) = some (.iptr fw (wc w) (i * 65)) := elemPtr_isl hi (by omega)
  have ht : List.take 64 (bs x.2) = bs x.2 := List.take_of_length_le (by simp [hx2])
  have hst : ∀ σ : St, σ.get ⟨0, 0, 0⟩ = some (bs s) → storeAt σ 64 (.ptr ⟨0, 0, 0⟩ 0) (.agg (bs x.2)) = some (σ.set ⟨0, 0, 0⟩ (some (.cells (bs x.2)))) := fun σ hg => store_all hg (by simp [hl]) (by simp [hx2]) (bs_cell _)
  have hgn : (σ.new (.int .i64 x.1 :: bs x.2)).get ⟨0, 0, 0⟩ = some (bs s) := by simp (disch := first | omega | (simp only [rkl]; omega)) only [rk1, rk2, rk3, rk4, rk5, Arg.get, ret1, AV.cells, AV.isCell, addOff, minmaxL, Cap.room, Cap.cut, cutI, isSt, resultOf, Function.comp_apply, Function.comp_def, beq_self_eq_true, if_true, if_false, ite_true, ite_false, reduceCtorEq, bne_self_eq_false, Option.some.injEq, Prod.mk.injEq, ↓reduceIte, Nat.reduceEqDiff, Nat.reduceAdd, Nat.reduceMul, Nat.reduceSub, Nat.reduceLeDiff, Nat.reduceLT, Int.reduceLT, Int.reduceLE, Int.reduceEq, Int.reduceAdd, Int.reduceSub, Int.reduceNeg, Int.reduceToNat, List.mapM_cons, List.mapM_nil, Option.pure_def, Option.bind_eq_bind, eq_self, decide_true, decide_false, hg]
  by_cases hxa : x.1 = a
  · subst hxa
    simp (disch := first | omega | (simp only [rkl]; omega)) only [rk1, rk2, rk3, rk4, rk5, Arg.get, ret1, AV.cells, AV.isCell, addOff, minmaxL, Cap.room, Cap.cut, cutI, isSt, resultOf, Function.comp_apply, Function.comp_def, beq_self_eq_true, if_true, if_false, ite_true, ite_false, reduceCtorEq, bne_self_eq_false, Option.some.injEq, Prod.mk.injEq, ↓reduceIte, Nat.reduceEqDiff, Nat.reduceAdd, Nat.reduceMul, Nat.reduceSub, Nat.reduceLeDiff, Nat.reduceLT, Int.reduceLT, Int.reduceLE, Int.reduceEq, Int.reduceAdd, Int.reduceSub, Int.reduceNeg, Int.reduceToNat, List.mapM_cons, List.mapM_nil, Option.pure_def, Option.bind_eq_bind, eq_self, decide_true, decide_false, l23_14, p23_9, p23_10, p23_11, p23_12, p23_13, h7, h36, h37, h38, h1, z65_ok, z65_store hx2, hpt, hep, ht, hst _ hgn]

    exact ⟨_, _, ⟨rfl, rfl⟩, by simp (disch := first | omega | (simp only [rkl]; omega)) only [rk1, rk2, rk3, rk4, rk5, Arg.get, ret1, AV.cells, AV.isCell, addOff, minmaxL, Cap.room, Cap.cut, cutI, isSt, resultOf, Function.comp_apply, Function.comp_def, beq_self_eq_true, if_true, if_false, ite_true, ite_false, reduceCtorEq, bne_self_eq_false, Option.some.injEq, Prod.mk.injEq, ↓reduceIte, Nat.reduceEqDiff, Nat.reduceAdd, Nat.reduceMul, Nat.reduceSub, Nat.reduceLeDiff, Nat.reduceLT, Int.reduceLT, Int.reduceLE, Int.reduceEq, Int.reduceAdd, Int.reduceSub, Int.reduceNeg, Int.reduceToNat, List.mapM_cons, List.mapM_nil, Option.pure_def, Option.bind_eq_bind, eq_self, decide_true, decide_false, h7], by simp (disch := first | omega | (simp only [rkl]; omega)) only [rk1, rk2, rk3, rk4, rk5, Arg.get, ret1, AV.cells, AV.isCell, addOff, minmaxL, Cap.room, Cap.cut, cutI, isSt, resultOf, Function.comp_apply, Function.comp_def, beq_self_eq_true, if_true, if_false, ite_true, ite_false, reduceCtorEq, bne_self_eq_false, Option.some.injEq, Prod.mk.injEq, ↓reduceIte, Nat.reduceEqDiff, Nat.reduceAdd, Nat.reduceMul, Nat.reduceSub, Nat.reduceLeDiff, Nat.reduceLT, Int.reduceLT, Int.reduceLE, Int.reduceEq, Int.reduceAdd, Int.reduceSub, Int.reduceNeg, Int.reduceToNat, List.mapM_cons, List.mapM_nil, Option.pure_def, Option.bind_eq_bind, eq_self, decide_true, decide_false, h36], by simp (disch := first | omega | (simp only [rkl]; omega)) only [rk1, rk2, rk3, rk4, rk5, Arg.get, ret1, AV.cells, AV.isCell, addOff, minmaxL, Cap.room, Cap.cut, cutI, isSt, resultOf, Function.comp_apply, Function.comp_def, beq_self_eq_true, if_true, if_false, ite_true, ite_false, reduceCtorEq, bne_self_eq_false, Option.some.injEq, Prod.mk.injEq, ↓reduceIte, Nat.reduceEqDiff, Nat.reduceAdd, Nat.reduceMul, Nat.reduceSub, Nat.reduceLeDiff, Nat.reduceLT, Int.reduceLT, Int.reduceLE, Int.reduceEq, Int.reduceAdd, Int.reduceSub, Int.reduceNeg, Int.reduceToNat, List.mapM_cons, List.mapM_nil, Option.pure_def, Option.bind_eq_bind, eq_self, decide_true, decide_false, h37], by simp (disch := first | omega | (simp only [rkl]; omega)) only [rk1, rk2, rk3, rk4, rk5, Arg.get, ret1, AV.cells, AV.isCell, addOff, minmaxL, Cap.room, Cap.cut, cutI, isSt, resultOf, Function.comp_apply, Function.comp_def, beq_self_eq_true, if_true, if_false, ite_true, ite_false, reduceCtorEq, bne_self_eq_false, Option.some.injEq, Prod.mk.injEq, ↓reduceIte, Nat.reduceEqDiff, Nat.reduceAdd, Nat.reduceMul, Nat.reduceSub, Nat.reduceLeDiff, Nat.reduceLT, Int.reduceLT, Int.reduceLE, Int.reduceEq, Int.reduceAdd, Int.reduceSub, Int.reduceNeg, Int.reduceToNat, List.mapM_cons, List.mapM_nil, Option.pure_def, Option.bind_eq_bind, eq_self, decide_true, decide_false, Int.natCast_add, Int.cast_ofNat_Int], by simp (disch := first | omega | (simp only [rkl]; omega)) only [rk1, rk2, rk3, rk4, rk5, Arg.get, ret1, AV.cells, AV.isCell, addOff, minmaxL, Cap.room, Cap.cut, cutI, isSt, resultOf, Function.comp_apply, Function.comp_def, beq_self_eq_true, if_true, if_false, ite_true, ite_false, reduceCtorEq, bne_self_eq_false, Option.some.injEq, Prod.mk.injEq, ↓reduceIte, Nat.reduceEqDiff, Nat.reduceAdd, Nat.reduceMul, Nat.reduceSub, Nat.reduceLeDiff, Nat.reduceLT, Int.reduceLT, Int.reduceLE, Int.reduceEq, Int.reduceAdd, Int.reduceSub, Int.reduceNeg, Int.reduceToNat, List.mapM_cons, List.mapM_nil, Option.pure_def, Option.bind_eq_bind, eq_self, decide_true, decide_false, h1], by simp (disch := first | omega | (simp only [rkl]; omega)) only [rk1, rk2, rk3, rk4, rk5, Arg.get, ret1, AV.cells, AV.isCell, addOff, minmaxL, Cap.room, Cap.cut, cutI, isSt, resultOf, Function.comp_apply, Function.comp_def, beq_self_eq_true, if_true, if_false, ite_true, ite_false, reduceCtorEq, bne_self_eq_false, Option.some.injEq, Prod.mk.injEq, ↓reduceIte, Nat.reduceEqDiff, Nat.reduceAdd, Nat.reduceMul, Nat.reduceSub, Nat.reduceLeDiff, Nat.reduceLT, Int.reduceLT, Int.reduceLE, Int.reduceEq, Int.reduceAdd, Int.reduceSub, Int.reduceNeg, Int.reduceToNat, List.mapM_cons, List.mapM_nil, Option.pure_def, Option.bind_eq_bind, eq_self, decide_true, decide_false], by simp (disch := first | omega | (simp only [rkl]; omega)) only [rk1, rk2, rk3, rk4, rk5, Arg.get, ret1, AV.cells, AV.isCell, addOff, minmaxL, Cap.room, Cap.cut, cutI, isSt, resultOf, Function.comp_apply, Function.comp_def, beq_self_eq_true, if_true, if_false, ite_true, ite_false, reduceCtorEq, bne_self_eq_false, Option.some.injEq, Prod.mk.injEq, ↓reduceIte, Nat.reduceEqDiff, Nat.reduceAdd, Nat.reduceMul, Nat.reduceSub, Nat.reduceLeDiff, Nat.reduceLT, Int.reduceLT, Int.reduceLE, Int.reduceEq, Int.reduceAdd, Int.reduceSub, Int.reduceNeg, Int.reduceToNat, List.mapM_cons, List.mapM_nil, Option.pure_def, Option.bind_eq_bind, eq_self, decide_true, decide_false]; omega⟩
  · simp (disch := first | omega | (simp only [rkl]; omega)) only [rk1, rk2, rk3, rk4, rk5, Arg.get, ret1, AV.cells, AV.isCell, addOff, minmaxL, Cap.room, Cap.cut, cutI, isSt, resultOf, Function.comp_apply, Function.comp_def, beq_self_eq_true, if_true, if_false, ite_true, ite_false, reduceCtorEq, bne_self_eq_false, Option.some.injEq, Prod.mk.injEq, ↓reduceIte, Nat.reduceEqDiff, Nat.reduceAdd, Nat.reduceMul, Nat.reduceSub, Nat.reduceLeDiff, Nat.reduceLT, Int.reduceLT, Int.reduceLE, Int.reduceEq, Int.reduceAdd, Int.reduceSub, Int.reduceNeg, Int.reduceToNat, List.mapM_cons, List.mapM_nil, Option.pure_def, Option.bind_eq_bind, eq_self, decide_true, decide_false, l23_14, p23_9, p23_10, p23_11, p23_12, p23_13, h7, h36, h37, h38, h1, z65_ok, z65_store hx2, hpt, hep, ht]
    exact ⟨_, _, ⟨rfl, rfl⟩, by simp (disch := first | omega | (simp only [rkl]; omega)) only [rk1, rk2, rk3, rk4, rk5, Arg.get, ret1, AV.cells, AV.isCell, addOff, minmaxL, Cap.room, Cap.cut, cutI, isSt, resultOf, Function.comp_apply, Function.comp_def, beq_self_eq_true, if_true, if_false, ite_true, ite_false, reduceCtorEq, bne_self_eq_false, Option.some.injEq, Prod.mk.injEq, ↓reduceIte, Nat.reduceEqDiff, Nat.reduceAdd, Nat.reduceMul, Nat.reduceSub, Nat.reduceLeDiff, Nat.reduceLT, Int.reduceLT, Int.reduceLE, Int.reduceEq, Int.reduceAdd, Int.reduceSub, Int.reduceNeg, Int.reduceToNat, List.mapM_cons, List.mapM_nil, Option.pure_def, Option.bind_eq_bind, eq_self, decide_true, decide_false, h7], by simp (disch := first | omega | (simp only [rkl]; omega)) only [rk1, rk2, rk3, rk4, rk5, Arg.get, ret1, AV.cells, AV.isCell, addOff, minmaxL, Cap.room, Cap.cut, cutI, isSt, resultOf, Function.comp_apply, Function.comp_def, beq_self_eq_true, if_true, if_false, ite_true, ite_false, reduceCtorEq, bne_self_eq_false, Option.some.injEq, Prod.mk.injEq, ↓reduceIte, Nat.reduceEqDiff, Nat.reduceAdd, Nat.reduceMul, Nat.reduceSub, Nat.reduceLeDiff, Nat.reduceLT, Int.reduceLT, Int.reduceLE, Int.reduceEq, Int.reduceAdd, Int.reduceSub, Int.reduceNeg, Int.reduceToNat, List.mapM_cons, List.mapM_nil, Option.pure_def, Option.bind_eq_bind, eq_self, decide_true, decide_false, h36], by simp (disch := first | omega | (simp only [rkl]; omega)) only [rk1, rk2, rk3, rk4, rk5, Arg.get, ret1, AV.cells, AV.isCell, addOff, minmaxL, Cap.room, Cap.cut, cutI, isSt, resultOf, Function.comp_apply, Function.comp_def, beq_self_eq_true, if_true, if_false, ite_true, ite_false, reduceCtorEq, bne_self_eq_false, Option.some.injEq, Prod.mk.injEq, ↓reduceIte, Nat.reduceEqDiff, Nat.reduceAdd, Nat.reduceMul, Nat.reduceSub, Nat.reduceLeDiff, Nat.reduceLT, Int.reduceLT, Int.reduceLE, Int.reduceEq, Int.reduceAdd, Int.reduceSub, Int.reduceNeg, Int.reduceToNat, List.mapM_cons, List.mapM_nil, Option.pure_def, Option.bind_eq_bind, eq_self, decide_true, decide_false, h37], by simp (disch := first | omega | (simp only [rkl]; omega)) only [rk1, rk2, rk3, rk4, rk5, Arg.get, ret1, AV.cells, AV.isCell, addOff, minmaxL, Cap.room, Cap.cut, cutI, isSt, resultOf, Function.comp_apply, Function.comp_def, beq_self_eq_true, if_true, if_false, ite_true, ite_false, reduceCtorEq, bne_self_eq_false, Option.some.injEq, Prod.mk.injEq, ↓reduceIte, Nat.reduceEqDiff, Nat.reduceAdd, Nat.reduceMul, Nat.reduceSub, Nat.reduceLeDiff, Nat.reduceLT, Int.reduceLT, Int.reduceLE, Int.reduceEq, Int.reduceAdd, Int.reduceSub, Int.reduceNeg, Int.reduceToNat, List.mapM_cons, List.mapM_nil, Option.pure_def, Option.bind_eq_bind, eq_self, decide_true, decide_false, Int.natCast_add, Int.cast_ofNat_Int], by simp (disch := first | omega | (simp only [rkl]; omega)) only [rk1, rk2, rk3, rk4, rk5, Arg.get, ret1, AV.cells, AV.isCell, addOff, minmaxL, Cap.room, Cap.cut, cutI, isSt, resultOf, Function.comp_apply, Function.comp_def, beq_self_eq_true, if_true, if_false, ite_true, ite_false, reduceCtorEq, bne_self_eq_false, Option.some.injEq, Prod.mk.injEq, ↓reduceIte, Nat.reduceEqDiff, Nat.reduceAdd, Nat.reduceMul, Nat.reduceSub, Nat.reduceLeDiff, Nat.reduceLT, Int.reduceLT, Int.reduceLE, Int.reduceEq, Int.reduceAdd, Int.reduceSub, Int.reduceNeg, Int.reduceToNat, List.mapM_cons, List.mapM_nil, Option.pure_def, Option.bind_eq_bind, eq_self, decide_true, decide_false, h1], by simp (disch := first | omega | (simp only [rkl]; omega)) only [rk1, rk2, rk3, rk4, rk5, Arg.get, ret1, AV.cells, AV.isCell, addOff, minmaxL, Cap.room, Cap.cut, cutI, isSt, resultOf, Function.comp_apply, Function.comp_def, beq_self_eq_true, if_true, if_false, ite_true, ite_false, reduceCtorEq, bne_self_eq_false, Option.some.injEq, Prod.mk.injEq, ↓reduceIte, Nat.reduceEqDiff, Nat.reduceAdd, Nat.reduceMul, Nat.reduceSub, Nat.reduceLeDiff, Nat.reduceLT, Int.reduceLT, Int.reduceLE, Int.reduceEq, Int.reduceAdd, Int.reduceSub, Int.reduceNeg, Int.reduceToNat, List.mapM_cons, List.mapM_nil, Option.pure_def, Option.bind_eq_bind, eq_self, decide_true, decide_false, hg], by simp (disch := first | omega | (simp only [rkl]; omega)) only [rk1, rk2, rk3, rk4, rk5, Arg.get, ret1, AV.cells, AV.isCell, addOff, minmaxL, Cap.room, Cap.cut, cutI, isSt, resultOf, Function.comp_apply, Function.comp_def, beq_self_eq_true, if_true, if_false, ite_true, ite_false, reduceCtorEq, bne_self_eq_false, Option.some.injEq, Prod.mk.injEq, ↓reduceIte, Nat.reduceEqDiff, Nat.reduceAdd, Nat.reduceMul, Nat.reduceSub, Nat.reduceLeDiff, Nat.reduceLT, Int.reduceLT, Int.reduceLE, Int.reduceEq, Int.reduceAdd, Int.reduceSub, Int.reduceNeg, Int.reduceToNat, List.mapM_cons, List.mapM_nil, Option.pure_def, Option.bind_eq_bind, eq_self, decide_true, decide_false]; omega⟩

theorem read_loop {T : Table} (hf : Full n w) (hw : w.length < 2 ^ 62) {a : Nat} : ∀ (m i : Nat), i + m = w.length → ∀ {ρ : Env} {σ : St} {s : List UInt8}, s.length = 64 → ρ 7 = .ptr ⟨0, 0, 0⟩ 0 → ρ 36 = .isl fw (wc w) w.length none →
    ρ 37 = .int .i64 w.length → ρ 38 = .int .i64 i → ρ 1 = .int .i64 a → σ.get ⟨0, 0, 0⟩ = some (bs s) → 0 < σ.next →
    ∃ ρ' σ', run T (.loop l23_14) ρ σ = some (.exit 0, ρ', σ') ∧ ρ' 7 = .ptr ⟨0, 0, 0⟩ 0 ∧ σ'.get ⟨0, 0, 0⟩ = some (bs ((w.drop i).foldl (fun s x => if x.1 = a then x.2 else s) s))
  | 0, i, him, ρ, σ, s, hl, h7, h36, h37, h38, h1, hg, hn => by
    rw [run_loop]
    have hi : i = w.length := by omega
    subst hi
    simp (disch := first | omega | (simp only [rkl]; omega)) only [rk1, rk2, rk3, rk4, rk5, Arg.get, ret1, AV.cells, AV.isCell, addOff, minmaxL, Cap.room, Cap.cut, cutI, isSt, resultOf, Function.comp_apply, Function.comp_def, beq_self_eq_true, if_true, if_false, ite_true, ite_false, reduceCtorEq, bne_self_eq_false, Option.some.injEq, Prod.mk.injEq, ↓reduceIte, Nat.reduceEqDiff, Nat.reduceAdd, Nat.reduceMul, Nat.reduceSub, Nat.reduceLeDiff, Nat.reduceLT, Int.reduceLT, Int.reduceLE, Int.reduceEq, Int.reduceAdd, Int.reduceSub, Int.reduceNeg, Int.reduceToNat, List.mapM_cons, List.mapM_nil, Option.pure_def, Option.bind_eq_bind, eq_self, decide_true, decide_false, l23_14, p23_9, h7, h36, h37, h38, h1]
    exact ⟨_, _, ⟨rfl, rfl⟩, by simp (disch := first | omega | (simp only [rkl]; omega)) only [rk1, rk2, rk3, rk4, rk5, Arg.get, ret1, AV.cells, AV.isCell, addOff, minmaxL, Cap.room, Cap.cut, cutI, isSt, resultOf, Function.comp_apply, Function.comp_def, beq_self_eq_true, if_true, if_false, ite_true, ite_false, reduceCtorEq, bne_self_eq_false, Option.some.injEq, Prod.mk.injEq, ↓reduceIte, Nat.reduceEqDiff, Nat.reduceAdd, Nat.reduceMul, Nat.reduceSub, Nat.reduceLeDiff, Nat.reduceLT, Int.reduceLT, Int.reduceLE, Int.reduceEq, Int.reduceAdd, Int.reduceSub, Int.reduceNeg, Int.reduceToNat, List.mapM_cons, List.mapM_nil, Option.pure_def, Option.bind_eq_bind, eq_self, decide_true, decide_false, h7], by rw [hg, List.drop_length]; rfl⟩
  | m + 1, i, him, ρ, σ, s, hl, h7, h36, h37, h38, h1, hg, hn => by
    have hi : i < w.length := by omega
    obtain ⟨ρ1, σ1, hr, k7, k36, k37, k38, k1, kg, kn⟩ := read_round (T := T) hf (List.getElem?_eq_getElem hi) hw hl h7 h36 h37 h38 h1 hg hn
    rw [run_loop, hr]
    have hl2 : (if w[i].1 = a then w[i].2 else s).length = 64 := by
      split
      · exact (hf _ (List.getElem_mem hi)).2
      · exact hl
    obtain ⟨ρ2, σ2, hr2, q7, qg⟩ := read_loop hf hw m (i + 1) (by omega) hl2 (k7.trans h7) (k36.trans h36) (k37.trans h37) k38 (k1.trans h1) kg kn
    refine ⟨ρ2, σ2, ?_, q7, ?_⟩
    · simp (disch := first | omega | (simp only [rkl]; omega)) only [rk1, rk2, rk3, rk4, rk5, Arg.get, ret1, AV.cells, AV.isCell, addOff, minmaxL, Cap.room, Cap.cut, cutI, isSt, resultOf, Function.comp_apply, Function.comp_def, beq_self_eq_true, if_true, if_false, ite_true, ite_false, reduceCtorEq, bne_self_eq_false, Option.some.injEq, Prod.mk.injEq, ↓reduceIte, Nat.reduceEqDiff, Nat.reduceAdd, Nat.reduceMul, Nat.reduceSub, Nat.reduceLeDiff, Nat.reduceLT, Int.reduceLT, Int.reduceLE, Int.reduceEq, Int.reduceAdd, Int.reduceSub, Int.reduceNeg, Int.reduceToNat, List.mapM_cons, List.mapM_nil, Option.pure_def, Option.bind_eq_bind, eq_self, decide_true, decide_false]; exact hr2
    · rw [qg, List.drop_eq_getElem_cons hi]; rfl

theorem read_out {T : Table} {ρ : Env} {σ : St} {r} (hr : run T (.loop l23_14) ρ σ = r) (hf : Full n w) (hw : w.length < 2 ^ 62) {a : Nat} {s : List UInt8} (hl : s.length = 64) (h7 : ρ 7 = .ptr ⟨0, 0, 0⟩ 0) (h36 : ρ 36 = .isl fw (wc w) w.length none)
    (h37 : ρ 37 = .int .i64 w.length) (h38 : ρ 38 = .int .i64 0) (h1 : ρ 1 = .int .i64 a) (hg : σ.get ⟨0, 0, 0⟩ = some (bs s)) (hn : 0 < σ.next) :
    ∃ ρ' σ', r = some (.exit 0, ρ', σ') ∧ ρ' 7 = .ptr ⟨0, 0, 0⟩ 0 ∧ σ'.get ⟨0, 0, 0⟩ = some (bs (w.foldl (fun s x => if x.1 = a then x.2 else s) s)) := by
  subst hr
  exact read_loop hf hw w.length 0 (by omega) hl h7 h36 h37 h38 h1 hg hn

theorem shown_len (hK : K.length = n * 64) (hf : Full n w) {a : Nat} (ha : a < n) : (shown K w a).length = 64 := by
  unfold shown
  have key : ∀ (w : W) (s : List UInt8), Full n w → s.length = 64 → (w.foldl (fun s x => if x.1 = a then x.2 else s) s).length = 64 := by
    intro w
    induction w with
    | nil => intro s _ h; exact h
    | cons x w ih =>
      intro s hf h
      refine ih _ (fun y hy => hf y (by simp [hy])) ?_
      show (if x.1 = a then x.2 else s).length = 64
      split
      · exact (hf x (by simp)).2
      · exact h
  exact key w _ hf (secK_len hK ha)

include H in
theorem read_pure {h : Hint} (hK : K.length = n * 64) (hn : n ≤ 65536) (hf : Full n w) (hw : w.length < 2 ^ 62) (a : Int) : pureOf (run (tab hs)) ⟨50, 2, code23, [.tmp 4, .tmp 5], h⟩ [pic K n fw w down armed, .int .i64 a] =
    some (if down then .tup [.isl false [] 0 none, .int .i64 3] else if 0 ≤ a ∧ a < n then .tup [.isl false (bs (shown K w a.toNat)) 64 none, .int .i64 0] else .tup [.isl false [] 0 none, .int .i64 1]) := by
  have hup := fun σ => up_pic (K := K) (n := n) (fw := fw) (w := w) (down := down) (armed := armed) σ H.up
  unfold pic at hup ⊢
  cases down with
  | true => simp (disch := first | omega | (simp only [rkl]; omega)) only [rk1, rk2, rk3, rk4, rk5, Arg.get, ret1, AV.cells, AV.isCell, addOff, minmaxL, Cap.room, Cap.cut, cutI, isSt, resultOf, Function.comp_apply, Function.comp_def, beq_self_eq_true, if_true, if_false, ite_true, ite_false, reduceCtorEq, bne_self_eq_false, Option.some.injEq, Prod.mk.injEq, ↓reduceIte, Nat.reduceEqDiff, Nat.reduceAdd, Nat.reduceMul, Nat.reduceSub, Nat.reduceLeDiff, Nat.reduceLT, Int.reduceLT, Int.reduceLE, Int.reduceEq, Int.reduceAdd, Int.reduceSub, Int.reduceNeg, Int.reduceToNat, List.mapM_cons, List.mapM_nil, Option.pure_def, Option.bind_eq_bind, eq_self, decide_true, decide_false, code23, p23_1, p23_2, p23_3, p23_4, hup]
  | false =>
    by_cases ha : a < 0
    · simp (disch := first | omega | (simp only [rkl]; omega)) only [rk1, rk2, rk3, rk4, rk5, Arg.get, ret1, AV.cells, AV.isCell, addOff, minmaxL, Cap.room, Cap.cut, cutI, isSt, resultOf, Function.comp_apply, Function.comp_def, beq_self_eq_true, if_true, if_false, ite_true, ite_false, reduceCtorEq, bne_self_eq_false, Option.some.injEq, Prod.mk.injEq, ↓reduceIte, Nat.reduceEqDiff, Nat.reduceAdd, Nat.reduceMul, Nat.reduceSub, Nat.reduceLeDiff, Nat.reduceLT, Int.reduceLT, Int.reduceLE, Int.reduceEq, Int.reduceAdd, Int.reduceSub, Int.reduceNeg, Int.reduceToNat, List.mapM_cons, List.mapM_nil, Option.pure_def, Option.bind_eq_bind, eq_self, decide_true, decide_false, code23, p23_1, p23_2, p23_3, p23_4, p23_5, p23_6, hup]
    · obtain ⟨b, rfl⟩ : ∃ b : Nat, a = b := ⟨a.toNat, by omega⟩
      by_cases hb : b < n
      · have hsl := secK_len hK hb
        have hbm : (b + 1) * 64 ≤ n * 64 := Nat.mul_le_mul_right _ hb
        have hep : elemPtr 64 b (.isl true (bs K) n none) = some (.iptr true (bs K) (b * 64)) := elemPtr_isl hb (by simp; omega)
        have hpt : Vm.part true 64 (b * 64) (bs K) = some (.agg (bs (secK K b))) := by rw [part_t (by simp; omega)]; simp [secK]
        have hz : ∀ σ, newCells σ (List.replicate 64 (.int .u8 0)) = some (⟨σ.next, 0, 0⟩, σ.new (List.replicate 64 (.int .u8 0))) := fun σ => newCells_ok (by simp [AV.isCell])
        have hst : ∀ σ : St, storeAt (σ.new (List.replicate 64 (.int .u8 0))) 64 (.ptr ⟨σ.next, 0, 0⟩ 0) (.agg (bs (secK K b))) = some (σ.new (bs (secK K b))) := fun σ => new_store (by simp) (by simp [hsl]) (bs_cell _)
        have hst0 := hst emptySt
        rw [next_empty] at hst0
        simp (disch := first | omega | (simp only [rkl]; omega)) only [rk1, rk2, rk3, rk4, rk5, Arg.get, ret1, AV.cells, AV.isCell, addOff, minmaxL, Cap.room, Cap.cut, cutI, isSt, resultOf, Function.comp_apply, Function.comp_def, beq_self_eq_true, if_true, if_false, ite_true, ite_false, reduceCtorEq, bne_self_eq_false, Option.some.injEq, Prod.mk.injEq, ↓reduceIte, Nat.reduceEqDiff, Nat.reduceAdd, Nat.reduceMul, Nat.reduceSub, Nat.reduceLeDiff, Nat.reduceLT, Int.reduceLT, Int.reduceLE, Int.reduceEq, Int.reduceAdd, Int.reduceSub, Int.reduceNeg, Int.reduceToNat, List.mapM_cons, List.mapM_nil, Option.pure_def, Option.bind_eq_bind, eq_self, decide_true, decide_false, code23, p23_1, p23_2, p23_3, p23_4, p23_5, p23_6, p23_7, p23_8, hup, hep, hpt, hz, hst0]
        generalize hr : run (tab hs) (.loop l23_14) _ _ = r
        obtain ⟨ρ', σ', rfl, k7, kg⟩ := read_out (a := b) (s := secK K b) (fw := fw) hr hf hw hsl (by simp (disch := first | omega | (simp only [rkl]; omega)) only [rk1, rk2, rk3, rk4, rk5, Arg.get, ret1, AV.cells, AV.isCell, addOff, minmaxL, Cap.room, Cap.cut, cutI, isSt, resultOf, Function.comp_apply, Function.comp_def, beq_self_eq_true, if_true, if_false, ite_true, ite_false, reduceCtorEq, bne_self_eq_false, Option.some.injEq, Prod.mk.injEq, ↓reduceIte, Nat.reduceEqDiff, Nat.reduceAdd, Nat.reduceMul, Nat.reduceSub, Nat.reduceLeDiff, Nat.reduceLT, Int.reduceLT, Int.reduceLE, Int.reduceEq, Int.reduceAdd, Int.reduceSub, Int.reduceNeg, Int.reduceToNat, List.mapM_cons, List.mapM_nil, Option.pure_def, Option.bind_eq_bind, eq_self, decide_true, decide_false]) (by simp (disch := first | omega | (simp only [rkl]; omega)) only [rk1, rk2, rk3, rk4, rk5, Arg.get, ret1, AV.cells, AV.isCell, addOff, minmaxL, Cap.room, Cap.cut, cutI, isSt, resultOf, Function.comp_apply, Function.comp_def, beq_self_eq_true, if_true, if_false, ite_true, ite_false, reduceCtorEq, bne_self_eq_false, Option.some.injEq, Prod.mk.injEq, ↓reduceIte, Nat.reduceEqDiff, Nat.reduceAdd, Nat.reduceMul, Nat.reduceSub, Nat.reduceLeDiff, Nat.reduceLT, Int.reduceLT, Int.reduceLE, Int.reduceEq, Int.reduceAdd, Int.reduceSub, Int.reduceNeg, Int.reduceToNat, List.mapM_cons, List.mapM_nil, Option.pure_def, Option.bind_eq_bind, eq_self, decide_true, decide_false]) (by simp (disch := first | omega | (simp only [rkl]; omega)) only [rk1, rk2, rk3, rk4, rk5, Arg.get, ret1, AV.cells, AV.isCell, addOff, minmaxL, Cap.room, Cap.cut, cutI, isSt, resultOf, Function.comp_apply, Function.comp_def, beq_self_eq_true, if_true, if_false, ite_true, ite_false, reduceCtorEq, bne_self_eq_false, Option.some.injEq, Prod.mk.injEq, ↓reduceIte, Nat.reduceEqDiff, Nat.reduceAdd, Nat.reduceMul, Nat.reduceSub, Nat.reduceLeDiff, Nat.reduceLT, Int.reduceLT, Int.reduceLE, Int.reduceEq, Int.reduceAdd, Int.reduceSub, Int.reduceNeg, Int.reduceToNat, List.mapM_cons, List.mapM_nil, Option.pure_def, Option.bind_eq_bind, eq_self, decide_true, decide_false]) (by simp (disch := first | omega | (simp only [rkl]; omega)) only [rk1, rk2, rk3, rk4, rk5, Arg.get, ret1, AV.cells, AV.isCell, addOff, minmaxL, Cap.room, Cap.cut, cutI, isSt, resultOf, Function.comp_apply, Function.comp_def, beq_self_eq_true, if_true, if_false, ite_true, ite_false, reduceCtorEq, bne_self_eq_false, Option.some.injEq, Prod.mk.injEq, ↓reduceIte, Nat.reduceEqDiff, Nat.reduceAdd, Nat.reduceMul, Nat.reduceSub, Nat.reduceLeDiff, Nat.reduceLT, Int.reduceLT, Int.reduceLE, Int.reduceEq, Int.reduceAdd, Int.reduceSub, Int.reduceNeg, Int.reduceToNat, List.mapM_cons, List.mapM_nil, Option.pure_def, Option.bind_eq_bind, eq_self, decide_true, decide_false]) (by simp (disch := first | omega | (simp only [rkl]; omega)) only [rk1, rk2, rk3, rk4, rk5, Arg.get, ret1, AV.cells, AV.isCell, addOff, minmaxL, Cap.room, Cap.cut, cutI, isSt, resultOf, Function.comp_apply, Function.comp_def, beq_self_eq_true, if_true, if_false, ite_true, ite_false, reduceCtorEq, bne_self_eq_false, Option.some.injEq, Prod.mk.injEq, ↓reduceIte, Nat.reduceEqDiff, Nat.reduceAdd, Nat.reduceMul, Nat.reduceSub, Nat.reduceLeDiff, Nat.reduceLT, Int.reduceLT, Int.reduceLE, Int.reduceEq, Int.reduceAdd, Int.reduceSub, Int.reduceNeg, Int.reduceToNat, List.mapM_cons, List.mapM_nil, Option.pure_def, Option.bind_eq_bind, eq_self, decide_true, decide_false]) (by simp (disch := first | omega | (simp only [rkl]; omega)) only [rk1, rk2, rk3, rk4, rk5, Arg.get, ret1, AV.cells, AV.isCell, addOff, minmaxL, Cap.room, Cap.cut, cutI, isSt, resultOf, Function.comp_apply, Function.comp_def, beq_self_eq_true, if_true, if_false, ite_true, ite_false, reduceCtorEq, bne_self_eq_false, Option.some.injEq, Prod.mk.injEq, ↓reduceIte, Nat.reduceEqDiff, Nat.reduceAdd, Nat.reduceMul, Nat.reduceSub, Nat.reduceLeDiff, Nat.reduceLT, Int.reduceLT, Int.reduceLE, Int.reduceEq, Int.reduceAdd, Int.reduceSub, Int.reduceNeg, Int.reduceToNat, List.mapM_cons, List.mapM_nil, Option.pure_def, Option.bind_eq_bind, eq_self, decide_true, decide_false]) (by simp (disch := first | omega | (simp only [rkl]; omega)) only [rk1, rk2, rk3, rk4, rk5, Arg.get, ret1, AV.cells, AV.isCell, addOff, minmaxL, Cap.room, Cap.cut, cutI, isSt, resultOf, Function.comp_apply, Function.comp_def, beq_self_eq_true, if_true, if_false, ite_true, ite_false, reduceCtorEq, bne_self_eq_false, Option.some.injEq, Prod.mk.injEq, ↓reduceIte, Nat.reduceEqDiff, Nat.reduceAdd, Nat.reduceMul, Nat.reduceSub, Nat.reduceLeDiff, Nat.reduceLT, Int.reduceLT, Int.reduceLE, Int.reduceEq, Int.reduceAdd, Int.reduceSub, Int.reduceNeg, Int.reduceToNat, List.mapM_cons, List.mapM_nil, Option.pure_def, Option.bind_eq_bind, eq_self, decide_true, decide_false])
        have hsh := shown_len hK hf hb
        unfold shown at hsh
        have hsa := fun ρ => slArr_all (n := 64) (sz := 1) (off := 0) (ρ := ρ) kg (by simp [hsh])
        have htk : ∀ l : List UInt8, l.length = 64 → List.take 64 (bs l) = bs l := fun l hl => List.take_of_length_le (by simp [hl])
        simp (disch := first | omega | (simp only [rkl]; omega)) only [rk1, rk2, rk3, rk4, rk5, Arg.get, ret1, AV.cells, AV.isCell, addOff, minmaxL, Cap.room, Cap.cut, cutI, isSt, resultOf, Function.comp_apply, Function.comp_def, beq_self_eq_true, if_true, if_false, ite_true, ite_false, reduceCtorEq, bne_self_eq_false, Option.some.injEq, Prod.mk.injEq, ↓reduceIte, Nat.reduceEqDiff, Nat.reduceAdd, Nat.reduceMul, Nat.reduceSub, Nat.reduceLeDiff, Nat.reduceLT, Int.reduceLT, Int.reduceLE, Int.reduceEq, Int.reduceAdd, Int.reduceSub, Int.reduceNeg, Int.reduceToNat, List.mapM_cons, List.mapM_nil, Option.pure_def, Option.bind_eq_bind, eq_self, decide_true, decide_false, p23_15, k7, kg, hsa, htk _ hsh, hsh, bs_len, frz_bs, shown]
      · simp (disch := first | omega | (simp only [rkl]; omega)) only [rk1, rk2, rk3, rk4, rk5, Arg.get, ret1, AV.cells, AV.isCell, addOff, minmaxL, Cap.room, Cap.cut, cutI, isSt, resultOf, Function.comp_apply, Function.comp_def, beq_self_eq_true, if_true, if_false, ite_true, ite_false, reduceCtorEq, bne_self_eq_false, Option.some.injEq, Prod.mk.injEq, ↓reduceIte, Nat.reduceEqDiff, Nat.reduceAdd, Nat.reduceMul, Nat.reduceSub, Nat.reduceLeDiff, Nat.reduceLT, Int.reduceLT, Int.reduceLE, Int.reduceEq, Int.reduceAdd, Int.reduceSub, Int.reduceNeg, Int.reduceToNat, List.mapM_cons, List.mapM_nil, Option.pure_def, Option.bind_eq_bind, eq_self, decide_true, decide_false, code23, p23_1, p23_2, p23_3, p23_4, p23_5, p23_6, hup]
end
/-
  THE DISK: calls that turn it.
-/

/-- What is given is no place. -/
def Plain (r : AV) : Prop := ∀ σ b u ok, frz σ b u 7 ok r = some r
theorem plain_int (k : IntKind) (x : Int) : Plain (.int k x) := fun _ _ _ _ => rfl
theorem plain_bool (x : Bool) : Plain (.bool x) := fun _ _ _ _ => rfl

/-- How the cell of the writes stands in a state. -/
inductive WCell (σ1 : St) : AV → W → Prop
  | nil : WCell σ1 .nilsl []
  | sl {i : Vm.Id} {w : W} (h : σ1.get i = some (wc w)) : WCell σ1 (.sl i 0 w.length (.ge w.length) 65) w

section
variable {T : Table} {f : FuncId} {nt np : Nat} {code : C} {res : List RV}

theorem disk_turn (hf : T f = some ⟨nt, np, code, res, .mut [(0, [])] none⟩) {o : Nat} {σ σ1 : St} {n : Nat} {xs ys : List AV} {r : AV} {kid : Vm.Id} {kcap : Cap} {wcell : AV} {K' : List UInt8} {w' : W} {down' : Bool} {armed' : Int}
    (ho : o < σ.next) (hn : n ≤ 65536) (harm : 0 ≤ armed' ∧ armed' ≤ 9223372036854775807)
    (hin : xs.mapM (argIn σ [o]) = some ys) (hrun : bodyOf (run T) ⟨nt, np, code, res, .mut [(0, [])] none⟩ (.ptr ⟨o, 0, 0⟩ 0 :: ys) (σ.only [o]) = some (r, σ1))
    (hc : σ1.get ⟨o, 0, 0⟩ = some [.sl kid 0 n kcap 64, wcell, .bool down', .int .i64 armed'])
    (hk : σ1.get kid = some (bs K')) (hw : WCell σ1 wcell w') (hd : idsNodup (⟨o, 0, 0⟩ :: kid :: (refId wcell).toList) = true) (hK : K'.length = n * 64) (hfull : Full n w') (hr : Plain r) (hne : w' = [] → wcell = .nilsl) :
    ∃ σ', ev T f (.ptr ⟨o, 0, 0⟩ 0 :: xs) σ = some (r, σ') ∧ DiskO σ' o K' n w' down' armed' ∧ Kept σ σ' o := by
  cases hw with
  | nil =>
    obtain ⟨σ', h1, h2, h3⟩ := ev_mut hf ho hin (rs := [.sl (bs K') 0 n kcap 64, .v .nilsl, .v (.bool down'), .v (.int .i64 armed')]) hrun hc
      (by simp [okCell, hk, bs_flt, AV.flt]) (by simpa [refId, List.filterMap] using hd) (hr _ _ _ _) (.sl hk (.v rfl (.v rfl (.v rfl .nil))))
    exact ⟨σ', h1, ⟨⟨_, _, .nil, h2⟩, hK, hfull, hn, harm⟩, h3⟩
  | sl h =>
    obtain ⟨σ', h1, h2, h3⟩ := ev_mut hf ho hin (rs := [.sl (bs K') 0 n kcap 64, .sl (wc w') 0 w'.length (.ge w'.length) 65, .v (.bool down'), .v (.int .i64 armed')]) hrun hc
      (by simp [okCell, hk, h, bs_flt, wc_flt, AV.flt]) (by simpa [refId, List.filterMap] using hd) (hr _ _ _ _) (.sl hk (.sl h (.v rfl (.v rfl .nil))))
    exact ⟨σ', h1, ⟨⟨_, _, .sl _ (fun e => by have := hne e; simp at this), h2⟩, hK, hfull, hn, harm⟩, h3⟩

end

/-- What a body that turns a disk starts from. -/
theorem DiskO.start {σ : St} {o : Nat} {K : List UInt8} {n : Nat} {w : W} {down : Bool} {armed : Int} (D : DiskO σ o K n w down armed) :
    ∃ v kcap wcell, o < σ.next ∧ (σ.only [o]).get ⟨o, 0, 0⟩ = some [.sl ⟨o, 1, v⟩ 0 n kcap 64, wcell, .bool down, .int .i64 armed] ∧ (σ.only [o]).get ⟨o, 1, v⟩ = some (bs K) ∧
      ((wcell = .nilsl ∧ w = []) ∨ (wcell = .sl ⟨o, 2, v⟩ 0 w.length (.ge w.length) 65 ∧ (σ.only [o]).get ⟨o, 2, v⟩ = some (wc w))) := by
  obtain ⟨kcap, Wc, hw, ho⟩ := D.ex
  have ho' := ho.only (O := [o]) (by simp)
  cases hw with
  | nil => exact ⟨σ.ver o, kcap, _, ho.lt, ho'.get, ho'.sl (k := 0) rfl, .inl ⟨rfl, rfl⟩⟩
  | sl => exact ⟨σ.ver o, kcap, _, ho.lt, ho'.get, ho'.sl (k := 0) rfl, .inr ⟨rfl, ho'.sl (k := 1) rfl⟩⟩

/-- No list of writes stands there without a write. -/
theorem DiskO.form {σ : St} {o : Nat} {K : List UInt8} {n : Nat} {w : W} {down : Bool} {armed : Int} (D : DiskO σ o K n w down armed) {c0 wcell : AV} {l : List AV} (hg : (σ.only [o]).get ⟨o, 0, 0⟩ = some (c0 :: wcell :: l)) : w = [] → wcell = .nilsl := by
  intro e
  obtain ⟨kcap, Wc, hw, ho⟩ := D.ex
  have ho' := (ho.only (O := [o]) (by simp)).get
  rw [hg] at ho'
  cases hw with
  | nil =>
    simp only [rcCells, RC.cell, Option.some.injEq, List.cons.injEq] at ho'
    exact ho'.2.1
  | sl _ h => exact absurd e h

section
variable {hs : FuncId → Hint} (H : DiskH hs) {σ : St} {o : Nat} {K : List UInt8} {n : Nat} {w : W} {down : Bool} {armed : Int} (D : DiskO σ o K n w down armed)
include H D

theorem start_ev : ∃ σ', ev (tab hs) 22 [.ptr ⟨o, 0, 0⟩ 0] σ = some (.int .i64 0, σ') ∧ DiskO σ' o K n (if down then [] else w) false 0 ∧ Kept σ σ' o := by
  obtain ⟨v, kcap, wcell, ho, hg, hk, hw⟩ := D.start
  have hwc : ∀ s1 : St, (∀ k, s1.get ⟨o, k + 1, v⟩ = (σ.only [o]).get ⟨o, k + 1, v⟩) → WCell s1 wcell w := by
    intro s1 h1
    rcases hw with ⟨rfl, rfl⟩ | ⟨rfl, hw⟩
    · exact .nil
    · exact .sl (by rw [h1 1, hw])
  have hid : idsNodup (⟨o, 0, 0⟩ :: ⟨o, 1, v⟩ :: (refId wcell).toList) = true := by
    rcases hw with ⟨rfl, rfl⟩ | ⟨rfl, hw⟩ <;> simp [refId, idsNodup]
  cases down with
  | true =>
    refine disk_turn (H.start ▸ tab22 hs) (σ1 := (σ.only [o]).set ⟨o, 0, 0⟩ (some (.cells [.sl ⟨o, 1, v⟩ 0 n kcap 64, .nilsl, .bool false, .int .i64 0]))) (kid := ⟨o, 1, v⟩) (kcap := kcap) (wcell := .nilsl) ho D.few (by simp) (ins_nil _ _) ?_ ?_ ?_ .nil (by simp [refId, idsNodup]) D.len (fun x hx => by simp at hx) (plain_int _ _) (fun _ => rfl)
    · simp (disch := first | omega | (simp only [rkl]; omega)) only [rk1, rk2, rk3, rk4, rk5, Arg.get, ret1, AV.cells, AV.isCell, addOff, minmaxL, Cap.room, Cap.cut, cutI, isSt, resultOf, Function.comp_apply, Function.comp_def, beq_self_eq_true, if_true, if_false, ite_true, ite_false, reduceCtorEq, bne_self_eq_false, Option.some.injEq, Prod.mk.injEq, ↓reduceIte, Nat.reduceEqDiff, Nat.reduceAdd, Nat.reduceMul, Nat.reduceSub, Nat.reduceLeDiff, Nat.reduceLT, Int.reduceLT, Int.reduceLE, Int.reduceEq, Int.reduceAdd, Int.reduceSub, Int.reduceNeg, Int.reduceToNat, List.mapM_cons, List.mapM_nil, Option.pure_def, Option.bind_eq_bind, eq_self, decide_true, decide_false, code22, p22_1, p22_2, p22_3, p22_4, p22_5, p22_6, p22_7, hg]
    · simp
    · simpa using hk
  | false =>
    refine disk_turn (H.start ▸ tab22 hs) (σ1 := (σ.only [o]).set ⟨o, 0, 0⟩ (some (.cells [.sl ⟨o, 1, v⟩ 0 n kcap 64, wcell, .bool false, .int .i64 0]))) (kid := ⟨o, 1, v⟩) (kcap := kcap) (wcell := wcell) ho D.few (by simp) (ins_nil _ _) ?_ ?_ ?_ (hwc _ fun k => by simp) hid D.len D.full (plain_int _ _) (D.form hg)
    · simp (disch := first | omega | (simp only [rkl]; omega)) only [rk1, rk2, rk3, rk4, rk5, Arg.get, ret1, AV.cells, AV.isCell, addOff, minmaxL, Cap.room, Cap.cut, cutI, isSt, resultOf, Function.comp_apply, Function.comp_def, beq_self_eq_true, if_true, if_false, ite_true, ite_false, reduceCtorEq, bne_self_eq_false, Option.some.injEq, Prod.mk.injEq, ↓reduceIte, Nat.reduceEqDiff, Nat.reduceAdd, Nat.reduceMul, Nat.reduceSub, Nat.reduceLeDiff, Nat.reduceLT, Int.reduceLT, Int.reduceLE, Int.reduceEq, Int.reduceAdd, Int.reduceSub, Int.reduceNeg, Int.reduceToNat, List.mapM_cons, List.mapM_nil, Option.pure_def, Option.bind_eq_bind, eq_self, decide_true, decide_false, code22, p22_1, p22_2, p22_3, p22_4, p22_5, p22_6, p22_7, hg]
    · simp
    · simpa using hk

theorem arm_ev (a : Int) (h1 : -9223372036854775808 ≤ a) (h2 : a ≤ 9223372036854775807) : ∃ σ', ev (tab hs) 29 [.ptr ⟨o, 0, 0⟩ 0, .int .i64 a] σ = some (.int .i64 0, σ') ∧ DiskO σ' o K n w down (max a 0) ∧ Kept σ σ' o := by
  obtain ⟨v, kcap, wcell, ho, hg, hk, hw⟩ := D.start
  have hwc : ∀ s1 : St, (∀ k, s1.get ⟨o, k + 1, v⟩ = (σ.only [o]).get ⟨o, k + 1, v⟩) → WCell s1 wcell w := by
    intro s1 h1
    rcases hw with ⟨rfl, rfl⟩ | ⟨rfl, hw⟩
    · exact .nil
    · exact .sl (by rw [h1 1, hw])
  have hid : idsNodup (⟨o, 0, 0⟩ :: ⟨o, 1, v⟩ :: (refId wcell).toList) = true := by
    rcases hw with ⟨rfl, rfl⟩ | ⟨rfl, hw⟩ <;> simp [refId, idsNodup]
  refine disk_turn (H.arm ▸ tab29 hs) (σ1 := (σ.only [o]).set ⟨o, 0, 0⟩ (some (.cells [.sl ⟨o, 1, v⟩ 0 n kcap 64, wcell, .bool down, .int .i64 (max a 0)]))) (kid := ⟨o, 1, v⟩) (kcap := kcap) (wcell := wcell) ho D.few (by omega) (ins_cons rfl (ins_nil _ _)) ?_ ?_ ?_ (hwc _ fun k => by simp) hid D.len D.full (plain_int _ _) (D.form hg)
  · by_cases ha : 0 < a
    · have hm : max a 0 = a := by omega
      have hm2 : ¬ (0 : Int) > a := by omega
      simp (disch := first | omega | (simp only [rkl]; omega)) only [rk1, rk2, rk3, rk4, rk5, Arg.get, ret1, AV.cells, AV.isCell, addOff, minmaxL, Cap.room, Cap.cut, cutI, isSt, resultOf, Function.comp_apply, Function.comp_def, beq_self_eq_true, if_true, if_false, ite_true, ite_false, reduceCtorEq, bne_self_eq_false, Option.some.injEq, Prod.mk.injEq, ↓reduceIte, Nat.reduceEqDiff, Nat.reduceAdd, Nat.reduceMul, Nat.reduceSub, Nat.reduceLeDiff, Nat.reduceLT, Int.reduceLT, Int.reduceLE, Int.reduceEq, Int.reduceAdd, Int.reduceSub, Int.reduceNeg, Int.reduceToNat, List.mapM_cons, List.mapM_nil, Option.pure_def, Option.bind_eq_bind, eq_self, decide_true, decide_false, code29, p29_1, p29_2, p29_3, p29_4, p29_5, hg, hm, hm2]
    · have hm : max a 0 = 0 := by omega
      rcases Int.lt_or_eq_of_le (Int.not_lt.1 ha) with h0 | h0
      · have hm2 : (0 : Int) > a := by omega
        simp (disch := first | omega | (simp only [rkl]; omega)) only [rk1, rk2, rk3, rk4, rk5, Arg.get, ret1, AV.cells, AV.isCell, addOff, minmaxL, Cap.room, Cap.cut, cutI, isSt, resultOf, Function.comp_apply, Function.comp_def, beq_self_eq_true, if_true, if_false, ite_true, ite_false, reduceCtorEq, bne_self_eq_false, Option.some.injEq, Prod.mk.injEq, ↓reduceIte, Nat.reduceEqDiff, Nat.reduceAdd, Nat.reduceMul, Nat.reduceSub, Nat.reduceLeDiff, Nat.reduceLT, Int.reduceLT, Int.reduceLE, Int.reduceEq, Int.reduceAdd, Int.reduceSub, Int.reduceNeg, Int.reduceToNat, List.mapM_cons, List.mapM_nil, Option.pure_def, Option.bind_eq_bind, eq_self, decide_true, decide_false, code29, p29_1, p29_2, p29_3, p29_4, p29_5, hg, hm, hm2]
      · subst h0
        simp (disch := first | omega | (simp only [rkl]; omega)) only [rk1, rk2, rk3, rk4, rk5, Arg.get, ret1, AV.cells, AV.isCell, addOff, minmaxL, Cap.room, Cap.cut, cutI, isSt, resultOf, Function.comp_apply, Function.comp_def, beq_self_eq_true, if_true, if_false, ite_true, ite_false, reduceCtorEq, bne_self_eq_false, Option.some.injEq, Prod.mk.injEq, ↓reduceIte, Nat.reduceEqDiff, Nat.reduceAdd, Nat.reduceMul, Nat.reduceSub, Nat.reduceLeDiff, Nat.reduceLT, Int.reduceLT, Int.reduceLE, Int.reduceEq, Int.reduceAdd, Int.reduceSub, Int.reduceNeg, Int.reduceToNat, List.mapM_cons, List.mapM_nil, Option.pure_def, Option.bind_eq_bind, eq_self, decide_true, decide_false, code29, p29_1, p29_2, p29_3, p29_4, p29_5, hg, hm]
  · simp
  · simpa using hk
end

section
variable {hs : FuncId → Hint} (H : DiskH hs)
include H

theorem new_ev (σ : St) (n : Nat) (h1 : 1 ≤ n) (h2 : n ≤ 65536) : ∃ σ', ev (tab hs) 15 [.int .i64 n] σ = some (.tup [.ptr ⟨σ.next, 0, 0⟩ 0, .int .i64 0], σ') ∧ DiskO σ' σ.next (List.replicate (n * 64) 0) n [] false 0 ∧
    σ'.next = σ.next + 1 ∧ (∀ i, i.o ≠ σ.next → σ'.heap i = σ.heap i) ∧ σ'.ver = σ.ver := by
  have hz : (List.replicate n (List.replicate 64 (AV.int .u8 0))).flatten = bs (List.replicate (n * 64) 0) := by
    rw [List.flatten_replicate_replicate]; simp only [bs, List.map_replicate]; rfl
  have hnc : newCells (σ.only []) (bs (List.replicate (n * 64) 0)) = some (⟨σ.next, 0, 0⟩, (σ.only []).new (bs (List.replicate (n * 64) 0))) := newCells_ok (bs_cell _)
  have hgm : n * 64 ≤ growMax := Nat.le_trans (Nat.mul_le_mul_right 64 h2) (by decide)
  have hnc2 : ∀ (s : St) (i : Vm.Id), newCells s [.sl i 0 n (.ex n) 64, .nilsl, .bool false, .int .i64 0] = some (⟨s.next, 0, 0⟩, s.new [.sl i 0 n (.ex n) 64, .nilsl, .bool false, .int .i64 0]) := fun s i => newCells_ok rfl
  have hfv : ∀ i : Vm.Id, fillV [.nilsl, .nilsl, .bool false, .int .i64 0] [(0, 1, [.sl i 0 n (.ex n) 64])] = some [.sl i 0 n (.ex n) 64, .nilsl, .bool false, .int .i64 0] := fun i => rfl
  obtain ⟨σ', g1, g2, g3, g4, g5⟩ := ev_new (T := tab hs) (H.new ▸ tab15 hs) (σ := σ) (i := ⟨σ.next + 1, 0, 0⟩) (r := .int .i64 0) (r' := .int .i64 0) (args := [.int .i64 n])
    (σ1 := ((σ.only []).new (bs (List.replicate (n * 64) 0))).new [.sl ⟨σ.next, 0, 0⟩ 0 n (.ex n) 64, .nilsl, .bool false, .int .i64 0])
    (cs := [.sl ⟨σ.next, 0, 0⟩ 0 n (.ex n) 64, .nilsl, .bool false, .int .i64 0]) (rs := [.sl (bs (List.replicate (n * 64) 0)) 0 n (.ex n) 64, .v .nilsl, .v (.bool false), .v (.int .i64 0)])
    (by simp) (ins_cons rfl (ins_nil _ _)) (by
      simp (disch := first | omega | (simp only [rkl]; omega)) only [rk1, rk2, rk3, rk4, rk5, Arg.get, ret1, AV.cells, AV.isCell, addOff, minmaxL, Cap.room, Cap.cut, cutI, isSt, resultOf, Function.comp_apply, Function.comp_def, beq_self_eq_true, if_true, if_false, ite_true, ite_false, reduceCtorEq, bne_self_eq_false, Option.some.injEq, Prod.mk.injEq, ↓reduceIte, Nat.reduceEqDiff, Nat.reduceAdd, Nat.reduceMul, Nat.reduceSub, Nat.reduceLeDiff, Nat.reduceLT, Int.reduceLT, Int.reduceLE, Int.reduceEq, Int.reduceAdd, Int.reduceSub, Int.reduceNeg, Int.reduceToNat, List.mapM_cons, List.mapM_nil, Option.pure_def, Option.bind_eq_bind, eq_self, decide_true, decide_false, code15, p15_1, p15_2, p15_3, p15_4, hz, hnc, hgm, hnc2, hfv]) (by simp) (by simp [okCell, bs_flt, AV.flt]) (by simp [refId, idsNodup, List.filterMap]) rfl (.sl (by simp) (.v rfl (.v rfl (.v rfl .nil))))
  exact ⟨σ', g1, ⟨⟨_, _, .nil, g2⟩, by simp, fun x hx => by simp at hx, h2, by simp⟩, g3, g4, g5⟩
end
/-
  THE DISK: Write.
-/

section
variable {hs : FuncId → Hint} (H : DiskH hs)
include H

theorem hit_raw {s : St} {p : Vm.Id} {a b : AV} {down : Bool} {armed : Int} (hg : s.get p = some [a, b, .bool down, .int .i64 armed]) (hA : 0 ≤ armed ∧ armed ≤ 9223372036854775807) :
    ev (tab hs) 69 [.ptr p 0] s = some (.bool (decide (armed = 1)), if armed = 0 then s else s.set p (some (.cells [a, b, .bool (decide (armed = 1)), .int .i64 (armed - 1)]))) := by
  rw [ev_raw (H.hit ▸ tab69 hs)]
  by_cases ha : armed = 0
  · subst ha
    simp (disch := first | omega | (simp only [rkl]; omega)) only [rk1, rk2, rk3, rk4, rk5, Arg.get, ret1, AV.cells, AV.isCell, addOff, minmaxL, Cap.room, Cap.cut, cutI, isSt, resultOf, Function.comp_apply, Function.comp_def, beq_self_eq_true, if_true, if_false, ite_true, ite_false, reduceCtorEq, bne_self_eq_false, Option.some.injEq, Prod.mk.injEq, ↓reduceIte, Nat.reduceEqDiff, Nat.reduceAdd, Nat.reduceMul, Nat.reduceSub, Nat.reduceLeDiff, Nat.reduceLT, Int.reduceLT, Int.reduceLE, Int.reduceEq, Int.reduceAdd, Int.reduceSub, Int.reduceNeg, Int.reduceToNat, List.mapM_cons, List.mapM_nil, Option.pure_def, Option.bind_eq_bind, eq_self, decide_true, decide_false, code69, p69_1, p69_2, p69_3, hg]
  · have he : (armed - 1 = 0) = (armed = 1) := propext (by omega)
    simp (disch := first | omega | (simp only [rkl]; omega)) only [rk1, rk2, rk3, rk4, rk5, Arg.get, ret1, AV.cells, AV.isCell, addOff, minmaxL, Cap.room, Cap.cut, cutI, isSt, resultOf, Function.comp_apply, Function.comp_def, beq_self_eq_true, if_true, if_false, ite_true, ite_false, reduceCtorEq, bne_self_eq_false, Option.some.injEq, Prod.mk.injEq, ↓reduceIte, Nat.reduceEqDiff, Nat.reduceAdd, Nat.reduceMul, Nat.reduceSub, Nat.reduceLeDiff, Nat.reduceLT, Int.reduceLT, Int.reduceLE, Int.reduceEq, Int.reduceAdd, Int.reduceSub, Int.reduceNeg, Int.reduceToNat, List.mapM_cons, List.mapM_nil, Option.pure_def, Option.bind_eq_bind, eq_self, decide_true, decide_false, code69, p69_1, p69_2, p69_3, p69_4, p69_5, p69_6, hg, he]

variable {σ : St} {o : Nat} {K : List UInt8} {n : Nat} {w : W} {down : Bool} {armed : Int} (D : DiskO σ o K n w down armed)
include D
omit H in
theorem DiskO.only : DiskO (σ.only [o]) o K n w down armed := by
  obtain ⟨⟨kcap, Wc, hw, ho⟩, h2, h3, h4, h5⟩ := D
  exact ⟨⟨kcap, Wc, hw, ho.only (by simp)⟩, h2, h3, h4, h5⟩

omit H in
/-- The region that lets a write wait. -/
theorem write_region {v : Nat} {kcap : Cap} {wcell : AV} {s0 : St} (ho : o < s0.next) (hg : s0.get ⟨o, 0, 0⟩ = some [.sl ⟨o, 1, v⟩ 0 n kcap 64, wcell, .bool down, .int .i64 armed])
    (hw : (wcell = .nilsl ∧ w = []) ∨ (wcell = .sl ⟨o, 2, v⟩ 0 w.length (.ge w.length) 65 ∧ s0.get ⟨o, 2, v⟩ = some (wc w))) (hwl : w.length < 2 ^ 36) {a : Nat} {b : List UInt8} {f : Bool} {c : Option Nat} (hb : b.length = 64)
    {ρ : Env} {r} (hr : run (tab hs) (.draw d17_7) ρ s0 = r) (r0 : ρ 0 = .ptr ⟨o, 0, 0⟩ 0) (r1 : ρ 1 = .int .i64 a) (r2 : ρ 2 = .isl f (bs b) 64 c) :
    ∃ ρ' s1, r = some (.normal, ρ', s1) ∧ ρ' 0 = ρ 0 ∧ s0.next ≤ s1.next ∧
      s1.get ⟨o, 0, 0⟩ = some [.sl ⟨o, 1, v⟩ 0 n kcap 64, .sl ⟨s0.next + 1, 0, 0⟩ 0 (w ++ [(a, b)]).length (.ge (w ++ [(a, b)]).length) 65, .bool down, .int .i64 armed] ∧
      s1.get ⟨o, 1, v⟩ = s0.get ⟨o, 1, v⟩ ∧ s1.get ⟨s0.next + 1, 0, 0⟩ = some (wc (w ++ [(a, b)])) := by
  subst hr
  have hb64 : List.take 64 (bs b) = bs b := List.take_of_length_le (by simp [hb])
  have hfl : fillV (.int .i64 0 :: List.replicate 64 (.int .u8 0)) [(0, 1, [.int .i64 a]), (1, 64, bs b)] = some (.int .i64 a :: bs b) := by
    rw [fillV_cons, if_pos (by simp [AV.isCell]), fillV_cons, if_pos (by simp [hb]), fillV_nil]
    simp [hb]
  have hfl2 : fillV (.int .i64 0 :: List.replicate 64 (.int .u8 0)) [(0, 65, .int .i64 a :: bs b)] = some (.int .i64 a :: bs b) := fillV_all (by simp) (by simp [hb]) (by simp [AV.isCell])
  have hnc : ∀ σ, newCells σ (.int .i64 a :: bs b) = some (⟨σ.next, 0, 0⟩, σ.new (.int .i64 a :: bs b)) := fun σ => newCells_ok (by simp [AV.isCell])
  have hw1 : wc [(a, b)] = .int .i64 a :: bs b := by simp [wc]
  have hel : elems (s0.new (.int .i64 a :: bs b)) 65 1 (.sl ⟨s0.next, 0, 0⟩ 0 1 (.ex 1) 65) = some (.int .i64 a :: bs b) := by
    simp [elems, hb, List.take_of_length_le]
  have hlen := wc_len D.full
  have alike : ∀ q, q ∈ strays (tab hs) d17_7 → Vm.Alike (ev (tab hs)) d17_7 ρ s0 q := by
    rw [str_d17_7]
    intro q hq
    obtain rfl : q = (4, 11) := by simpa using hq
    intro op ρi σi σk ρk x h1 h2 h3 h4
    simp only [d17_7, List.getElem?_cons_succ, List.getElem?_cons_zero, Option.some.injEq] at h1
    subst h1
    simp only [d17_7, List.take_succ_cons, List.take_zero, List.map_cons, List.map_nil] at h2 h3
    simp (disch := first | omega | (simp only [rkl]; omega)) only [rk1, rk2, rk3, rk4, rk5, Arg.get, ret1, AV.cells, AV.isCell, addOff, minmaxL, Cap.room, Cap.cut, cutI, isSt, resultOf, Function.comp_apply, Function.comp_def, beq_self_eq_true, if_true, if_false, ite_true, ite_false, reduceCtorEq, bne_self_eq_false, Option.some.injEq, Prod.mk.injEq, ↓reduceIte, Nat.reduceEqDiff, Nat.reduceAdd, Nat.reduceMul, Nat.reduceSub, Nat.reduceLeDiff, Nat.reduceLT, Int.reduceLT, Int.reduceLE, Int.reduceEq, Int.reduceAdd, Int.reduceSub, Int.reduceNeg, Int.reduceToNat, List.mapM_cons, List.mapM_nil, Option.pure_def, Option.bind_eq_bind, eq_self, decide_true, decide_false, r0, r1, r2, hg, hfl, hfl2, hb64, hnc] at h2 h3
    obtain ⟨rfl, rfl⟩ := h2
    obtain ⟨_, rfl⟩ := h3
    simp (disch := first | omega | (simp only [rkl]; omega)) only [rk1, rk2, rk3, rk4, rk5, Arg.get, ret1, AV.cells, AV.isCell, addOff, minmaxL, Cap.room, Cap.cut, cutI, isSt, resultOf, Function.comp_apply, Function.comp_def, beq_self_eq_true, if_true, if_false, ite_true, ite_false, reduceCtorEq, bne_self_eq_false, Option.some.injEq, Prod.mk.injEq, ↓reduceIte, Nat.reduceEqDiff, Nat.reduceAdd, Nat.reduceMul, Nat.reduceSub, Nat.reduceLeDiff, Nat.reduceLT, Int.reduceLT, Int.reduceLE, Int.reduceEq, Int.reduceAdd, Int.reduceSub, Int.reduceNeg, Int.reduceToNat, List.mapM_cons, List.mapM_nil, Option.pure_def, Option.bind_eq_bind, eq_self, decide_true, decide_false, r0, hg] at h4
    simp (disch := first | omega | (simp only [rkl]; omega)) only [rk1, rk2, rk3, rk4, rk5, Arg.get, ret1, AV.cells, AV.isCell, addOff, minmaxL, Cap.room, Cap.cut, cutI, isSt, resultOf, Function.comp_apply, Function.comp_def, beq_self_eq_true, if_true, if_false, ite_true, ite_false, reduceCtorEq, bne_self_eq_false, Option.some.injEq, Prod.mk.injEq, ↓reduceIte, Nat.reduceEqDiff, Nat.reduceAdd, Nat.reduceMul, Nat.reduceSub, Nat.reduceLeDiff, Nat.reduceLT, Int.reduceLT, Int.reduceLE, Int.reduceEq, Int.reduceAdd, Int.reduceSub, Int.reduceNeg, Int.reduceToNat, List.mapM_cons, List.mapM_nil, Option.pure_def, Option.bind_eq_bind, eq_self, decide_true, decide_false, r0, hg]
    exact h4
  rcases hw with ⟨rfl, rfl⟩ | ⟨rfl, hw⟩
  · have hap : ∀ σ, appendTo σ 65 72 1 (.int .i64 a :: bs b) .nilsl = some (.sl ⟨σ.next, 0, 0⟩ 0 1 (.ge 1) 65, σ.new (.int .i64 a :: bs b)) := fun σ => append_nil' (by omega) (by decide) (by simp [AV.isCell])
    have hrun : ∃ r, opsEv (ev (tab hs)) (d17_7.map DOp.op) ρ s0 = some r ∧ r.1 0 = ρ 0 ∧ s0.next ≤ r.2.next ∧
      r.2.get ⟨o, 0, 0⟩ = some [.sl ⟨o, 1, v⟩ 0 n kcap 64, .sl ⟨s0.next + 1, 0, 0⟩ 0 ([] ++ [(a, b)] : W).length (.ge ([] ++ [(a, b)] : W).length) 65, .bool down, .int .i64 armed] ∧
      r.2.get ⟨o, 1, v⟩ = s0.get ⟨o, 1, v⟩ ∧ r.2.get ⟨s0.next + 1, 0, 0⟩ = some (wc ([] ++ [(a, b)])) := by
      simp (disch := first | omega | (simp only [rkl]; omega)) only [rk1, rk2, rk3, rk4, rk5, Arg.get, ret1, AV.cells, AV.isCell, addOff, minmaxL, Cap.room, Cap.cut, cutI, isSt, resultOf, Function.comp_apply, Function.comp_def, beq_self_eq_true, if_true, if_false, ite_true, ite_false, reduceCtorEq, bne_self_eq_false, Option.some.injEq, Prod.mk.injEq, ↓reduceIte, Nat.reduceEqDiff, Nat.reduceAdd, Nat.reduceMul, Nat.reduceSub, Nat.reduceLeDiff, Nat.reduceLT, Int.reduceLT, Int.reduceLE, Int.reduceEq, Int.reduceAdd, Int.reduceSub, Int.reduceNeg, Int.reduceToNat, List.mapM_cons, List.mapM_nil, Option.pure_def, Option.bind_eq_bind, eq_self, decide_true, decide_false, d17_7, r0, r1, r2, hg, hfl, hfl2, hb64, hnc, hap, hel, hw1]
      exact ⟨_, rfl, by simp (disch := first | omega | (simp only [rkl]; omega)) only [rk1, rk2, rk3, rk4, rk5, Arg.get, ret1, AV.cells, AV.isCell, addOff, minmaxL, Cap.room, Cap.cut, cutI, isSt, resultOf, Function.comp_apply, Function.comp_def, beq_self_eq_true, if_true, if_false, ite_true, ite_false, reduceCtorEq, bne_self_eq_false, Option.some.injEq, Prod.mk.injEq, ↓reduceIte, Nat.reduceEqDiff, Nat.reduceAdd, Nat.reduceMul, Nat.reduceSub, Nat.reduceLeDiff, Nat.reduceLT, Int.reduceLT, Int.reduceLE, Int.reduceEq, Int.reduceAdd, Int.reduceSub, Int.reduceNeg, Int.reduceToNat, List.mapM_cons, List.mapM_nil, Option.pure_def, Option.bind_eq_bind, eq_self, decide_true, decide_false, r0], by simp (disch := first | omega | (simp only [rkl]; omega)) only [rk1, rk2, rk3, rk4, rk5, Arg.get, ret1, AV.cells, AV.isCell, addOff, minmaxL, Cap.room, Cap.cut, cutI, isSt, resultOf, Function.comp_apply, Function.comp_def, beq_self_eq_true, if_true, if_false, ite_true, ite_false, reduceCtorEq, bne_self_eq_false, Option.some.injEq, Prod.mk.injEq, ↓reduceIte, Nat.reduceEqDiff, Nat.reduceAdd, Nat.reduceMul, Nat.reduceSub, Nat.reduceLeDiff, Nat.reduceLT, Int.reduceLT, Int.reduceLE, Int.reduceEq, Int.reduceAdd, Int.reduceSub, Int.reduceNeg, Int.reduceToNat, List.mapM_cons, List.mapM_nil, Option.pure_def, Option.bind_eq_bind, eq_self, decide_true, decide_false]; omega, by simp (disch := first | omega | (simp only [rkl]; omega)) only [rk1, rk2, rk3, rk4, rk5, Arg.get, ret1, AV.cells, AV.isCell, addOff, minmaxL, Cap.room, Cap.cut, cutI, isSt, resultOf, Function.comp_apply, Function.comp_def, beq_self_eq_true, if_true, if_false, ite_true, ite_false, reduceCtorEq, bne_self_eq_false, Option.some.injEq, Prod.mk.injEq, ↓reduceIte, Nat.reduceEqDiff, Nat.reduceAdd, Nat.reduceMul, Nat.reduceSub, Nat.reduceLeDiff, Nat.reduceLT, Int.reduceLT, Int.reduceLE, Int.reduceEq, Int.reduceAdd, Int.reduceSub, Int.reduceNeg, Int.reduceToNat, List.mapM_cons, List.mapM_nil, Option.pure_def, Option.bind_eq_bind, eq_self, decide_true, decide_false], by simp (disch := first | omega | (simp only [rkl]; omega)) only [rk1, rk2, rk3, rk4, rk5, Arg.get, ret1, AV.cells, AV.isCell, addOff, minmaxL, Cap.room, Cap.cut, cutI, isSt, resultOf, Function.comp_apply, Function.comp_def, beq_self_eq_true, if_true, if_false, ite_true, ite_false, reduceCtorEq, bne_self_eq_false, Option.some.injEq, Prod.mk.injEq, ↓reduceIte, Nat.reduceEqDiff, Nat.reduceAdd, Nat.reduceMul, Nat.reduceSub, Nat.reduceLeDiff, Nat.reduceLT, Int.reduceLT, Int.reduceLE, Int.reduceEq, Int.reduceAdd, Int.reduceSub, Int.reduceNeg, Int.reduceToNat, List.mapM_cons, List.mapM_nil, Option.pure_def, Option.bind_eq_bind, eq_self, decide_true, decide_false], by simp (disch := first | omega | (simp only [rkl]; omega)) only [rk1, rk2, rk3, rk4, rk5, Arg.get, ret1, AV.cells, AV.isCell, addOff, minmaxL, Cap.room, Cap.cut, cutI, isSt, resultOf, Function.comp_apply, Function.comp_def, beq_self_eq_true, if_true, if_false, ite_true, ite_false, reduceCtorEq, bne_self_eq_false, Option.some.injEq, Prod.mk.injEq, ↓reduceIte, Nat.reduceEqDiff, Nat.reduceAdd, Nat.reduceMul, Nat.reduceSub, Nat.reduceLeDiff, Nat.reduceLT, Int.reduceLT, Int.reduceLE, Int.reduceEq, Int.reduceAdd, Int.reduceSub, Int.reduceNeg, Int.reduceToNat, List.mapM_cons, List.mapM_nil, Option.pure_def, Option.bind_eq_bind, eq_self, decide_true, decide_false]⟩
    obtain ⟨r, e1, e2, e3, e4, e5, e6⟩ := hrun
    exact ⟨r.1, r.2, go_but (okd_d17_7 _) alike e1, e2, e3, e4, e5, e6⟩
  · have hap : appendTo (s0.new (.int .i64 a :: bs b)) 65 72 1 (.int .i64 a :: bs b) (.sl ⟨o, 2, v⟩ 0 w.length (.ge w.length) 65) =
        some (.sl ⟨s0.next + 1, 0, 0⟩ 0 (w.length + 1) (.ge (w.length + 1)) 65, ((s0.new (.int .i64 a :: bs b)).set ⟨o, 2, v⟩ none).new (wc w ++ (.int .i64 a :: bs b))) := by
      have := append_grow (σ := s0.new (.int .i64 a :: bs b)) (sz := 65) (bytes := 72) (n := 1) (len := w.length) (c := w.length) (i := ⟨o, 2, v⟩) (cs := wc w) (xs := .int .i64 a :: bs b) (by simp (disch := first | omega | (simp only [rkl]; omega)) only [rk1, rk2, rk3, rk4, rk5, Arg.get, ret1, AV.cells, AV.isCell, addOff, minmaxL, Cap.room, Cap.cut, cutI, isSt, resultOf, Function.comp_apply, Function.comp_def, beq_self_eq_true, if_true, if_false, ite_true, ite_false, reduceCtorEq, bne_self_eq_false, Option.some.injEq, Prod.mk.injEq, ↓reduceIte, Nat.reduceEqDiff, Nat.reduceAdd, Nat.reduceMul, Nat.reduceSub, Nat.reduceLeDiff, Nat.reduceLT, Int.reduceLT, Int.reduceLE, Int.reduceEq, Int.reduceAdd, Int.reduceSub, Int.reduceNeg, Int.reduceToNat, List.mapM_cons, List.mapM_nil, Option.pure_def, Option.bind_eq_bind, eq_self, decide_true, decide_false, hw]) (by omega) (by omega)
        (by have : lenMax = 2 ^ 46 := rfl; omega) (wc_cell w) (by simp [AV.isCell])
      rw [List.take_of_length_le (by omega)] at this
      exact this
    have hrun : ∃ r, opsEv (ev (tab hs)) (d17_7.map DOp.op) ρ s0 = some r ∧ r.1 0 = ρ 0 ∧ s0.next ≤ r.2.next ∧
      r.2.get ⟨o, 0, 0⟩ = some [.sl ⟨o, 1, v⟩ 0 n kcap 64, .sl ⟨s0.next + 1, 0, 0⟩ 0 (w ++ [(a, b)]).length (.ge (w ++ [(a, b)]).length) 65, .bool down, .int .i64 armed] ∧
      r.2.get ⟨o, 1, v⟩ = s0.get ⟨o, 1, v⟩ ∧ r.2.get ⟨s0.next + 1, 0, 0⟩ = some (wc (w ++ [(a, b)])) := by
      simp (disch := first | omega | (simp only [rkl]; omega)) only [rk1, rk2, rk3, rk4, rk5, Arg.get, ret1, AV.cells, AV.isCell, addOff, minmaxL, Cap.room, Cap.cut, cutI, isSt, resultOf, Function.comp_apply, Function.comp_def, beq_self_eq_true, if_true, if_false, ite_true, ite_false, reduceCtorEq, bne_self_eq_false, Option.some.injEq, Prod.mk.injEq, ↓reduceIte, Nat.reduceEqDiff, Nat.reduceAdd, Nat.reduceMul, Nat.reduceSub, Nat.reduceLeDiff, Nat.reduceLT, Int.reduceLT, Int.reduceLE, Int.reduceEq, Int.reduceAdd, Int.reduceSub, Int.reduceNeg, Int.reduceToNat, List.mapM_cons, List.mapM_nil, Option.pure_def, Option.bind_eq_bind, eq_self, decide_true, decide_false, d17_7, r0, r1, r2, hg, hfl, hfl2, hb64, hnc, hap, hel, hw1, wc_app, List.length_append]
      exact ⟨_, rfl, by simp (disch := first | omega | (simp only [rkl]; omega)) only [rk1, rk2, rk3, rk4, rk5, Arg.get, ret1, AV.cells, AV.isCell, addOff, minmaxL, Cap.room, Cap.cut, cutI, isSt, resultOf, Function.comp_apply, Function.comp_def, beq_self_eq_true, if_true, if_false, ite_true, ite_false, reduceCtorEq, bne_self_eq_false, Option.some.injEq, Prod.mk.injEq, ↓reduceIte, Nat.reduceEqDiff, Nat.reduceAdd, Nat.reduceMul, Nat.reduceSub, Nat.reduceLeDiff, Nat.reduceLT, Int.reduceLT, Int.reduceLE, Int.reduceEq, Int.reduceAdd, Int.reduceSub, Int.reduceNeg, Int.reduceToNat, List.mapM_cons, List.mapM_nil, Option.pure_def, Option.bind_eq_bind, eq_self, decide_true, decide_false, r0], by simp (disch := first | omega | (simp only [rkl]; omega)) only [rk1, rk2, rk3, rk4, rk5, Arg.get, ret1, AV.cells, AV.isCell, addOff, minmaxL, Cap.room, Cap.cut, cutI, isSt, resultOf, Function.comp_apply, Function.comp_def, beq_self_eq_true, if_true, if_false, ite_true, ite_false, reduceCtorEq, bne_self_eq_false, Option.some.injEq, Prod.mk.injEq, ↓reduceIte, Nat.reduceEqDiff, Nat.reduceAdd, Nat.reduceMul, Nat.reduceSub, Nat.reduceLeDiff, Nat.reduceLT, Int.reduceLT, Int.reduceLE, Int.reduceEq, Int.reduceAdd, Int.reduceSub, Int.reduceNeg, Int.reduceToNat, List.mapM_cons, List.mapM_nil, Option.pure_def, Option.bind_eq_bind, eq_self, decide_true, decide_false]; omega, by simp (disch := first | omega | (simp only [rkl]; omega)) only [rk1, rk2, rk3, rk4, rk5, Arg.get, ret1, AV.cells, AV.isCell, addOff, minmaxL, Cap.room, Cap.cut, cutI, isSt, resultOf, Function.comp_apply, Function.comp_def, beq_self_eq_true, if_true, if_false, ite_true, ite_false, reduceCtorEq, bne_self_eq_false, Option.some.injEq, Prod.mk.injEq, ↓reduceIte, Nat.reduceEqDiff, Nat.reduceAdd, Nat.reduceMul, Nat.reduceSub, Nat.reduceLeDiff, Nat.reduceLT, Int.reduceLT, Int.reduceLE, Int.reduceEq, Int.reduceAdd, Int.reduceSub, Int.reduceNeg, Int.reduceToNat, List.mapM_cons, List.mapM_nil, Option.pure_def, Option.bind_eq_bind, eq_self, decide_true, decide_false], by simp (disch := first | omega | (simp only [rkl]; omega)) only [rk1, rk2, rk3, rk4, rk5, Arg.get, ret1, AV.cells, AV.isCell, addOff, minmaxL, Cap.room, Cap.cut, cutI, isSt, resultOf, Function.comp_apply, Function.comp_def, beq_self_eq_true, if_true, if_false, ite_true, ite_false, reduceCtorEq, bne_self_eq_false, Option.some.injEq, Prod.mk.injEq, ↓reduceIte, Nat.reduceEqDiff, Nat.reduceAdd, Nat.reduceMul, Nat.reduceSub, Nat.reduceLeDiff, Nat.reduceLT, Int.reduceLT, Int.reduceLE, Int.reduceEq, Int.reduceAdd, Int.reduceSub, Int.reduceNeg, Int.reduceToNat, List.mapM_cons, List.mapM_nil, Option.pure_def, Option.bind_eq_bind, eq_self, decide_true, decide_false], by simp (disch := first | omega | (simp only [rkl]; omega)) only [rk1, rk2, rk3, rk4, rk5, Arg.get, ret1, AV.cells, AV.isCell, addOff, minmaxL, Cap.room, Cap.cut, cutI, isSt, resultOf, Function.comp_apply, Function.comp_def, beq_self_eq_true, if_true, if_false, ite_true, ite_false, reduceCtorEq, bne_self_eq_false, Option.some.injEq, Prod.mk.injEq, ↓reduceIte, Nat.reduceEqDiff, Nat.reduceAdd, Nat.reduceMul, Nat.reduceSub, Nat.reduceLeDiff, Nat.reduceLT, Int.reduceLT, Int.reduceLE, Int.reduceEq, Int.reduceAdd, Int.reduceSub, Int.reduceNeg, Int.reduceToNat, List.mapM_cons, List.mapM_nil, Option.pure_def, Option.bind_eq_bind, eq_self, decide_true, decide_false]⟩
    obtain ⟨r, e1, e2, e3, e4, e5, e6⟩ := hrun
    exact ⟨r.1, r.2, go_but (okd_d17_7 _) alike e1, e2, e3, e4, e5, e6⟩

/-- Does this call go down? -/
def down2 (down : Bool) (armed : Int) : Bool := if armed = 0 then down else decide (armed = 1)
def armed2 (armed : Int) : Int := if armed = 0 then 0 else armed - 1

theorem write_ev (hwl : w.length < 2 ^ 36) {a : Nat} (ha : a < n) {b : List UInt8} {f : Bool} {c : Option Nat} (hb : b.length = 64) (hdn : down = false) :
    ∃ σ', ev (tab hs) 17 [.ptr ⟨o, 0, 0⟩ 0, .int .i64 a, .isl f (bs b) 64 c] σ = some (.int .i64 (if armed = 1 then 3 else 0), σ') ∧ DiskO σ' o K n (w ++ [(a, b)]) (down2 down armed) (armed2 armed) ∧ Kept σ σ' o := by
  subst hdn
  have hA := D.arm
  have hfull : Full n (w ++ [(a, b)]) := by
    intro x hx
    rcases List.mem_append.1 hx with hx | hx
    · exact D.full x hx
    · simp only [List.mem_singleton] at hx; subst hx; exact ⟨ha, hb⟩
  have hup := up_ev H (D.only)
  obtain ⟨v, kcap, wcell, ho, hg, hk, hw⟩ := D.start
  generalize hs0 : σ.only [o] = s0 at *
  have hnx : s0.next = σ.next := by rw [← hs0]; rfl
  have hreg := fun (ρ : Env) r => write_region (hs := hs) (K := K) (n := n) (w := w) (down := false) (armed := armed) D (v := v) (kcap := kcap) (wcell := wcell) (s0 := s0) (by omega) hg hw hwl (a := a) (f := f) (c := c) hb (ρ := ρ) (r := r)
  have hrun : ∃ s1, bodyOf (run (tab hs)) ⟨45, 3, code17, [.tmp 6], .mut [(0, [])] none⟩ [.ptr ⟨o, 0, 0⟩ 0, .int .i64 a, .isl f (bs b) 64 c] s0 = some (.int .i64 (if armed = 1 then 3 else 0), s1) ∧
      s1.get ⟨o, 0, 0⟩ = some [.sl ⟨o, 1, v⟩ 0 n kcap 64, .sl ⟨s0.next + 1, 0, 0⟩ 0 (w ++ [(a, b)]).length (.ge (w ++ [(a, b)]).length) 65, .bool (down2 false armed), .int .i64 (armed2 armed)] ∧
      s1.get ⟨o, 1, v⟩ = some (bs K) ∧ s1.get ⟨s0.next + 1, 0, 0⟩ = some (wc (w ++ [(a, b)])) := by
    simp (disch := first | omega | (simp only [rkl]; omega)) only [rk1, rk2, rk3, rk4, rk5, Arg.get, ret1, AV.cells, AV.isCell, addOff, minmaxL, Cap.room, Cap.cut, cutI, isSt, resultOf, Function.comp_apply, Function.comp_def, beq_self_eq_true, if_true, if_false, ite_true, ite_false, reduceCtorEq, bne_self_eq_false, Option.some.injEq, Prod.mk.injEq, ↓reduceIte, Nat.reduceEqDiff, Nat.reduceAdd, Nat.reduceMul, Nat.reduceSub, Nat.reduceLeDiff, Nat.reduceLT, Int.reduceLT, Int.reduceLE, Int.reduceEq, Int.reduceAdd, Int.reduceSub, Int.reduceNeg, Int.reduceToNat, List.mapM_cons, List.mapM_nil, Option.pure_def, Option.bind_eq_bind, eq_self, decide_true, decide_false, code17, p17_1, p17_2, p17_3, p17_4, p17_5, p17_6, hup, hg]
    generalize hr : run (tab hs) (.draw d17_7) _ _ = r
    obtain ⟨ρ', s1, rfl, e1, e2, e3, e4, e5⟩ := hreg _ _ hr (by simp (disch := first | omega | (simp only [rkl]; omega)) only [rk1, rk2, rk3, rk4, rk5, Arg.get, ret1, AV.cells, AV.isCell, addOff, minmaxL, Cap.room, Cap.cut, cutI, isSt, resultOf, Function.comp_apply, Function.comp_def, beq_self_eq_true, if_true, if_false, ite_true, ite_false, reduceCtorEq, bne_self_eq_false, Option.some.injEq, Prod.mk.injEq, ↓reduceIte, Nat.reduceEqDiff, Nat.reduceAdd, Nat.reduceMul, Nat.reduceSub, Nat.reduceLeDiff, Nat.reduceLT, Int.reduceLT, Int.reduceLE, Int.reduceEq, Int.reduceAdd, Int.reduceSub, Int.reduceNeg, Int.reduceToNat, List.mapM_cons, List.mapM_nil, Option.pure_def, Option.bind_eq_bind, eq_self, decide_true, decide_false]) (by simp (disch := first | omega | (simp only [rkl]; omega)) only [rk1, rk2, rk3, rk4, rk5, Arg.get, ret1, AV.cells, AV.isCell, addOff, minmaxL, Cap.room, Cap.cut, cutI, isSt, resultOf, Function.comp_apply, Function.comp_def, beq_self_eq_true, if_true, if_false, ite_true, ite_false, reduceCtorEq, bne_self_eq_false, Option.some.injEq, Prod.mk.injEq, ↓reduceIte, Nat.reduceEqDiff, Nat.reduceAdd, Nat.reduceMul, Nat.reduceSub, Nat.reduceLeDiff, Nat.reduceLT, Int.reduceLT, Int.reduceLE, Int.reduceEq, Int.reduceAdd, Int.reduceSub, Int.reduceNeg, Int.reduceToNat, List.mapM_cons, List.mapM_nil, Option.pure_def, Option.bind_eq_bind, eq_self, decide_true, decide_false]) (by simp (disch := first | omega | (simp only [rkl]; omega)) only [rk1, rk2, rk3, rk4, rk5, Arg.get, ret1, AV.cells, AV.isCell, addOff, minmaxL, Cap.room, Cap.cut, cutI, isSt, resultOf, Function.comp_apply, Function.comp_def, beq_self_eq_true, if_true, if_false, ite_true, ite_false, reduceCtorEq, bne_self_eq_false, Option.some.injEq, Prod.mk.injEq, ↓reduceIte, Nat.reduceEqDiff, Nat.reduceAdd, Nat.reduceMul, Nat.reduceSub, Nat.reduceLeDiff, Nat.reduceLT, Int.reduceLT, Int.reduceLE, Int.reduceEq, Int.reduceAdd, Int.reduceSub, Int.reduceNeg, Int.reduceToNat, List.mapM_cons, List.mapM_nil, Option.pure_def, Option.bind_eq_bind, eq_self, decide_true, decide_false])
    have hhit := hit_raw H e3 hA
    rw [hk] at e4
    have e1' : ρ' 0 = .ptr ⟨o, 0, 0⟩ 0 := by rw [e1]; simp (disch := first | omega | (simp only [rkl]; omega)) only [rk1, rk2, rk3, rk4, rk5, Arg.get, ret1, AV.cells, AV.isCell, addOff, minmaxL, Cap.room, Cap.cut, cutI, isSt, resultOf, Function.comp_apply, Function.comp_def, beq_self_eq_true, if_true, if_false, ite_true, ite_false, reduceCtorEq, bne_self_eq_false, Option.some.injEq, Prod.mk.injEq, ↓reduceIte, Nat.reduceEqDiff, Nat.reduceAdd, Nat.reduceMul, Nat.reduceSub, Nat.reduceLeDiff, Nat.reduceLT, Int.reduceLT, Int.reduceLE, Int.reduceEq, Int.reduceAdd, Int.reduceSub, Int.reduceNeg, Int.reduceToNat, List.mapM_cons, List.mapM_nil, Option.pure_def, Option.bind_eq_bind, eq_self, decide_true, decide_false]
    by_cases h0 : armed = 0
    · subst h0
      simp (disch := first | omega | (simp only [rkl]; omega)) only [rk1, rk2, rk3, rk4, rk5, Arg.get, ret1, AV.cells, AV.isCell, addOff, minmaxL, Cap.room, Cap.cut, cutI, isSt, resultOf, Function.comp_apply, Function.comp_def, beq_self_eq_true, if_true, if_false, ite_true, ite_false, reduceCtorEq, bne_self_eq_false, Option.some.injEq, Prod.mk.injEq, ↓reduceIte, Nat.reduceEqDiff, Nat.reduceAdd, Nat.reduceMul, Nat.reduceSub, Nat.reduceLeDiff, Nat.reduceLT, Int.reduceLT, Int.reduceLE, Int.reduceEq, Int.reduceAdd, Int.reduceSub, Int.reduceNeg, Int.reduceToNat, List.mapM_cons, List.mapM_nil, Option.pure_def, Option.bind_eq_bind, eq_self, decide_true, decide_false, p17_8, p17_9, p17_10, e1', hhit]
      exact ⟨_, rfl, by rw [e3]; rfl, e4, e5⟩
    · have ed : down2 false armed = decide (armed = 1) := by simp [down2, h0]
      have ea : armed2 armed = armed - 1 := by simp [armed2, h0]
      by_cases h1 : armed = 1
      · subst h1
        simp (disch := first | omega | (simp only [rkl]; omega)) only [rk1, rk2, rk3, rk4, rk5, Arg.get, ret1, AV.cells, AV.isCell, addOff, minmaxL, Cap.room, Cap.cut, cutI, isSt, resultOf, Function.comp_apply, Function.comp_def, beq_self_eq_true, if_true, if_false, ite_true, ite_false, reduceCtorEq, bne_self_eq_false, Option.some.injEq, Prod.mk.injEq, ↓reduceIte, Nat.reduceEqDiff, Nat.reduceAdd, Nat.reduceMul, Nat.reduceSub, Nat.reduceLeDiff, Nat.reduceLT, Int.reduceLT, Int.reduceLE, Int.reduceEq, Int.reduceAdd, Int.reduceSub, Int.reduceNeg, Int.reduceToNat, List.mapM_cons, List.mapM_nil, Option.pure_def, Option.bind_eq_bind, eq_self, decide_true, decide_false, p17_8, p17_9, p17_10, e1', hhit]
        exact ⟨_, rfl, by simp (disch := first | omega | (simp only [rkl]; omega)) only [rk1, rk2, rk3, rk4, rk5, Arg.get, ret1, AV.cells, AV.isCell, addOff, minmaxL, Cap.room, Cap.cut, cutI, isSt, resultOf, Function.comp_apply, Function.comp_def, beq_self_eq_true, if_true, if_false, ite_true, ite_false, reduceCtorEq, bne_self_eq_false, Option.some.injEq, Prod.mk.injEq, ↓reduceIte, Nat.reduceEqDiff, Nat.reduceAdd, Nat.reduceMul, Nat.reduceSub, Nat.reduceLeDiff, Nat.reduceLT, Int.reduceLT, Int.reduceLE, Int.reduceEq, Int.reduceAdd, Int.reduceSub, Int.reduceNeg, Int.reduceToNat, List.mapM_cons, List.mapM_nil, Option.pure_def, Option.bind_eq_bind, eq_self, decide_true, decide_false, ed, ea], by simp (disch := first | omega | (simp only [rkl]; omega)) only [rk1, rk2, rk3, rk4, rk5, Arg.get, ret1, AV.cells, AV.isCell, addOff, minmaxL, Cap.room, Cap.cut, cutI, isSt, resultOf, Function.comp_apply, Function.comp_def, beq_self_eq_true, if_true, if_false, ite_true, ite_false, reduceCtorEq, bne_self_eq_false, Option.some.injEq, Prod.mk.injEq, ↓reduceIte, Nat.reduceEqDiff, Nat.reduceAdd, Nat.reduceMul, Nat.reduceSub, Nat.reduceLeDiff, Nat.reduceLT, Int.reduceLT, Int.reduceLE, Int.reduceEq, Int.reduceAdd, Int.reduceSub, Int.reduceNeg, Int.reduceToNat, List.mapM_cons, List.mapM_nil, Option.pure_def, Option.bind_eq_bind, eq_self, decide_true, decide_false, e4], by simp (disch := first | omega | (simp only [rkl]; omega)) only [rk1, rk2, rk3, rk4, rk5, Arg.get, ret1, AV.cells, AV.isCell, addOff, minmaxL, Cap.room, Cap.cut, cutI, isSt, resultOf, Function.comp_apply, Function.comp_def, beq_self_eq_true, if_true, if_false, ite_true, ite_false, reduceCtorEq, bne_self_eq_false, Option.some.injEq, Prod.mk.injEq, ↓reduceIte, Nat.reduceEqDiff, Nat.reduceAdd, Nat.reduceMul, Nat.reduceSub, Nat.reduceLeDiff, Nat.reduceLT, Int.reduceLT, Int.reduceLE, Int.reduceEq, Int.reduceAdd, Int.reduceSub, Int.reduceNeg, Int.reduceToNat, List.mapM_cons, List.mapM_nil, Option.pure_def, Option.bind_eq_bind, eq_self, decide_true, decide_false, e5]⟩
      · simp (disch := first | omega | (simp only [rkl]; omega)) only [rk1, rk2, rk3, rk4, rk5, Arg.get, ret1, AV.cells, AV.isCell, addOff, minmaxL, Cap.room, Cap.cut, cutI, isSt, resultOf, Function.comp_apply, Function.comp_def, beq_self_eq_true, if_true, if_false, ite_true, ite_false, reduceCtorEq, bne_self_eq_false, Option.some.injEq, Prod.mk.injEq, ↓reduceIte, Nat.reduceEqDiff, Nat.reduceAdd, Nat.reduceMul, Nat.reduceSub, Nat.reduceLeDiff, Nat.reduceLT, Int.reduceLT, Int.reduceLE, Int.reduceEq, Int.reduceAdd, Int.reduceSub, Int.reduceNeg, Int.reduceToNat, List.mapM_cons, List.mapM_nil, Option.pure_def, Option.bind_eq_bind, eq_self, decide_true, decide_false, p17_8, p17_9, p17_10, e1', hhit]
        exact ⟨_, rfl, by simp (disch := first | omega | (simp only [rkl]; omega)) only [rk1, rk2, rk3, rk4, rk5, Arg.get, ret1, AV.cells, AV.isCell, addOff, minmaxL, Cap.room, Cap.cut, cutI, isSt, resultOf, Function.comp_apply, Function.comp_def, beq_self_eq_true, if_true, if_false, ite_true, ite_false, reduceCtorEq, bne_self_eq_false, Option.some.injEq, Prod.mk.injEq, ↓reduceIte, Nat.reduceEqDiff, Nat.reduceAdd, Nat.reduceMul, Nat.reduceSub, Nat.reduceLeDiff, Nat.reduceLT, Int.reduceLT, Int.reduceLE, Int.reduceEq, Int.reduceAdd, Int.reduceSub, Int.reduceNeg, Int.reduceToNat, List.mapM_cons, List.mapM_nil, Option.pure_def, Option.bind_eq_bind, eq_self, decide_true, decide_false, ed, ea], by simp (disch := first | omega | (simp only [rkl]; omega)) only [rk1, rk2, rk3, rk4, rk5, Arg.get, ret1, AV.cells, AV.isCell, addOff, minmaxL, Cap.room, Cap.cut, cutI, isSt, resultOf, Function.comp_apply, Function.comp_def, beq_self_eq_true, if_true, if_false, ite_true, ite_false, reduceCtorEq, bne_self_eq_false, Option.some.injEq, Prod.mk.injEq, ↓reduceIte, Nat.reduceEqDiff, Nat.reduceAdd, Nat.reduceMul, Nat.reduceSub, Nat.reduceLeDiff, Nat.reduceLT, Int.reduceLT, Int.reduceLE, Int.reduceEq, Int.reduceAdd, Int.reduceSub, Int.reduceNeg, Int.reduceToNat, List.mapM_cons, List.mapM_nil, Option.pure_def, Option.bind_eq_bind, eq_self, decide_true, decide_false, e4], by simp (disch := first | omega | (simp only [rkl]; omega)) only [rk1, rk2, rk3, rk4, rk5, Arg.get, ret1, AV.cells, AV.isCell, addOff, minmaxL, Cap.room, Cap.cut, cutI, isSt, resultOf, Function.comp_apply, Function.comp_def, beq_self_eq_true, if_true, if_false, ite_true, ite_false, reduceCtorEq, bne_self_eq_false, Option.some.injEq, Prod.mk.injEq, ↓reduceIte, Nat.reduceEqDiff, Nat.reduceAdd, Nat.reduceMul, Nat.reduceSub, Nat.reduceLeDiff, Nat.reduceLT, Int.reduceLT, Int.reduceLE, Int.reduceEq, Int.reduceAdd, Int.reduceSub, Int.reduceNeg, Int.reduceToNat, List.mapM_cons, List.mapM_nil, Option.pure_def, Option.bind_eq_bind, eq_self, decide_true, decide_false, e5]⟩
  obtain ⟨s1, hb1, hc1, hk1, hw1⟩ := hrun
  subst hs0
  have h2 : 0 ≤ armed2 armed ∧ armed2 armed ≤ 9223372036854775807 := by unfold armed2; split <;> omega
  exact disk_turn (H.write ▸ tab17 hs) ho D.few h2 (ins_cons rfl (ins_cons rfl (ins_nil _ _))) hb1 hc1 hk1 (.sl hw1) (by simp [refId, idsNodup]; omega) D.len hfull (plain_int _ _) (fun e => absurd e (by simp))
end
/-
  THE DISK: Flush.
-/

/-- A sector, written. -/
def putK (K : List UInt8) (a : Nat) (b : List UInt8) : List UInt8 := K.take (a * 64) ++ (b ++ K.drop (a * 64 + b.length))
theorem putK_len {K : List UInt8} {n a : Nat} {b : List UInt8} (hK : K.length = n * 64) (ha : a < n) (hb : b.length ≤ 64) : (putK K a b).length = n * 64 := by
  have : (a + 1) * 64 ≤ n * 64 := Nat.mul_le_mul_right _ ha
  simp only [putK, List.length_append, List.length_take, List.length_drop, hK]
  omega
theorem store_bs {σ : St} {i : Vm.Id} {K b : List UInt8} {a m : Nat} (hg : σ.get i = some (bs K)) (hm : b.length = m) (h : a * 64 + m ≤ K.length) : storeAt σ m (.ptr i (a * 64)) (.agg (bs b)) = some (σ.set i (some (.cells (bs (putK K a b))))) := by
  have hsp : splice (bs K) (a * 64) (bs b) = bs (putK K a b) := by
    simp only [splice, putK, bs_app, bs_take, bs_drop, bs_len]
  simp only [storeAt, AV.cells, bs_len, hm, if_true, Vm.storeCells, hg, bs_cell, and_true]
  rw [if_pos h, hsp]

/-- What is behind the writes' keeping. -/
def keepAll (K : List UInt8) (w : W) : List UInt8 := w.foldl (fun K x => putK K x.1 x.2) K
theorem keepAll_len {n : Nat} : ∀ {w : W} {K : List UInt8}, Full n w → K.length = n * 64 → (keepAll K w).length = n * 64
  | [], K, _, h => h
  | x :: w, K, hf, h => keepAll_len (w := w) (fun y hy => hf y (by simp [hy])) (putK_len h (hf x (by simp)).1 (by rw [(hf x (by simp)).2]; exact Nat.le_refl _))

section
variable {T : Table} {n : Nat} {w : W} {o v : Nat} {kcap : Cap} {wcell : AV} {down : Bool} {armed : Int}

theorem flush_round (hf : Full n w) (hwl : w.length < 2 ^ 36) {i : Nat} {x : Nat × List UInt8} (hx : w[i]? = some x) {ρ : Env} {s : St} {K : List UInt8} (hK : K.length = n * 64) (ho : o < s.next)
    (hg : s.get ⟨o, 0, 0⟩ = some [.sl ⟨o, 1, v⟩ 0 n kcap 64, wcell, .bool down, .int .i64 armed]) (hk : s.get ⟨o, 1, v⟩ = some (bs K)) (hw : s.get ⟨o, 2, v⟩ = some (wc w))
    (r0 : ρ 0 = .ptr ⟨o, 0, 0⟩ 0) (r16 : ρ 16 = .sl ⟨o, 2, v⟩ 0 w.length (.ge w.length) 65) (r17 : ρ 17 = .int .i64 w.length) (r18 : ρ 18 = .int .i64 i) :
    ∃ ρ' s', run T l19_12 ρ s = some (.normal, ρ', s') ∧ ρ' 0 = ρ 0 ∧ ρ' 16 = ρ 16 ∧ ρ' 17 = ρ 17 ∧ ρ' 18 = .int .i64 (i + 1 : Nat) ∧ o < s'.next ∧ s'.get ⟨o, 0, 0⟩ = s.get ⟨o, 0, 0⟩ ∧ s'.get ⟨o, 1, v⟩ = some (bs (putK K x.1 x.2)) ∧ s'.get ⟨o, 2, v⟩ = some (wc w) := by
  have hi : i < w.length := (List.getElem?_eq_some_iff.1 hx).1
  have hx1 := (hf x (List.mem_of_getElem? hx)).1
  have hx2 : x.2.length = 64 := (hf x (List.mem_of_getElem? hx)).2
  have hat := wc_at hf hx
  have hwlen := wc_len hf
  have hm : (i + 1) * 65 ≤ w.length * 65 := Nat.mul_le_mul_right _ hi
  have hpt : Vm.part true 65 (i * 65) (wc w) = some (.agg (.int .i64 x.1 :: bs x.2)) := by rw [part_t (by omega), hat]
  have ht : List.take 64 (bs x.2) = bs x.2 := List.take_of_length_le (by simp [hx2])
  have hkm : (x.1 + 1) * 64 ≤ n * 64 := Nat.mul_le_mul_right _ hx1
  have hst := store_bs (σ := s.new (.int .i64 x.1 :: bs x.2)) (i := ⟨o, 1, v⟩) (K := K) (b := x.2) (a := x.1) (m := 64) (by simp (disch := first | omega | (simp only [rkl]; omega)) only [rk1, rk2, rk3, rk4, rk5, Arg.get, ret1, AV.cells, AV.isCell, addOff, minmaxL, Cap.room, Cap.cut, cutI, isSt, resultOf, Function.comp_apply, Function.comp_def, beq_self_eq_true, if_true, if_false, ite_true, ite_false, reduceCtorEq, bne_self_eq_false, Option.some.injEq, Prod.mk.injEq, ↓reduceIte, Nat.reduceEqDiff, Nat.reduceAdd, Nat.reduceMul, Nat.reduceSub, Nat.reduceLeDiff, Nat.reduceLT, Int.reduceLT, Int.reduceLE, Int.reduceEq, Int.reduceAdd, Int.reduceSub, Int.reduceNeg, Int.reduceToNat, List.mapM_cons, List.mapM_nil, Option.pure_def, Option.bind_eq_bind, eq_self, decide_true, decide_false, hk]) hx2 (by omega)
  have hel : elemPtr 64 x.1 (.sl ⟨o, 1, v⟩ 0 n kcap 64) = some (.ptr ⟨o, 1, v⟩ (x.1 * 64)) := by rw [elemPtr_sl hx1, Nat.zero_add]
  simp (disch := first | omega | (simp only [rkl]; omega)) only [rk1, rk2, rk3, rk4, rk5, Arg.get, ret1, AV.cells, AV.isCell, addOff, minmaxL, Cap.room, Cap.cut, cutI, isSt, resultOf, Function.comp_apply, Function.comp_def, beq_self_eq_true, if_true, if_false, ite_true, ite_false, reduceCtorEq, bne_self_eq_false, Option.some.injEq, Prod.mk.injEq, ↓reduceIte, Nat.reduceEqDiff, Nat.reduceAdd, Nat.reduceMul, Nat.reduceSub, Nat.reduceLeDiff, Nat.reduceLT, Int.reduceLT, Int.reduceLE, Int.reduceEq, Int.reduceAdd, Int.reduceSub, Int.reduceNeg, Int.reduceToNat, List.mapM_cons, List.mapM_nil, Option.pure_def, Option.bind_eq_bind, eq_self, decide_true, decide_false, l19_12, p19_8, p19_9, p19_11, go_d19_10, e19_10, r0, r16, r17, r18, hg, hw, z65_ok, z65_store hx2, hpt, ht, hel, hst]
  exact ⟨_, _, ⟨rfl, rfl⟩, by simp (disch := first | omega | (simp only [rkl]; omega)) only [rk1, rk2, rk3, rk4, rk5, Arg.get, ret1, AV.cells, AV.isCell, addOff, minmaxL, Cap.room, Cap.cut, cutI, isSt, resultOf, Function.comp_apply, Function.comp_def, beq_self_eq_true, if_true, if_false, ite_true, ite_false, reduceCtorEq, bne_self_eq_false, Option.some.injEq, Prod.mk.injEq, ↓reduceIte, Nat.reduceEqDiff, Nat.reduceAdd, Nat.reduceMul, Nat.reduceSub, Nat.reduceLeDiff, Nat.reduceLT, Int.reduceLT, Int.reduceLE, Int.reduceEq, Int.reduceAdd, Int.reduceSub, Int.reduceNeg, Int.reduceToNat, List.mapM_cons, List.mapM_nil, Option.pure_def, Option.bind_eq_bind, eq_self, decide_true, decide_false, r0], by simp (disch := first | omega | (simp only [rkl]; omega)) only [rk1, rk2, rk3, rk4, rk5, Arg.get, ret1, AV.cells, AV.isCell, addOff, minmaxL, Cap.room, Cap.cut, cutI, isSt, resultOf, Function.comp_apply, Function.comp_def, beq_self_eq_true, if_true, if_false, ite_true, ite_false, reduceCtorEq, bne_self_eq_false, Option.some.injEq, Prod.mk.injEq, ↓reduceIte, Nat.reduceEqDiff, Nat.reduceAdd, Nat.reduceMul, Nat.reduceSub, Nat.reduceLeDiff, Nat.reduceLT, Int.reduceLT, Int.reduceLE, Int.reduceEq, Int.reduceAdd, Int.reduceSub, Int.reduceNeg, Int.reduceToNat, List.mapM_cons, List.mapM_nil, Option.pure_def, Option.bind_eq_bind, eq_self, decide_true, decide_false, r16], by simp (disch := first | omega | (simp only [rkl]; omega)) only [rk1, rk2, rk3, rk4, rk5, Arg.get, ret1, AV.cells, AV.isCell, addOff, minmaxL, Cap.room, Cap.cut, cutI, isSt, resultOf, Function.comp_apply, Function.comp_def, beq_self_eq_true, if_true, if_false, ite_true, ite_false, reduceCtorEq, bne_self_eq_false, Option.some.injEq, Prod.mk.injEq, ↓reduceIte, Nat.reduceEqDiff, Nat.reduceAdd, Nat.reduceMul, Nat.reduceSub, Nat.reduceLeDiff, Nat.reduceLT, Int.reduceLT, Int.reduceLE, Int.reduceEq, Int.reduceAdd, Int.reduceSub, Int.reduceNeg, Int.reduceToNat, List.mapM_cons, List.mapM_nil, Option.pure_def, Option.bind_eq_bind, eq_self, decide_true, decide_false, r17], by simp (disch := first | omega | (simp only [rkl]; omega)) only [rk1, rk2, rk3, rk4, rk5, Arg.get, ret1, AV.cells, AV.isCell, addOff, minmaxL, Cap.room, Cap.cut, cutI, isSt, resultOf, Function.comp_apply, Function.comp_def, beq_self_eq_true, if_true, if_false, ite_true, ite_false, reduceCtorEq, bne_self_eq_false, Option.some.injEq, Prod.mk.injEq, ↓reduceIte, Nat.reduceEqDiff, Nat.reduceAdd, Nat.reduceMul, Nat.reduceSub, Nat.reduceLeDiff, Nat.reduceLT, Int.reduceLT, Int.reduceLE, Int.reduceEq, Int.reduceAdd, Int.reduceSub, Int.reduceNeg, Int.reduceToNat, List.mapM_cons, List.mapM_nil, Option.pure_def, Option.bind_eq_bind, eq_self, decide_true, decide_false, Int.natCast_add, Int.cast_ofNat_Int], by simp (disch := first | omega | (simp only [rkl]; omega)) only [rk1, rk2, rk3, rk4, rk5, Arg.get, ret1, AV.cells, AV.isCell, addOff, minmaxL, Cap.room, Cap.cut, cutI, isSt, resultOf, Function.comp_apply, Function.comp_def, beq_self_eq_true, if_true, if_false, ite_true, ite_false, reduceCtorEq, bne_self_eq_false, Option.some.injEq, Prod.mk.injEq, ↓reduceIte, Nat.reduceEqDiff, Nat.reduceAdd, Nat.reduceMul, Nat.reduceSub, Nat.reduceLeDiff, Nat.reduceLT, Int.reduceLT, Int.reduceLE, Int.reduceEq, Int.reduceAdd, Int.reduceSub, Int.reduceNeg, Int.reduceToNat, List.mapM_cons, List.mapM_nil, Option.pure_def, Option.bind_eq_bind, eq_self, decide_true, decide_false]; omega, by simp (disch := first | omega | (simp only [rkl]; omega)) only [rk1, rk2, rk3, rk4, rk5, Arg.get, ret1, AV.cells, AV.isCell, addOff, minmaxL, Cap.room, Cap.cut, cutI, isSt, resultOf, Function.comp_apply, Function.comp_def, beq_self_eq_true, if_true, if_false, ite_true, ite_false, reduceCtorEq, bne_self_eq_false, Option.some.injEq, Prod.mk.injEq, ↓reduceIte, Nat.reduceEqDiff, Nat.reduceAdd, Nat.reduceMul, Nat.reduceSub, Nat.reduceLeDiff, Nat.reduceLT, Int.reduceLT, Int.reduceLE, Int.reduceEq, Int.reduceAdd, Int.reduceSub, Int.reduceNeg, Int.reduceToNat, List.mapM_cons, List.mapM_nil, Option.pure_def, Option.bind_eq_bind, eq_self, decide_true, decide_false, hg], by simp (disch := first | omega | (simp only [rkl]; omega)) only [rk1, rk2, rk3, rk4, rk5, Arg.get, ret1, AV.cells, AV.isCell, addOff, minmaxL, Cap.room, Cap.cut, cutI, isSt, resultOf, Function.comp_apply, Function.comp_def, beq_self_eq_true, if_true, if_false, ite_true, ite_false, reduceCtorEq, bne_self_eq_false, Option.some.injEq, Prod.mk.injEq, ↓reduceIte, Nat.reduceEqDiff, Nat.reduceAdd, Nat.reduceMul, Nat.reduceSub, Nat.reduceLeDiff, Nat.reduceLT, Int.reduceLT, Int.reduceLE, Int.reduceEq, Int.reduceAdd, Int.reduceSub, Int.reduceNeg, Int.reduceToNat, List.mapM_cons, List.mapM_nil, Option.pure_def, Option.bind_eq_bind, eq_self, decide_true, decide_false], by simp (disch := first | omega | (simp only [rkl]; omega)) only [rk1, rk2, rk3, rk4, rk5, Arg.get, ret1, AV.cells, AV.isCell, addOff, minmaxL, Cap.room, Cap.cut, cutI, isSt, resultOf, Function.comp_apply, Function.comp_def, beq_self_eq_true, if_true, if_false, ite_true, ite_false, reduceCtorEq, bne_self_eq_false, Option.some.injEq, Prod.mk.injEq, ↓reduceIte, Nat.reduceEqDiff, Nat.reduceAdd, Nat.reduceMul, Nat.reduceSub, Nat.reduceLeDiff, Nat.reduceLT, Int.reduceLT, Int.reduceLE, Int.reduceEq, Int.reduceAdd, Int.reduceSub, Int.reduceNeg, Int.reduceToNat, List.mapM_cons, List.mapM_nil, Option.pure_def, Option.bind_eq_bind, eq_self, decide_true, decide_false, hw]⟩


theorem flush_loop (hf : Full n w) (hwl : w.length < 2 ^ 36) : ∀ (m i : Nat), i + m = w.length → ∀ {ρ : Env} {s : St} {K : List UInt8}, K.length = n * 64 → o < s.next →
    s.get ⟨o, 0, 0⟩ = some [.sl ⟨o, 1, v⟩ 0 n kcap 64, wcell, .bool down, .int .i64 armed] → s.get ⟨o, 1, v⟩ = some (bs K) → s.get ⟨o, 2, v⟩ = some (wc w) →
    ρ 0 = .ptr ⟨o, 0, 0⟩ 0 → ρ 16 = .sl ⟨o, 2, v⟩ 0 w.length (.ge w.length) 65 → ρ 17 = .int .i64 w.length → ρ 18 = .int .i64 i →
    ∃ ρ' s', run T (.loop l19_12) ρ s = some (.exit 0, ρ', s') ∧ ρ' 0 = ρ 0 ∧ o < s'.next ∧ s'.get ⟨o, 0, 0⟩ = s.get ⟨o, 0, 0⟩ ∧ s'.get ⟨o, 1, v⟩ = some (bs (keepAll K (w.drop i)))
  | 0, i, him, ρ, s, K, hK, ho, hg, hk, hw, r0, r16, r17, r18 => by
    have hi : i = w.length := by omega
    subst hi
    rw [run_loop]
    simp (disch := first | omega | (simp only [rkl]; omega)) only [rk1, rk2, rk3, rk4, rk5, Arg.get, ret1, AV.cells, AV.isCell, addOff, minmaxL, Cap.room, Cap.cut, cutI, isSt, resultOf, Function.comp_apply, Function.comp_def, beq_self_eq_true, if_true, if_false, ite_true, ite_false, reduceCtorEq, bne_self_eq_false, Option.some.injEq, Prod.mk.injEq, ↓reduceIte, Nat.reduceEqDiff, Nat.reduceAdd, Nat.reduceMul, Nat.reduceSub, Nat.reduceLeDiff, Nat.reduceLT, Int.reduceLT, Int.reduceLE, Int.reduceEq, Int.reduceAdd, Int.reduceSub, Int.reduceNeg, Int.reduceToNat, List.mapM_cons, List.mapM_nil, Option.pure_def, Option.bind_eq_bind, eq_self, decide_true, decide_false, l19_12, p19_8, r0, r16, r17, r18]
    exact ⟨_, _, ⟨rfl, rfl⟩, by simp (disch := first | omega | (simp only [rkl]; omega)) only [rk1, rk2, rk3, rk4, rk5, Arg.get, ret1, AV.cells, AV.isCell, addOff, minmaxL, Cap.room, Cap.cut, cutI, isSt, resultOf, Function.comp_apply, Function.comp_def, beq_self_eq_true, if_true, if_false, ite_true, ite_false, reduceCtorEq, bne_self_eq_false, Option.some.injEq, Prod.mk.injEq, ↓reduceIte, Nat.reduceEqDiff, Nat.reduceAdd, Nat.reduceMul, Nat.reduceSub, Nat.reduceLeDiff, Nat.reduceLT, Int.reduceLT, Int.reduceLE, Int.reduceEq, Int.reduceAdd, Int.reduceSub, Int.reduceNeg, Int.reduceToNat, List.mapM_cons, List.mapM_nil, Option.pure_def, Option.bind_eq_bind, eq_self, decide_true, decide_false, r0], ho, rfl, by rw [hk, List.drop_length]; rfl⟩
  | m + 1, i, him, ρ, s, K, hK, ho, hg, hk, hw, r0, r16, r17, r18 => by
    have hi : i < w.length := by omega
    have hx := hf w[i] (List.getElem_mem hi)
    obtain ⟨ρ1, s1, e1, q0, q16, q17, q18, qo, qg, qk, qw⟩ := flush_round (T := T) hf hwl (List.getElem?_eq_getElem hi) hK ho hg hk hw r0 r16 r17 r18
    obtain ⟨ρ2, s2, f1, f0, fo, fg, fk⟩ := flush_loop hf hwl m (i + 1) (by omega) (putK_len hK hx.1 (by omega)) qo (qg.trans hg) qk qw (q0.trans r0) (q16.trans r16) (q17.trans r17) q18
    rw [run_loop, e1]
    refine ⟨ρ2, s2, by simp (disch := first | omega | (simp only [rkl]; omega)) only [rk1, rk2, rk3, rk4, rk5, Arg.get, ret1, AV.cells, AV.isCell, addOff, minmaxL, Cap.room, Cap.cut, cutI, isSt, resultOf, Function.comp_apply, Function.comp_def, beq_self_eq_true, if_true, if_false, ite_true, ite_false, reduceCtorEq, bne_self_eq_false, Option.some.injEq, Prod.mk.injEq, ↓reduceIte, Nat.reduceEqDiff, Nat.reduceAdd, Nat.reduceMul, Nat.reduceSub, Nat.reduceLeDiff, Nat.reduceLT, Int.reduceLT, Int.reduceLE, Int.reduceEq, Int.reduceAdd, Int.reduceSub, Int.reduceNeg, Int.reduceToNat, List.mapM_cons, List.mapM_nil, Option.pure_def, Option.bind_eq_bind, eq_self, decide_true, decide_false]; exact f1, f0.trans q0, fo, fg.trans qg, ?_⟩
    rw [fk, List.drop_eq_getElem_cons hi]; rfl

theorem flush_out {ρ : Env} {s : St} {r} (hr : run T (.loop l19_12) ρ s = r) (hf : Full n w) (hwl : w.length < 2 ^ 36) {K : List UInt8} (hK : K.length = n * 64) (ho : o < s.next)
    (hg : s.get ⟨o, 0, 0⟩ = some [.sl ⟨o, 1, v⟩ 0 n kcap 64, wcell, .bool down, .int .i64 armed]) (hk : s.get ⟨o, 1, v⟩ = some (bs K))
    (hw : (wcell = .nilsl ∧ w = []) ∨ (wcell = .sl ⟨o, 2, v⟩ 0 w.length (.ge w.length) 65 ∧ s.get ⟨o, 2, v⟩ = some (wc w)))
    (r0 : ρ 0 = .ptr ⟨o, 0, 0⟩ 0) (r16 : ρ 16 = wcell) (r17 : ρ 17 = .int .i64 w.length) (r18 : ρ 18 = .int .i64 0) :
    ∃ ρ' s', r = some (.exit 0, ρ', s') ∧ ρ' 0 = .ptr ⟨o, 0, 0⟩ 0 ∧ o < s'.next ∧ s'.get ⟨o, 0, 0⟩ = s.get ⟨o, 0, 0⟩ ∧ s'.get ⟨o, 1, v⟩ = some (bs (keepAll K w)) := by
  subst hr
  rcases hw with ⟨rfl, rfl⟩ | ⟨rfl, hw⟩
  · rw [run_loop]
    simp (disch := first | omega | (simp only [rkl]; omega)) only [rk1, rk2, rk3, rk4, rk5, Arg.get, ret1, AV.cells, AV.isCell, addOff, minmaxL, Cap.room, Cap.cut, cutI, isSt, resultOf, Function.comp_apply, Function.comp_def, beq_self_eq_true, if_true, if_false, ite_true, ite_false, reduceCtorEq, bne_self_eq_false, Option.some.injEq, Prod.mk.injEq, ↓reduceIte, Nat.reduceEqDiff, Nat.reduceAdd, Nat.reduceMul, Nat.reduceSub, Nat.reduceLeDiff, Nat.reduceLT, Int.reduceLT, Int.reduceLE, Int.reduceEq, Int.reduceAdd, Int.reduceSub, Int.reduceNeg, Int.reduceToNat, List.mapM_cons, List.mapM_nil, Option.pure_def, Option.bind_eq_bind, eq_self, decide_true, decide_false, l19_12, p19_8, r0, r16, r17, r18]
    exact ⟨_, _, ⟨rfl, rfl⟩, by simp (disch := first | omega | (simp only [rkl]; omega)) only [rk1, rk2, rk3, rk4, rk5, Arg.get, ret1, AV.cells, AV.isCell, addOff, minmaxL, Cap.room, Cap.cut, cutI, isSt, resultOf, Function.comp_apply, Function.comp_def, beq_self_eq_true, if_true, if_false, ite_true, ite_false, reduceCtorEq, bne_self_eq_false, Option.some.injEq, Prod.mk.injEq, ↓reduceIte, Nat.reduceEqDiff, Nat.reduceAdd, Nat.reduceMul, Nat.reduceSub, Nat.reduceLeDiff, Nat.reduceLT, Int.reduceLT, Int.reduceLE, Int.reduceEq, Int.reduceAdd, Int.reduceSub, Int.reduceNeg, Int.reduceToNat, List.mapM_cons, List.mapM_nil, Option.pure_def, Option.bind_eq_bind, eq_self, decide_true, decide_false, r0], ho, rfl, hk⟩
  · obtain ⟨ρ2, s2, f1, f0, fo, fg, fk⟩ := flush_loop (T := T) hf hwl w.length 0 (by omega) hK ho hg hk hw r0 r16 r17 r18
    exact ⟨ρ2, s2, f1, f0.trans r0, fo, fg, fk⟩
end

section
variable {hs : FuncId → Hint} (H : DiskH hs) {σ : St} {o : Nat} {K : List UInt8} {n : Nat} {w : W} {down : Bool} {armed : Int} (D : DiskO σ o K n w down armed)
include H D

theorem flush_ev (hwl : w.length < 2 ^ 36) (hdn : down = false) :
    ∃ σ', ev (tab hs) 19 [.ptr ⟨o, 0, 0⟩ 0] σ = some (.int .i64 (if armed = 1 then 3 else 0), σ') ∧ DiskO σ' o (if armed = 1 then K else keepAll K w) n (if armed = 1 then w else []) (down2 down armed) (armed2 armed) ∧ Kept σ σ' o := by
  subst hdn
  have hA := D.arm
  have hup := up_ev H (D.only)
  obtain ⟨v, kcap, wcell, ho, hg, hk, hw⟩ := D.start
  have hid : idsNodup (⟨o, 0, 0⟩ :: ⟨o, 1, v⟩ :: (refId wcell).toList) = true := by
    rcases hw with ⟨rfl, rfl⟩ | ⟨rfl, hw⟩ <;> simp [refId, idsNodup]
  have hlen : lenIn (σ.only [o]) .sl wcell = some w.length := by
    rcases hw with ⟨rfl, rfl⟩ | ⟨rfl, hw⟩ <;> rfl
  have hhit := hit_raw H hg hA
  have h2 : 0 ≤ armed2 armed ∧ armed2 armed ≤ 9223372036854775807 := by unfold armed2; split <;> omega
  by_cases h1 : armed = 1
  · subst h1
    refine disk_turn (H.flush ▸ tab19 hs) (σ1 := (σ.only [o]).set ⟨o, 0, 0⟩ (some (.cells [.sl ⟨o, 1, v⟩ 0 n kcap 64, wcell, .bool true, .int .i64 0]))) (kid := ⟨o, 1, v⟩) (kcap := kcap) (wcell := wcell) ho D.few h2 (ins_nil _ _) ?_ ?_ ?_ ?_ hid D.len D.full (plain_int _ _) (D.form hg)
    · simp (disch := first | omega | (simp only [rkl]; omega)) only [rk1, rk2, rk3, rk4, rk5, Arg.get, ret1, AV.cells, AV.isCell, addOff, minmaxL, Cap.room, Cap.cut, cutI, isSt, resultOf, Function.comp_apply, Function.comp_def, beq_self_eq_true, if_true, if_false, ite_true, ite_false, reduceCtorEq, bne_self_eq_false, Option.some.injEq, Prod.mk.injEq, ↓reduceIte, Nat.reduceEqDiff, Nat.reduceAdd, Nat.reduceMul, Nat.reduceSub, Nat.reduceLeDiff, Nat.reduceLT, Int.reduceLT, Int.reduceLE, Int.reduceEq, Int.reduceAdd, Int.reduceSub, Int.reduceNeg, Int.reduceToNat, List.mapM_cons, List.mapM_nil, Option.pure_def, Option.bind_eq_bind, eq_self, decide_true, decide_false, code19, p19_1, p19_2, p19_3, p19_4, p19_5, p19_6, hup, hhit]
    · rw [get_set_same]; rfl
    · rw [get_set, if_neg (by simp)]; exact hk
    · rcases hw with ⟨rfl, rfl⟩ | ⟨rfl, hw⟩
      · exact .nil
      · exact .sl (by rw [get_set, if_neg (by simp)]; exact hw)
  · have hs1 : ∃ s1, (if armed = 0 then σ.only [o] else (σ.only [o]).set ⟨o, 0, 0⟩ (some (.cells [.sl ⟨o, 1, v⟩ 0 n kcap 64, wcell, .bool (decide (armed = 1)), .int .i64 (armed - 1)]))) = s1 ∧
        s1.next = σ.next ∧ s1.get ⟨o, 0, 0⟩ = some [.sl ⟨o, 1, v⟩ 0 n kcap 64, wcell, .bool (down2 false armed), .int .i64 (armed2 armed)] ∧ s1.get ⟨o, 1, v⟩ = some (bs K) ∧
        ((wcell = .nilsl ∧ w = []) ∨ (wcell = .sl ⟨o, 2, v⟩ 0 w.length (.ge w.length) 65 ∧ s1.get ⟨o, 2, v⟩ = some (wc w))) := by
      refine ⟨_, rfl, ?_⟩
      by_cases h0 : armed = 0
      · subst h0
        exact ⟨rfl, hg, hk, hw⟩
      · rw [if_neg h0]
        refine ⟨rfl, ?_, ?_, ?_⟩
        · rw [get_set_same]; simp [down2, armed2, h0]
        · rw [get_set, if_neg (by simp)]; exact hk
        · rw [get_set, if_neg (by simp)]; exact hw
    obtain ⟨s1, hs1, n1, g1, k1, w1⟩ := hs1
    rw [hs1] at hhit
    have hlen1 : lenIn s1 .sl wcell = some w.length := by
      rcases w1 with ⟨rfl, rfl⟩ | ⟨rfl, hw⟩ <;> rfl
    have hrun : ∃ s2, bodyOf (run (tab hs)) ⟨35, 1, code19, [.tmp 2], .mut [(0, [])] none⟩ [.ptr ⟨o, 0, 0⟩ 0] (σ.only [o]) = some (.int .i64 0, s2) ∧
        s2.get ⟨o, 0, 0⟩ = some [.sl ⟨o, 1, v⟩ 0 n kcap 64, .nilsl, .bool (down2 false armed), .int .i64 (armed2 armed)] ∧ s2.get ⟨o, 1, v⟩ = some (bs (keepAll K w)) := by
      have hd1 : decide (armed = 1) = false := by simp [h1]
      simp (disch := first | omega | (simp only [rkl]; omega)) only [rk1, rk2, rk3, rk4, rk5, Arg.get, ret1, AV.cells, AV.isCell, addOff, minmaxL, Cap.room, Cap.cut, cutI, isSt, resultOf, Function.comp_apply, Function.comp_def, beq_self_eq_true, if_true, if_false, ite_true, ite_false, reduceCtorEq, bne_self_eq_false, Option.some.injEq, Prod.mk.injEq, ↓reduceIte, Nat.reduceEqDiff, Nat.reduceAdd, Nat.reduceMul, Nat.reduceSub, Nat.reduceLeDiff, Nat.reduceLT, Int.reduceLT, Int.reduceLE, Int.reduceEq, Int.reduceAdd, Int.reduceSub, Int.reduceNeg, Int.reduceToNat, List.mapM_cons, List.mapM_nil, Option.pure_def, Option.bind_eq_bind, eq_self, decide_true, decide_false, code19, p19_1, p19_2, p19_3, p19_4, p19_5, p19_6, p19_7, hup, hhit, hd1, g1, hlen1]
      generalize hr : run (tab hs) (.loop l19_12) _ _ = r
      obtain ⟨ρ', s2, rfl, q0, qn, qg, qk⟩ := flush_out hr D.full hwl D.len (by omega) g1 k1 w1 (by simp (disch := first | omega | (simp only [rkl]; omega)) only [rk1, rk2, rk3, rk4, rk5, Arg.get, ret1, AV.cells, AV.isCell, addOff, minmaxL, Cap.room, Cap.cut, cutI, isSt, resultOf, Function.comp_apply, Function.comp_def, beq_self_eq_true, if_true, if_false, ite_true, ite_false, reduceCtorEq, bne_self_eq_false, Option.some.injEq, Prod.mk.injEq, ↓reduceIte, Nat.reduceEqDiff, Nat.reduceAdd, Nat.reduceMul, Nat.reduceSub, Nat.reduceLeDiff, Nat.reduceLT, Int.reduceLT, Int.reduceLE, Int.reduceEq, Int.reduceAdd, Int.reduceSub, Int.reduceNeg, Int.reduceToNat, List.mapM_cons, List.mapM_nil, Option.pure_def, Option.bind_eq_bind, eq_self, decide_true, decide_false]) (by simp (disch := first | omega | (simp only [rkl]; omega)) only [rk1, rk2, rk3, rk4, rk5, Arg.get, ret1, AV.cells, AV.isCell, addOff, minmaxL, Cap.room, Cap.cut, cutI, isSt, resultOf, Function.comp_apply, Function.comp_def, beq_self_eq_true, if_true, if_false, ite_true, ite_false, reduceCtorEq, bne_self_eq_false, Option.some.injEq, Prod.mk.injEq, ↓reduceIte, Nat.reduceEqDiff, Nat.reduceAdd, Nat.reduceMul, Nat.reduceSub, Nat.reduceLeDiff, Nat.reduceLT, Int.reduceLT, Int.reduceLE, Int.reduceEq, Int.reduceAdd, Int.reduceSub, Int.reduceNeg, Int.reduceToNat, List.mapM_cons, List.mapM_nil, Option.pure_def, Option.bind_eq_bind, eq_self, decide_true, decide_false]) (by simp (disch := first | omega | (simp only [rkl]; omega)) only [rk1, rk2, rk3, rk4, rk5, Arg.get, ret1, AV.cells, AV.isCell, addOff, minmaxL, Cap.room, Cap.cut, cutI, isSt, resultOf, Function.comp_apply, Function.comp_def, beq_self_eq_true, if_true, if_false, ite_true, ite_false, reduceCtorEq, bne_self_eq_false, Option.some.injEq, Prod.mk.injEq, ↓reduceIte, Nat.reduceEqDiff, Nat.reduceAdd, Nat.reduceMul, Nat.reduceSub, Nat.reduceLeDiff, Nat.reduceLT, Int.reduceLT, Int.reduceLE, Int.reduceEq, Int.reduceAdd, Int.reduceSub, Int.reduceNeg, Int.reduceToNat, List.mapM_cons, List.mapM_nil, Option.pure_def, Option.bind_eq_bind, eq_self, decide_true, decide_false]) (by simp (disch := first | omega | (simp only [rkl]; omega)) only [rk1, rk2, rk3, rk4, rk5, Arg.get, ret1, AV.cells, AV.isCell, addOff, minmaxL, Cap.room, Cap.cut, cutI, isSt, resultOf, Function.comp_apply, Function.comp_def, beq_self_eq_true, if_true, if_false, ite_true, ite_false, reduceCtorEq, bne_self_eq_false, Option.some.injEq, Prod.mk.injEq, ↓reduceIte, Nat.reduceEqDiff, Nat.reduceAdd, Nat.reduceMul, Nat.reduceSub, Nat.reduceLeDiff, Nat.reduceLT, Int.reduceLT, Int.reduceLE, Int.reduceEq, Int.reduceAdd, Int.reduceSub, Int.reduceNeg, Int.reduceToNat, List.mapM_cons, List.mapM_nil, Option.pure_def, Option.bind_eq_bind, eq_self, decide_true, decide_false])
      rw [g1] at qg
      simp (disch := first | omega | (simp only [rkl]; omega)) only [rk1, rk2, rk3, rk4, rk5, Arg.get, ret1, AV.cells, AV.isCell, addOff, minmaxL, Cap.room, Cap.cut, cutI, isSt, resultOf, Function.comp_apply, Function.comp_def, beq_self_eq_true, if_true, if_false, ite_true, ite_false, reduceCtorEq, bne_self_eq_false, Option.some.injEq, Prod.mk.injEq, ↓reduceIte, Nat.reduceEqDiff, Nat.reduceAdd, Nat.reduceMul, Nat.reduceSub, Nat.reduceLeDiff, Nat.reduceLT, Int.reduceLT, Int.reduceLE, Int.reduceEq, Int.reduceAdd, Int.reduceSub, Int.reduceNeg, Int.reduceToNat, List.mapM_cons, List.mapM_nil, Option.pure_def, Option.bind_eq_bind, eq_self, decide_true, decide_false, p19_13, p19_14, q0, qg]
      exact ⟨_, rfl, by simp (disch := first | omega | (simp only [rkl]; omega)) only [rk1, rk2, rk3, rk4, rk5, Arg.get, ret1, AV.cells, AV.isCell, addOff, minmaxL, Cap.room, Cap.cut, cutI, isSt, resultOf, Function.comp_apply, Function.comp_def, beq_self_eq_true, if_true, if_false, ite_true, ite_false, reduceCtorEq, bne_self_eq_false, Option.some.injEq, Prod.mk.injEq, ↓reduceIte, Nat.reduceEqDiff, Nat.reduceAdd, Nat.reduceMul, Nat.reduceSub, Nat.reduceLeDiff, Nat.reduceLT, Int.reduceLT, Int.reduceLE, Int.reduceEq, Int.reduceAdd, Int.reduceSub, Int.reduceNeg, Int.reduceToNat, List.mapM_cons, List.mapM_nil, Option.pure_def, Option.bind_eq_bind, eq_self, decide_true, decide_false], by simp (disch := first | omega | (simp only [rkl]; omega)) only [rk1, rk2, rk3, rk4, rk5, Arg.get, ret1, AV.cells, AV.isCell, addOff, minmaxL, Cap.room, Cap.cut, cutI, isSt, resultOf, Function.comp_apply, Function.comp_def, beq_self_eq_true, if_true, if_false, ite_true, ite_false, reduceCtorEq, bne_self_eq_false, Option.some.injEq, Prod.mk.injEq, ↓reduceIte, Nat.reduceEqDiff, Nat.reduceAdd, Nat.reduceMul, Nat.reduceSub, Nat.reduceLeDiff, Nat.reduceLT, Int.reduceLT, Int.reduceLE, Int.reduceEq, Int.reduceAdd, Int.reduceSub, Int.reduceNeg, Int.reduceToNat, List.mapM_cons, List.mapM_nil, Option.pure_def, Option.bind_eq_bind, eq_self, decide_true, decide_false, qk]⟩
    obtain ⟨s2, b2, g2, k2⟩ := hrun
    rw [if_neg h1, if_neg h1, if_neg h1]
    exact disk_turn (H.flush ▸ tab19 hs) ho D.few h2 (ins_nil _ _) b2 g2 k2 .nil (by simp [refId, idsNodup]) (keepAll_len D.full D.len) (fun x hx => by simp at hx) (plain_int _ _) (fun _ => rfl)
end
/-
  THE DISK: Crash.
-/

def ic (k : List Int) : List AV := k.map fun x => .int .i64 x
@[simp] theorem ic_len (k : List Int) : (ic k).length = k.length := by simp [ic]
theorem ic_get (k : List Int) (i : Nat) : (ic k)[i]? = (k[i]?).map fun x => .int .i64 x := by simp [ic]
def clamp (k : Int) : Nat := (min (max k 0) 64).toNat
/-- How much of the i-th is kept. -/
def much (ks : List Int) (i : Nat) : Nat := match ks[i]? with | some k => clamp k | none => 0
theorem clamp_le (k : Int) : clamp k ≤ 64 := by unfold clamp; omega
theorem much_le (ks : List Int) (i : Nat) : much ks i ≤ 64 := by
  unfold much
  split
  · exact clamp_le _
  · omega

def hitAll (ks : List Int) : Nat → List UInt8 → W → List UInt8
  | _, K, [] => K
  | i, K, x :: w => hitAll ks (i + 1) (putK K x.1 (x.2.take (much ks i))) w
theorem hitAll_len {ks : List Int} {n : Nat} : ∀ {w : W} {K : List UInt8} {i : Nat}, Full n w → K.length = n * 64 → (hitAll ks i K w).length = n * 64
  | [], K, _, _, h => h
  | x :: w, K, i, hf, h => hitAll_len (w := w) (fun y hy => hf y (by simp [hy])) (putK_len h (hf x (by simp)).1 (by have := much_le ks i; simp; omega))

section
variable {T : Table} {n : Nat} {w : W} {o v : Nat} {kcap : Cap} {wcell : AV} {down : Bool} {armed : Int} {ks : List Int} {f : Bool} {c : Option Nat}

theorem crash_round (hf : Full n w) (hwl : w.length < 2 ^ 36) (hks : ks.length < 2 ^ 60) {i : Nat} {x : Nat × List UInt8} (hx : w[i]? = some x) {ρ : Env} {s : St} {K : List UInt8} (hK : K.length = n * 64) (ho : o < s.next)
    (hg : s.get ⟨o, 0, 0⟩ = some [.sl ⟨o, 1, v⟩ 0 n kcap 64, wcell, .bool down, .int .i64 armed]) (hk : s.get ⟨o, 1, v⟩ = some (bs K)) (hw : s.get ⟨o, 2, v⟩ = some (wc w))
    (r0 : ρ 0 = .ptr ⟨o, 0, 0⟩ 0) (r1 : ρ 1 = .isl f (ic ks) ks.length c) (r16 : ρ 16 = .sl ⟨o, 2, v⟩ 0 w.length (.ge w.length) 65) (r17 : ρ 17 = .int .i64 w.length) (r18 : ρ 18 = .int .i64 i) :
    ∃ ρ' s', run T l21_13 ρ s = some (.normal, ρ', s') ∧ ρ' 0 = ρ 0 ∧ ρ' 1 = ρ 1 ∧ ρ' 16 = ρ 16 ∧ ρ' 17 = ρ 17 ∧ ρ' 18 = .int .i64 (i + 1 : Nat) ∧ o < s'.next ∧ s'.get ⟨o, 0, 0⟩ = s.get ⟨o, 0, 0⟩ ∧
      s'.get ⟨o, 1, v⟩ = some (bs (putK K x.1 (x.2.take (much ks i)))) ∧ s'.get ⟨o, 2, v⟩ = some (wc w) := by
  have hi : i < w.length := (List.getElem?_eq_some_iff.1 hx).1
  have hx1 := (hf x (List.mem_of_getElem? hx)).1
  have hx2 : x.2.length = 64 := (hf x (List.mem_of_getElem? hx)).2
  have hat := wc_at hf hx
  have hwlen := wc_len hf
  have hm : (i + 1) * 65 ≤ w.length * 65 := Nat.mul_le_mul_right _ hi
  have hpt : Vm.part true 65 (i * 65) (wc w) = some (.agg (.int .i64 x.1 :: bs x.2)) := by rw [part_t (by omega), hat]
  have hkm : (x.1 + 1) * 64 ≤ n * 64 := Nat.mul_le_mul_right _ hx1
  have hel : elemPtr 64 x.1 (.sl ⟨o, 1, v⟩ 0 n kcap 64) = some (.ptr ⟨o, 1, v⟩ (x.1 * 64)) := by rw [elemPtr_sl hx1, Nat.zero_add]
  have hgk : (s.new (.int .i64 x.1 :: bs x.2)).get ⟨o, 1, v⟩ = some (bs K) := by simp (disch := first | omega | (simp only [rkl]; omega)) only [rk1, rk2, rk3, rk4, rk5, Arg.get, ret1, AV.cells, AV.isCell, addOff, minmaxL, Cap.room, Cap.cut, cutI, isSt, resultOf, Function.comp_apply, Function.comp_def, beq_self_eq_true, if_true, if_false, ite_true, ite_false, reduceCtorEq, bne_self_eq_false, Option.some.injEq, Prod.mk.injEq, ↓reduceIte, Nat.reduceEqDiff, Nat.reduceAdd, Nat.reduceMul, Nat.reduceSub, Nat.reduceLeDiff, Nat.reduceLT, Int.reduceLT, Int.reduceLE, Int.reduceEq, Int.reduceAdd, Int.reduceSub, Int.reduceNeg, Int.reduceToNat, List.mapM_cons, List.mapM_nil, Option.pure_def, Option.bind_eq_bind, eq_self, decide_true, decide_false, hk]
  have hgn : (s.new (.int .i64 x.1 :: bs x.2)).get ⟨s.next, 0, 0⟩ = some (.int .i64 x.1 :: bs x.2) := by simp (disch := first | omega | (simp only [rkl]; omega)) only [rk1, rk2, rk3, rk4, rk5, Arg.get, ret1, AV.cells, AV.isCell, addOff, minmaxL, Cap.room, Cap.cut, cutI, isSt, resultOf, Function.comp_apply, Function.comp_def, beq_self_eq_true, if_true, if_false, ite_true, ite_false, reduceCtorEq, bne_self_eq_false, Option.some.injEq, Prod.mk.injEq, ↓reduceIte, Nat.reduceEqDiff, Nat.reduceAdd, Nat.reduceMul, Nat.reduceSub, Nat.reduceLeDiff, Nat.reduceLT, Int.reduceLT, Int.reduceLE, Int.reduceEq, Int.reduceAdd, Int.reduceSub, Int.reduceNeg, Int.reduceToNat, List.mapM_cons, List.mapM_nil, Option.pure_def, Option.bind_eq_bind, eq_self, decide_true, decide_false]
  have hc1 : ∀ h, cutArr (s.new (.int .i64 x.1 :: bs x.2)) 64 1 0 h 64 (.ptr ⟨o, 1, v⟩ (x.1 * 64)) = some (.sl ⟨o, 1, v⟩ (x.1 * 64) h (.ex 64) 1) := fun h => cut_ptr hgk (by simp; omega)
  have hc2 : ∀ h, cutArr (s.new (.int .i64 x.1 :: bs x.2)) 64 1 0 h 64 (.ptr ⟨s.next, 0, 0⟩ 1) = some (.sl ⟨s.next, 0, 0⟩ 1 h (.ex 64) 1) := fun h => cut_ptr hgn (by simp; omega)
  have hes : ∀ m, m ≤ 64 → elems (s.new (.int .i64 x.1 :: bs x.2)) 1 m (.sl ⟨s.next, 0, 0⟩ 1 m (.ex 64) 1) = some (bs (x.2.take m)) := by
    intro m hm
    simp only [elems, hgn, Option.bind_some]
    rw [if_pos (by simp [hx2]; omega)]
    simp
  have hcp : ∀ m, m ≤ 64 → copyTo (s.new (.int .i64 x.1 :: bs x.2)) m (bs (x.2.take m)) (.sl ⟨o, 1, v⟩ (x.1 * 64) m (.ex 64) 1) = some (.int .i64 m, (s.new (.int .i64 x.1 :: bs x.2)).set ⟨o, 1, v⟩ (some (.cells (bs (putK K x.1 (x.2.take m)))))) := by
    intro m hm
    have := store_bs (σ := s.new (.int .i64 x.1 :: bs x.2)) (i := ⟨o, 1, v⟩) (K := K) (b := x.2.take m) (a := x.1) (m := m) hgk (by simp [hx2]; omega) (by omega)
    simp only [storeAt, AV.cells, bs_len] at this
    rw [if_pos (by simp [hx2]; omega)] at this
    simp only [copyTo, this, Option.map_some]
  by_cases hik : i < ks.length
  · have hge : ks[i]? = some ks[i] := List.getElem?_eq_getElem hik
    have hmu : much ks i = clamp ks[i] := by simp [much, hge]
    have hle := much_le ks i
    have hki : (ic ks)[i]? = some (.int .i64 ks[i]) := by rw [ic_get, hge]; rfl
    have hep : elemPtr 1 i (.isl f (ic ks) ks.length c) = some (.iptr f (ic ks) i) := by rw [elemPtr_isl hik (by simp; omega), Nat.mul_one]
    have hpi : Vm.part false 1 i (ic ks) = some (.int .i64 ks[i]) := by rw [part_one (by simpa using hik), hki]
    have hmm : minmaxL true (.int .i64 ks[i]) [.int .i64 0] = some (.int .i64 (max ks[i] 0)) := by
      simp only [minmaxL, if_true]; congr 2; split <;> omega
    have hmm2 : minmaxL false (.int .i64 (max ks[i] 0)) [.int .i64 64] = some (.int .i64 (much ks i : Nat)) := by
      simp only [minmaxL, if_true]; congr 2; rw [hmu]; unfold clamp; simp only [Bool.false_eq_true, if_false]; split <;> omega
    simp (disch := first | omega | (simp only [rkl]; omega)) only [rk1, rk2, rk3, rk4, rk5, Arg.get, ret1, AV.cells, AV.isCell, addOff, minmaxL, Cap.room, Cap.cut, cutI, isSt, resultOf, Function.comp_apply, Function.comp_def, beq_self_eq_true, if_true, if_false, ite_true, ite_false, reduceCtorEq, bne_self_eq_false, Option.some.injEq, Prod.mk.injEq, ↓reduceIte, Nat.reduceEqDiff, Nat.reduceAdd, Nat.reduceMul, Nat.reduceSub, Nat.reduceLeDiff, Nat.reduceLT, Int.reduceLT, Int.reduceLE, Int.reduceEq, Int.reduceAdd, Int.reduceSub, Int.reduceNeg, Int.reduceToNat, List.mapM_cons, List.mapM_nil, Option.pure_def, Option.bind_eq_bind, eq_self, decide_true, decide_false, l21_13, p21_6, p21_7, p21_8, p21_9, p21_10, p21_12, go_d21_11, e21_11, r0, r1, r16, r17, r18, hg, hw, z65_ok, z65_store hx2, hpt, hel, hep, hpi, hmm, hmm2, hc1, hc2, hes _ hle, hcp _ hle, sliceArr_eq, Nat.min_self]
    exact ⟨_, _, ⟨rfl, rfl⟩, by simp (disch := first | omega | (simp only [rkl]; omega)) only [rk1, rk2, rk3, rk4, rk5, Arg.get, ret1, AV.cells, AV.isCell, addOff, minmaxL, Cap.room, Cap.cut, cutI, isSt, resultOf, Function.comp_apply, Function.comp_def, beq_self_eq_true, if_true, if_false, ite_true, ite_false, reduceCtorEq, bne_self_eq_false, Option.some.injEq, Prod.mk.injEq, ↓reduceIte, Nat.reduceEqDiff, Nat.reduceAdd, Nat.reduceMul, Nat.reduceSub, Nat.reduceLeDiff, Nat.reduceLT, Int.reduceLT, Int.reduceLE, Int.reduceEq, Int.reduceAdd, Int.reduceSub, Int.reduceNeg, Int.reduceToNat, List.mapM_cons, List.mapM_nil, Option.pure_def, Option.bind_eq_bind, eq_self, decide_true, decide_false, r0], by simp (disch := first | omega | (simp only [rkl]; omega)) only [rk1, rk2, rk3, rk4, rk5, Arg.get, ret1, AV.cells, AV.isCell, addOff, minmaxL, Cap.room, Cap.cut, cutI, isSt, resultOf, Function.comp_apply, Function.comp_def, beq_self_eq_true, if_true, if_false, ite_true, ite_false, reduceCtorEq, bne_self_eq_false, Option.some.injEq, Prod.mk.injEq, ↓reduceIte, Nat.reduceEqDiff, Nat.reduceAdd, Nat.reduceMul, Nat.reduceSub, Nat.reduceLeDiff, Nat.reduceLT, Int.reduceLT, Int.reduceLE, Int.reduceEq, Int.reduceAdd, Int.reduceSub, Int.reduceNeg, Int.reduceToNat, List.mapM_cons, List.mapM_nil, Option.pure_def, Option.bind_eq_bind, eq_self, decide_true, decide_false, r1], by simp (disch := first | omega | (simp only [rkl]; omega)) only [rk1, rk2, rk3, rk4, rk5, Arg.get, ret1, AV.cells, AV.isCell, addOff, minmaxL, Cap.room, Cap.cut, cutI, isSt, resultOf, Function.comp_apply, Function.comp_def, beq_self_eq_true, if_true, if_false, ite_true, ite_false, reduceCtorEq, bne_self_eq_false, Option.some.injEq, Prod.mk.injEq, ↓reduceIte, Nat.reduceEqDiff, Nat.reduceAdd, Nat.reduceMul, Nat.reduceSub, Nat.reduceLeDiff, Nat.reduceLT, Int.reduceLT, Int.reduceLE, Int.reduceEq, Int.reduceAdd, Int.reduceSub, Int.reduceNeg, Int.reduceToNat, List.mapM_cons, List.mapM_nil, Option.pure_def, Option.bind_eq_bind, eq_self, decide_true, decide_false, r16], by simp (disch := first | omega | (simp only [rkl]; omega)) only [rk1, rk2, rk3, rk4, rk5, Arg.get, ret1, AV.cells, AV.isCell, addOff, minmaxL, Cap.room, Cap.cut, cutI, isSt, resultOf, Function.comp_apply, Function.comp_def, beq_self_eq_true, if_true, if_false, ite_true, ite_false, reduceCtorEq, bne_self_eq_false, Option.some.injEq, Prod.mk.injEq, ↓reduceIte, Nat.reduceEqDiff, Nat.reduceAdd, Nat.reduceMul, Nat.reduceSub, Nat.reduceLeDiff, Nat.reduceLT, Int.reduceLT, Int.reduceLE, Int.reduceEq, Int.reduceAdd, Int.reduceSub, Int.reduceNeg, Int.reduceToNat, List.mapM_cons, List.mapM_nil, Option.pure_def, Option.bind_eq_bind, eq_self, decide_true, decide_false, r17], by simp (disch := first | omega | (simp only [rkl]; omega)) only [rk1, rk2, rk3, rk4, rk5, Arg.get, ret1, AV.cells, AV.isCell, addOff, minmaxL, Cap.room, Cap.cut, cutI, isSt, resultOf, Function.comp_apply, Function.comp_def, beq_self_eq_true, if_true, if_false, ite_true, ite_false, reduceCtorEq, bne_self_eq_false, Option.some.injEq, Prod.mk.injEq, ↓reduceIte, Nat.reduceEqDiff, Nat.reduceAdd, Nat.reduceMul, Nat.reduceSub, Nat.reduceLeDiff, Nat.reduceLT, Int.reduceLT, Int.reduceLE, Int.reduceEq, Int.reduceAdd, Int.reduceSub, Int.reduceNeg, Int.reduceToNat, List.mapM_cons, List.mapM_nil, Option.pure_def, Option.bind_eq_bind, eq_self, decide_true, decide_false, Int.natCast_add, Int.cast_ofNat_Int], by simp (disch := first | omega | (simp only [rkl]; omega)) only [rk1, rk2, rk3, rk4, rk5, Arg.get, ret1, AV.cells, AV.isCell, addOff, minmaxL, Cap.room, Cap.cut, cutI, isSt, resultOf, Function.comp_apply, Function.comp_def, beq_self_eq_true, if_true, if_false, ite_true, ite_false, reduceCtorEq, bne_self_eq_false, Option.some.injEq, Prod.mk.injEq, ↓reduceIte, Nat.reduceEqDiff, Nat.reduceAdd, Nat.reduceMul, Nat.reduceSub, Nat.reduceLeDiff, Nat.reduceLT, Int.reduceLT, Int.reduceLE, Int.reduceEq, Int.reduceAdd, Int.reduceSub, Int.reduceNeg, Int.reduceToNat, List.mapM_cons, List.mapM_nil, Option.pure_def, Option.bind_eq_bind, eq_self, decide_true, decide_false]; omega, by simp (disch := first | omega | (simp only [rkl]; omega)) only [rk1, rk2, rk3, rk4, rk5, Arg.get, ret1, AV.cells, AV.isCell, addOff, minmaxL, Cap.room, Cap.cut, cutI, isSt, resultOf, Function.comp_apply, Function.comp_def, beq_self_eq_true, if_true, if_false, ite_true, ite_false, reduceCtorEq, bne_self_eq_false, Option.some.injEq, Prod.mk.injEq, ↓reduceIte, Nat.reduceEqDiff, Nat.reduceAdd, Nat.reduceMul, Nat.reduceSub, Nat.reduceLeDiff, Nat.reduceLT, Int.reduceLT, Int.reduceLE, Int.reduceEq, Int.reduceAdd, Int.reduceSub, Int.reduceNeg, Int.reduceToNat, List.mapM_cons, List.mapM_nil, Option.pure_def, Option.bind_eq_bind, eq_self, decide_true, decide_false, hg], by simp (disch := first | omega | (simp only [rkl]; omega)) only [rk1, rk2, rk3, rk4, rk5, Arg.get, ret1, AV.cells, AV.isCell, addOff, minmaxL, Cap.room, Cap.cut, cutI, isSt, resultOf, Function.comp_apply, Function.comp_def, beq_self_eq_true, if_true, if_false, ite_true, ite_false, reduceCtorEq, bne_self_eq_false, Option.some.injEq, Prod.mk.injEq, ↓reduceIte, Nat.reduceEqDiff, Nat.reduceAdd, Nat.reduceMul, Nat.reduceSub, Nat.reduceLeDiff, Nat.reduceLT, Int.reduceLT, Int.reduceLE, Int.reduceEq, Int.reduceAdd, Int.reduceSub, Int.reduceNeg, Int.reduceToNat, List.mapM_cons, List.mapM_nil, Option.pure_def, Option.bind_eq_bind, eq_self, decide_true, decide_false], by simp (disch := first | omega | (simp only [rkl]; omega)) only [rk1, rk2, rk3, rk4, rk5, Arg.get, ret1, AV.cells, AV.isCell, addOff, minmaxL, Cap.room, Cap.cut, cutI, isSt, resultOf, Function.comp_apply, Function.comp_def, beq_self_eq_true, if_true, if_false, ite_true, ite_false, reduceCtorEq, bne_self_eq_false, Option.some.injEq, Prod.mk.injEq, ↓reduceIte, Nat.reduceEqDiff, Nat.reduceAdd, Nat.reduceMul, Nat.reduceSub, Nat.reduceLeDiff, Nat.reduceLT, Int.reduceLT, Int.reduceLE, Int.reduceEq, Int.reduceAdd, Int.reduceSub, Int.reduceNeg, Int.reduceToNat, List.mapM_cons, List.mapM_nil, Option.pure_def, Option.bind_eq_bind, eq_self, decide_true, decide_false, hw]⟩
  · have hmu : much ks i = 0 := by simp [much, List.getElem?_eq_none (Nat.le_of_not_lt hik)]
    have h0 := hes 0 (by omega)
    have h1 := hcp 0 (by omega)
    simp only [List.take_zero] at h0 h1
    simp (disch := first | omega | (simp only [rkl]; omega)) only [rk1, rk2, rk3, rk4, rk5, Arg.get, ret1, AV.cells, AV.isCell, addOff, minmaxL, Cap.room, Cap.cut, cutI, isSt, resultOf, Function.comp_apply, Function.comp_def, beq_self_eq_true, if_true, if_false, ite_true, ite_false, reduceCtorEq, bne_self_eq_false, Option.some.injEq, Prod.mk.injEq, ↓reduceIte, Nat.reduceEqDiff, Nat.reduceAdd, Nat.reduceMul, Nat.reduceSub, Nat.reduceLeDiff, Nat.reduceLT, Int.reduceLT, Int.reduceLE, Int.reduceEq, Int.reduceAdd, Int.reduceSub, Int.reduceNeg, Int.reduceToNat, List.mapM_cons, List.mapM_nil, Option.pure_def, Option.bind_eq_bind, eq_self, decide_true, decide_false, l21_13, p21_6, p21_7, p21_8, p21_9, p21_10, p21_12, go_d21_11, e21_11, r0, r1, r16, r17, r18, hg, hw, z65_ok, z65_store hx2, hpt, hel, hc1, hc2, h0, h1, hmu, sliceArr_eq, Nat.min_self]
    exact ⟨_, _, ⟨rfl, rfl⟩, by simp (disch := first | omega | (simp only [rkl]; omega)) only [rk1, rk2, rk3, rk4, rk5, Arg.get, ret1, AV.cells, AV.isCell, addOff, minmaxL, Cap.room, Cap.cut, cutI, isSt, resultOf, Function.comp_apply, Function.comp_def, beq_self_eq_true, if_true, if_false, ite_true, ite_false, reduceCtorEq, bne_self_eq_false, Option.some.injEq, Prod.mk.injEq, ↓reduceIte, Nat.reduceEqDiff, Nat.reduceAdd, Nat.reduceMul, Nat.reduceSub, Nat.reduceLeDiff, Nat.reduceLT, Int.reduceLT, Int.reduceLE, Int.reduceEq, Int.reduceAdd, Int.reduceSub, Int.reduceNeg, Int.reduceToNat, List.mapM_cons, List.mapM_nil, Option.pure_def, Option.bind_eq_bind, eq_self, decide_true, decide_false, r0], by simp (disch := first | omega | (simp only [rkl]; omega)) only [rk1, rk2, rk3, rk4, rk5, Arg.get, ret1, AV.cells, AV.isCell, addOff, minmaxL, Cap.room, Cap.cut, cutI, isSt, resultOf, Function.comp_apply, Function.comp_def, beq_self_eq_true, if_true, if_false, ite_true, ite_false, reduceCtorEq, bne_self_eq_false, Option.some.injEq, Prod.mk.injEq, ↓reduceIte, Nat.reduceEqDiff, Nat.reduceAdd, Nat.reduceMul, Nat.reduceSub, Nat.reduceLeDiff, Nat.reduceLT, Int.reduceLT, Int.reduceLE, Int.reduceEq, Int.reduceAdd, Int.reduceSub, Int.reduceNeg, Int.reduceToNat, List.mapM_cons, List.mapM_nil, Option.pure_def, Option.bind_eq_bind, eq_self, decide_true, decide_false, r1], by simp (disch := first | omega | (simp only [rkl]; omega)) only [rk1, rk2, rk3, rk4, rk5, Arg.get, ret1, AV.cells, AV.isCell, addOff, minmaxL, Cap.room, Cap.cut, cutI, isSt, resultOf, Function.comp_apply, Function.comp_def, beq_self_eq_true, if_true, if_false, ite_true, ite_false, reduceCtorEq, bne_self_eq_false, Option.some.injEq, Prod.mk.injEq, ↓reduceIte, Nat.reduceEqDiff, Nat.reduceAdd, Nat.reduceMul, Nat.reduceSub, Nat.reduceLeDiff, Nat.reduceLT, Int.reduceLT, Int.reduceLE, Int.reduceEq, Int.reduceAdd, Int.reduceSub, Int.reduceNeg, Int.reduceToNat, List.mapM_cons, List.mapM_nil, Option.pure_def, Option.bind_eq_bind, eq_self, decide_true, decide_false, r16], by simp (disch := first | omega | (simp only [rkl]; omega)) only [rk1, rk2, rk3, rk4, rk5, Arg.get, ret1, AV.cells, AV.isCell, addOff, minmaxL, Cap.room, Cap.cut, cutI, isSt, resultOf, Function.comp_apply, Function.comp_def, beq_self_eq_true, if_true, if_false, ite_true, ite_false, reduceCtorEq, bne_self_eq_false, Option.some.injEq, Prod.mk.injEq, ↓reduceIte, Nat.reduceEqDiff, Nat.reduceAdd, Nat.reduceMul, Nat.reduceSub, Nat.reduceLeDiff, Nat.reduceLT, Int.reduceLT, Int.reduceLE, Int.reduceEq, Int.reduceAdd, Int.reduceSub, Int.reduceNeg, Int.reduceToNat, List.mapM_cons, List.mapM_nil, Option.pure_def, Option.bind_eq_bind, eq_self, decide_true, decide_false, r17], by simp (disch := first | omega | (simp only [rkl]; omega)) only [rk1, rk2, rk3, rk4, rk5, Arg.get, ret1, AV.cells, AV.isCell, addOff, minmaxL, Cap.room, Cap.cut, cutI, isSt, resultOf, Function.comp_apply, Function.comp_def, beq_self_eq_true, if_true, if_false, ite_true, ite_false, reduceCtorEq, bne_self_eq_false, Option.some.injEq, Prod.mk.injEq, ↓reduceIte, Nat.reduceEqDiff, Nat.reduceAdd, Nat.reduceMul, Nat.reduceSub, Nat.reduceLeDiff, Nat.reduceLT, Int.reduceLT, Int.reduceLE, Int.reduceEq, Int.reduceAdd, Int.reduceSub, Int.reduceNeg, Int.reduceToNat, List.mapM_cons, List.mapM_nil, Option.pure_def, Option.bind_eq_bind, eq_self, decide_true, decide_false, Int.natCast_add, Int.cast_ofNat_Int], by simp (disch := first | omega | (simp only [rkl]; omega)) only [rk1, rk2, rk3, rk4, rk5, Arg.get, ret1, AV.cells, AV.isCell, addOff, minmaxL, Cap.room, Cap.cut, cutI, isSt, resultOf, Function.comp_apply, Function.comp_def, beq_self_eq_true, if_true, if_false, ite_true, ite_false, reduceCtorEq, bne_self_eq_false, Option.some.injEq, Prod.mk.injEq, ↓reduceIte, Nat.reduceEqDiff, Nat.reduceAdd, Nat.reduceMul, Nat.reduceSub, Nat.reduceLeDiff, Nat.reduceLT, Int.reduceLT, Int.reduceLE, Int.reduceEq, Int.reduceAdd, Int.reduceSub, Int.reduceNeg, Int.reduceToNat, List.mapM_cons, List.mapM_nil, Option.pure_def, Option.bind_eq_bind, eq_self, decide_true, decide_false]; omega, by simp (disch := first | omega | (simp only [rkl]; omega)) only [rk1, rk2, rk3, rk4, rk5, Arg.get, ret1, AV.cells, AV.isCell, addOff, minmaxL, Cap.room, Cap.cut, cutI, isSt, resultOf, Function.comp_apply, Function.comp_def, beq_self_eq_true, if_true, if_false, ite_true, ite_false, reduceCtorEq, bne_self_eq_false, Option.some.injEq, Prod.mk.injEq, ↓reduceIte, Nat.reduceEqDiff, Nat.reduceAdd, Nat.reduceMul, Nat.reduceSub, Nat.reduceLeDiff, Nat.reduceLT, Int.reduceLT, Int.reduceLE, Int.reduceEq, Int.reduceAdd, Int.reduceSub, Int.reduceNeg, Int.reduceToNat, List.mapM_cons, List.mapM_nil, Option.pure_def, Option.bind_eq_bind, eq_self, decide_true, decide_false, hg], by simp (disch := first | omega | (simp only [rkl]; omega)) only [rk1, rk2, rk3, rk4, rk5, Arg.get, ret1, AV.cells, AV.isCell, addOff, minmaxL, Cap.room, Cap.cut, cutI, isSt, resultOf, Function.comp_apply, Function.comp_def, beq_self_eq_true, if_true, if_false, ite_true, ite_false, reduceCtorEq, bne_self_eq_false, Option.some.injEq, Prod.mk.injEq, ↓reduceIte, Nat.reduceEqDiff, Nat.reduceAdd, Nat.reduceMul, Nat.reduceSub, Nat.reduceLeDiff, Nat.reduceLT, Int.reduceLT, Int.reduceLE, Int.reduceEq, Int.reduceAdd, Int.reduceSub, Int.reduceNeg, Int.reduceToNat, List.mapM_cons, List.mapM_nil, Option.pure_def, Option.bind_eq_bind, eq_self, decide_true, decide_false], by simp (disch := first | omega | (simp only [rkl]; omega)) only [rk1, rk2, rk3, rk4, rk5, Arg.get, ret1, AV.cells, AV.isCell, addOff, minmaxL, Cap.room, Cap.cut, cutI, isSt, resultOf, Function.comp_apply, Function.comp_def, beq_self_eq_true, if_true, if_false, ite_true, ite_false, reduceCtorEq, bne_self_eq_false, Option.some.injEq, Prod.mk.injEq, ↓reduceIte, Nat.reduceEqDiff, Nat.reduceAdd, Nat.reduceMul, Nat.reduceSub, Nat.reduceLeDiff, Nat.reduceLT, Int.reduceLT, Int.reduceLE, Int.reduceEq, Int.reduceAdd, Int.reduceSub, Int.reduceNeg, Int.reduceToNat, List.mapM_cons, List.mapM_nil, Option.pure_def, Option.bind_eq_bind, eq_self, decide_true, decide_false, hw]⟩

theorem crash_loop (hf : Full n w) (hwl : w.length < 2 ^ 36) (hks : ks.length < 2 ^ 60) : ∀ (m i : Nat), i + m = w.length → ∀ {ρ : Env} {s : St} {K : List UInt8}, K.length = n * 64 → o < s.next →
    s.get ⟨o, 0, 0⟩ = some [.sl ⟨o, 1, v⟩ 0 n kcap 64, wcell, .bool down, .int .i64 armed] → s.get ⟨o, 1, v⟩ = some (bs K) → s.get ⟨o, 2, v⟩ = some (wc w) →
    ρ 0 = .ptr ⟨o, 0, 0⟩ 0 → ρ 1 = .isl f (ic ks) ks.length c → ρ 16 = .sl ⟨o, 2, v⟩ 0 w.length (.ge w.length) 65 → ρ 17 = .int .i64 w.length → ρ 18 = .int .i64 i →
    ∃ ρ' s', run T (.loop l21_13) ρ s = some (.exit 0, ρ', s') ∧ ρ' 0 = ρ 0 ∧ o < s'.next ∧ s'.get ⟨o, 0, 0⟩ = s.get ⟨o, 0, 0⟩ ∧ s'.get ⟨o, 1, v⟩ = some (bs (hitAll ks i K (w.drop i)))
  | 0, i, him, ρ, s, K, hK, ho, hg, hk, hw, r0, r1, r16, r17, r18 => by
    have hi : i = w.length := by omega
    subst hi
    rw [run_loop]
    simp (disch := first | omega | (simp only [rkl]; omega)) only [rk1, rk2, rk3, rk4, rk5, Arg.get, ret1, AV.cells, AV.isCell, addOff, minmaxL, Cap.room, Cap.cut, cutI, isSt, resultOf, Function.comp_apply, Function.comp_def, beq_self_eq_true, if_true, if_false, ite_true, ite_false, reduceCtorEq, bne_self_eq_false, Option.some.injEq, Prod.mk.injEq, ↓reduceIte, Nat.reduceEqDiff, Nat.reduceAdd, Nat.reduceMul, Nat.reduceSub, Nat.reduceLeDiff, Nat.reduceLT, Int.reduceLT, Int.reduceLE, Int.reduceEq, Int.reduceAdd, Int.reduceSub, Int.reduceNeg, Int.reduceToNat, List.mapM_cons, List.mapM_nil, Option.pure_def, Option.bind_eq_bind, eq_self, decide_true, decide_false, l21_13, p21_6, r0, r16, r17, r18]
    exact ⟨_, _, ⟨rfl, rfl⟩, by simp (disch := first | omega | (simp only [rkl]; omega)) only [rk1, rk2, rk3, rk4, rk5, Arg.get, ret1, AV.cells, AV.isCell, addOff, minmaxL, Cap.room, Cap.cut, cutI, isSt, resultOf, Function.comp_apply, Function.comp_def, beq_self_eq_true, if_true, if_false, ite_true, ite_false, reduceCtorEq, bne_self_eq_false, Option.some.injEq, Prod.mk.injEq, ↓reduceIte, Nat.reduceEqDiff, Nat.reduceAdd, Nat.reduceMul, Nat.reduceSub, Nat.reduceLeDiff, Nat.reduceLT, Int.reduceLT, Int.reduceLE, Int.reduceEq, Int.reduceAdd, Int.reduceSub, Int.reduceNeg, Int.reduceToNat, List.mapM_cons, List.mapM_nil, Option.pure_def, Option.bind_eq_bind, eq_self, decide_true, decide_false, r0], ho, rfl, by rw [hk, List.drop_length]; rfl⟩
  | m + 1, i, him, ρ, s, K, hK, ho, hg, hk, hw, r0, r1, r16, r17, r18 => by
    have hi : i < w.length := by omega
    have hx := hf w[i] (List.getElem_mem hi)
    have hmu := much_le ks i
    obtain ⟨ρ1, s1, e1, q0, q1, q16, q17, q18, qo, qg, qk, qw⟩ := crash_round (T := T) hf hwl hks (List.getElem?_eq_getElem hi) hK ho hg hk hw r0 r1 r16 r17 r18
    obtain ⟨ρ2, s2, f1, f0, fo, fg, fk⟩ := crash_loop hf hwl hks m (i + 1) (by omega) (putK_len hK hx.1 (by simp; omega)) qo (qg.trans hg) qk qw (q0.trans r0) (q1.trans r1) (q16.trans r16) (q17.trans r17) q18
    rw [run_loop, e1]
    refine ⟨ρ2, s2, by simp (disch := first | omega | (simp only [rkl]; omega)) only [rk1, rk2, rk3, rk4, rk5, Arg.get, ret1, AV.cells, AV.isCell, addOff, minmaxL, Cap.room, Cap.cut, cutI, isSt, resultOf, Function.comp_apply, Function.comp_def, beq_self_eq_true, if_true, if_false, ite_true, ite_false, reduceCtorEq, bne_self_eq_false, Option.some.injEq, Prod.mk.injEq, ↓reduceIte, Nat.reduceEqDiff, Nat.reduceAdd, Nat.reduceMul, Nat.reduceSub, Nat.reduceLeDiff, Nat.reduceLT, Int.reduceLT, Int.reduceLE, Int.reduceEq, Int.reduceAdd, Int.reduceSub, Int.reduceNeg, Int.reduceToNat, List.mapM_cons, List.mapM_nil, Option.pure_def, Option.bind_eq_bind, eq_self, decide_true, decide_false]; exact f1, f0.trans q0, fo, fg.trans qg, ?_⟩
    rw [fk, List.drop_eq_getElem_cons hi]; rfl

theorem crash_out {ρ : Env} {s : St} {r} (hr : run T (.loop l21_13) ρ s = r) (hf : Full n w) (hwl : w.length < 2 ^ 36) (hks : ks.length < 2 ^ 60) {K : List UInt8} (hK : K.length = n * 64) (ho : o < s.next)
    (hg : s.get ⟨o, 0, 0⟩ = some [.sl ⟨o, 1, v⟩ 0 n kcap 64, wcell, .bool down, .int .i64 armed]) (hk : s.get ⟨o, 1, v⟩ = some (bs K))
    (hw : (wcell = .nilsl ∧ w = []) ∨ (wcell = .sl ⟨o, 2, v⟩ 0 w.length (.ge w.length) 65 ∧ s.get ⟨o, 2, v⟩ = some (wc w)))
    (r0 : ρ 0 = .ptr ⟨o, 0, 0⟩ 0) (r1 : ρ 1 = .isl f (ic ks) ks.length c) (r16 : ρ 16 = wcell) (r17 : ρ 17 = .int .i64 w.length) (r18 : ρ 18 = .int .i64 0) :
    ∃ ρ' s', r = some (.exit 0, ρ', s') ∧ ρ' 0 = .ptr ⟨o, 0, 0⟩ 0 ∧ o < s'.next ∧ s'.get ⟨o, 0, 0⟩ = s.get ⟨o, 0, 0⟩ ∧ s'.get ⟨o, 1, v⟩ = some (bs (hitAll ks 0 K w)) := by
  subst hr
  rcases hw with ⟨rfl, rfl⟩ | ⟨rfl, hw⟩
  · rw [run_loop]
    simp (disch := first | omega | (simp only [rkl]; omega)) only [rk1, rk2, rk3, rk4, rk5, Arg.get, ret1, AV.cells, AV.isCell, addOff, minmaxL, Cap.room, Cap.cut, cutI, isSt, resultOf, Function.comp_apply, Function.comp_def, beq_self_eq_true, if_true, if_false, ite_true, ite_false, reduceCtorEq, bne_self_eq_false, Option.some.injEq, Prod.mk.injEq, ↓reduceIte, Nat.reduceEqDiff, Nat.reduceAdd, Nat.reduceMul, Nat.reduceSub, Nat.reduceLeDiff, Nat.reduceLT, Int.reduceLT, Int.reduceLE, Int.reduceEq, Int.reduceAdd, Int.reduceSub, Int.reduceNeg, Int.reduceToNat, List.mapM_cons, List.mapM_nil, Option.pure_def, Option.bind_eq_bind, eq_self, decide_true, decide_false, l21_13, p21_6, r0, r16, r17, r18]
    exact ⟨_, _, ⟨rfl, rfl⟩, by simp (disch := first | omega | (simp only [rkl]; omega)) only [rk1, rk2, rk3, rk4, rk5, Arg.get, ret1, AV.cells, AV.isCell, addOff, minmaxL, Cap.room, Cap.cut, cutI, isSt, resultOf, Function.comp_apply, Function.comp_def, beq_self_eq_true, if_true, if_false, ite_true, ite_false, reduceCtorEq, bne_self_eq_false, Option.some.injEq, Prod.mk.injEq, ↓reduceIte, Nat.reduceEqDiff, Nat.reduceAdd, Nat.reduceMul, Nat.reduceSub, Nat.reduceLeDiff, Nat.reduceLT, Int.reduceLT, Int.reduceLE, Int.reduceEq, Int.reduceAdd, Int.reduceSub, Int.reduceNeg, Int.reduceToNat, List.mapM_cons, List.mapM_nil, Option.pure_def, Option.bind_eq_bind, eq_self, decide_true, decide_false, r0], ho, rfl, hk⟩
  · obtain ⟨ρ2, s2, f1, f0, fo, fg, fk⟩ := crash_loop (T := T) hf hwl hks w.length 0 (by omega) hK ho hg hk hw r0 r1 r16 r17 r18
    exact ⟨ρ2, s2, f1, f0.trans r0, fo, fg, fk⟩
end

section
variable {hs : FuncId → Hint} (H : DiskH hs) {σ : St} {o : Nat} {K : List UInt8} {n : Nat} {w : W} {down : Bool} {armed : Int} (D : DiskO σ o K n w down armed)
include H D

theorem crash_ev (hwl : w.length < 2 ^ 36) {ks : List Int} (hks : ks.length < 2 ^ 60) {x : AV} {f : Bool} {c : Option Nat} (hx : argIn σ [o] x = some (.isl f (ic ks) ks.length c)) :
    ∃ σ', ev (tab hs) 21 [.ptr ⟨o, 0, 0⟩ 0, x] σ = some (.int .i64 0, σ') ∧ DiskO σ' o (hitAll ks 0 K w) n [] true armed ∧ Kept σ σ' o := by
  obtain ⟨v, kcap, wcell, ho, hg, hk, hw⟩ := D.start
  have hlen : ∀ s : St, lenIn s .sl wcell = some w.length := by
    intro s
    rcases hw with ⟨rfl, rfl⟩ | ⟨rfl, hw⟩ <;> rfl
  generalize hs0 : σ.only [o] = s0 at *
  have hnx : s0.next = σ.next := by rw [← hs0]; rfl
  have hrun : ∃ s2, bodyOf (run (tab hs)) ⟨50, 2, code21, [.tmp 4], .mut [(0, [])] none⟩ [.ptr ⟨o, 0, 0⟩ 0, .isl f (ic ks) ks.length c] s0 = some (.int .i64 0, s2) ∧
      s2.get ⟨o, 0, 0⟩ = some [.sl ⟨o, 1, v⟩ 0 n kcap 64, .nilsl, .bool true, .int .i64 armed] ∧ s2.get ⟨o, 1, v⟩ = some (bs (hitAll ks 0 K w)) := by
    have g1 : (s0.set ⟨o, 0, 0⟩ (some (.cells [.sl ⟨o, 1, v⟩ 0 n kcap 64, wcell, .bool true, .int .i64 armed]))).get ⟨o, 0, 0⟩ = some [.sl ⟨o, 1, v⟩ 0 n kcap 64, wcell, .bool true, .int .i64 armed] := get_set_same _ _ _
    have k1 : (s0.set ⟨o, 0, 0⟩ (some (.cells [.sl ⟨o, 1, v⟩ 0 n kcap 64, wcell, .bool true, .int .i64 armed]))).get ⟨o, 1, v⟩ = some (bs K) := by rw [get_set, if_neg (by simp)]; exact hk
    have w1 : (wcell = .nilsl ∧ w = []) ∨ (wcell = .sl ⟨o, 2, v⟩ 0 w.length (.ge w.length) 65 ∧ (s0.set ⟨o, 0, 0⟩ (some (.cells [.sl ⟨o, 1, v⟩ 0 n kcap 64, wcell, .bool true, .int .i64 armed]))).get ⟨o, 2, v⟩ = some (wc w)) := by
      rw [get_set, if_neg (by simp)]; exact hw
    simp (disch := first | omega | (simp only [rkl]; omega)) only [rk1, rk2, rk3, rk4, rk5, Arg.get, ret1, AV.cells, AV.isCell, addOff, minmaxL, Cap.room, Cap.cut, cutI, isSt, resultOf, Function.comp_apply, Function.comp_def, beq_self_eq_true, if_true, if_false, ite_true, ite_false, reduceCtorEq, bne_self_eq_false, Option.some.injEq, Prod.mk.injEq, ↓reduceIte, Nat.reduceEqDiff, Nat.reduceAdd, Nat.reduceMul, Nat.reduceSub, Nat.reduceLeDiff, Nat.reduceLT, Int.reduceLT, Int.reduceLE, Int.reduceEq, Int.reduceAdd, Int.reduceSub, Int.reduceNeg, Int.reduceToNat, List.mapM_cons, List.mapM_nil, Option.pure_def, Option.bind_eq_bind, eq_self, decide_true, decide_false, code21, p21_1, p21_2, p21_3, p21_4, p21_5, hg, hlen]
    generalize hr : run (tab hs) (.loop l21_13) _ _ = r
    obtain ⟨ρ', s2, rfl, q0, qn, qg, qk⟩ := crash_out (f := f) (c := c) hr D.full hwl hks D.len (by rw [next_set]; omega) g1 k1 w1 (by simp (disch := first | omega | (simp only [rkl]; omega)) only [rk1, rk2, rk3, rk4, rk5, Arg.get, ret1, AV.cells, AV.isCell, addOff, minmaxL, Cap.room, Cap.cut, cutI, isSt, resultOf, Function.comp_apply, Function.comp_def, beq_self_eq_true, if_true, if_false, ite_true, ite_false, reduceCtorEq, bne_self_eq_false, Option.some.injEq, Prod.mk.injEq, ↓reduceIte, Nat.reduceEqDiff, Nat.reduceAdd, Nat.reduceMul, Nat.reduceSub, Nat.reduceLeDiff, Nat.reduceLT, Int.reduceLT, Int.reduceLE, Int.reduceEq, Int.reduceAdd, Int.reduceSub, Int.reduceNeg, Int.reduceToNat, List.mapM_cons, List.mapM_nil, Option.pure_def, Option.bind_eq_bind, eq_self, decide_true, decide_false]) (by simp (disch := first | omega | (simp only [rkl]; omega)) only [rk1, rk2, rk3, rk4, rk5, Arg.get, ret1, AV.cells, AV.isCell, addOff, minmaxL, Cap.room, Cap.cut, cutI, isSt, resultOf, Function.comp_apply, Function.comp_def, beq_self_eq_true, if_true, if_false, ite_true, ite_false, reduceCtorEq, bne_self_eq_false, Option.some.injEq, Prod.mk.injEq, ↓reduceIte, Nat.reduceEqDiff, Nat.reduceAdd, Nat.reduceMul, Nat.reduceSub, Nat.reduceLeDiff, Nat.reduceLT, Int.reduceLT, Int.reduceLE, Int.reduceEq, Int.reduceAdd, Int.reduceSub, Int.reduceNeg, Int.reduceToNat, List.mapM_cons, List.mapM_nil, Option.pure_def, Option.bind_eq_bind, eq_self, decide_true, decide_false]) (by simp (disch := first | omega | (simp only [rkl]; omega)) only [rk1, rk2, rk3, rk4, rk5, Arg.get, ret1, AV.cells, AV.isCell, addOff, minmaxL, Cap.room, Cap.cut, cutI, isSt, resultOf, Function.comp_apply, Function.comp_def, beq_self_eq_true, if_true, if_false, ite_true, ite_false, reduceCtorEq, bne_self_eq_false, Option.some.injEq, Prod.mk.injEq, ↓reduceIte, Nat.reduceEqDiff, Nat.reduceAdd, Nat.reduceMul, Nat.reduceSub, Nat.reduceLeDiff, Nat.reduceLT, Int.reduceLT, Int.reduceLE, Int.reduceEq, Int.reduceAdd, Int.reduceSub, Int.reduceNeg, Int.reduceToNat, List.mapM_cons, List.mapM_nil, Option.pure_def, Option.bind_eq_bind, eq_self, decide_true, decide_false]) (by simp (disch := first | omega | (simp only [rkl]; omega)) only [rk1, rk2, rk3, rk4, rk5, Arg.get, ret1, AV.cells, AV.isCell, addOff, minmaxL, Cap.room, Cap.cut, cutI, isSt, resultOf, Function.comp_apply, Function.comp_def, beq_self_eq_true, if_true, if_false, ite_true, ite_false, reduceCtorEq, bne_self_eq_false, Option.some.injEq, Prod.mk.injEq, ↓reduceIte, Nat.reduceEqDiff, Nat.reduceAdd, Nat.reduceMul, Nat.reduceSub, Nat.reduceLeDiff, Nat.reduceLT, Int.reduceLT, Int.reduceLE, Int.reduceEq, Int.reduceAdd, Int.reduceSub, Int.reduceNeg, Int.reduceToNat, List.mapM_cons, List.mapM_nil, Option.pure_def, Option.bind_eq_bind, eq_self, decide_true, decide_false]) (by simp (disch := first | omega | (simp only [rkl]; omega)) only [rk1, rk2, rk3, rk4, rk5, Arg.get, ret1, AV.cells, AV.isCell, addOff, minmaxL, Cap.room, Cap.cut, cutI, isSt, resultOf, Function.comp_apply, Function.comp_def, beq_self_eq_true, if_true, if_false, ite_true, ite_false, reduceCtorEq, bne_self_eq_false, Option.some.injEq, Prod.mk.injEq, ↓reduceIte, Nat.reduceEqDiff, Nat.reduceAdd, Nat.reduceMul, Nat.reduceSub, Nat.reduceLeDiff, Nat.reduceLT, Int.reduceLT, Int.reduceLE, Int.reduceEq, Int.reduceAdd, Int.reduceSub, Int.reduceNeg, Int.reduceToNat, List.mapM_cons, List.mapM_nil, Option.pure_def, Option.bind_eq_bind, eq_self, decide_true, decide_false])
    rw [g1] at qg
    simp (disch := first | omega | (simp only [rkl]; omega)) only [rk1, rk2, rk3, rk4, rk5, Arg.get, ret1, AV.cells, AV.isCell, addOff, minmaxL, Cap.room, Cap.cut, cutI, isSt, resultOf, Function.comp_apply, Function.comp_def, beq_self_eq_true, if_true, if_false, ite_true, ite_false, reduceCtorEq, bne_self_eq_false, Option.some.injEq, Prod.mk.injEq, ↓reduceIte, Nat.reduceEqDiff, Nat.reduceAdd, Nat.reduceMul, Nat.reduceSub, Nat.reduceLeDiff, Nat.reduceLT, Int.reduceLT, Int.reduceLE, Int.reduceEq, Int.reduceAdd, Int.reduceSub, Int.reduceNeg, Int.reduceToNat, List.mapM_cons, List.mapM_nil, Option.pure_def, Option.bind_eq_bind, eq_self, decide_true, decide_false, p21_14, p21_15, q0, qg]
    exact ⟨_, rfl, by simp (disch := first | omega | (simp only [rkl]; omega)) only [rk1, rk2, rk3, rk4, rk5, Arg.get, ret1, AV.cells, AV.isCell, addOff, minmaxL, Cap.room, Cap.cut, cutI, isSt, resultOf, Function.comp_apply, Function.comp_def, beq_self_eq_true, if_true, if_false, ite_true, ite_false, reduceCtorEq, bne_self_eq_false, Option.some.injEq, Prod.mk.injEq, ↓reduceIte, Nat.reduceEqDiff, Nat.reduceAdd, Nat.reduceMul, Nat.reduceSub, Nat.reduceLeDiff, Nat.reduceLT, Int.reduceLT, Int.reduceLE, Int.reduceEq, Int.reduceAdd, Int.reduceSub, Int.reduceNeg, Int.reduceToNat, List.mapM_cons, List.mapM_nil, Option.pure_def, Option.bind_eq_bind, eq_self, decide_true, decide_false], by simp (disch := first | omega | (simp only [rkl]; omega)) only [rk1, rk2, rk3, rk4, rk5, Arg.get, ret1, AV.cells, AV.isCell, addOff, minmaxL, Cap.room, Cap.cut, cutI, isSt, resultOf, Function.comp_apply, Function.comp_def, beq_self_eq_true, if_true, if_false, ite_true, ite_false, reduceCtorEq, bne_self_eq_false, Option.some.injEq, Prod.mk.injEq, ↓reduceIte, Nat.reduceEqDiff, Nat.reduceAdd, Nat.reduceMul, Nat.reduceSub, Nat.reduceLeDiff, Nat.reduceLT, Int.reduceLT, Int.reduceLE, Int.reduceEq, Int.reduceAdd, Int.reduceSub, Int.reduceNeg, Int.reduceToNat, List.mapM_cons, List.mapM_nil, Option.pure_def, Option.bind_eq_bind, eq_self, decide_true, decide_false, qk]⟩
  obtain ⟨s2, b2, g2, k2⟩ := hrun
  subst hs0
  exact disk_turn (H.crash ▸ tab21 hs) ho D.few D.arm (ins_cons hx (ins_nil _ _)) b2 g2 k2 .nil (by simp [refId, idsNodup]) (hitAll_len D.full D.len) (fun x hx => by simp at hx) (plain_int _ _) (fun _ => rfl)
end
/-
  THE DISK: what a program that does nothing does not answer.
-/

section
variable {hs : FuncId → Hint} (H : DiskH hs) {σ : St} {o : Nat} {K : List UInt8} {n : Nat} {w : W} {down : Bool} {armed : Int} (D : DiskO σ o K n w down armed)
include D

theorem DiskO.new (cs : List AV) : DiskO (σ.new cs) o K n w down armed := by
  obtain ⟨⟨kcap, Wc, hw, ho⟩, h2, h3, h4, h5⟩ := D
  have hlt := ho.lt
  refine ⟨⟨kcap, Wc, hw, ⟨by simp; omega, ?_, fun k c b hk hb => ?_⟩⟩, h2, h3, h4, h5⟩
  · have := ho.main
    simp only [St.new]
    rw [if_neg (by simp; omega)]; exact this
  · have := ho.blks k c b hk hb
    simp only [St.new]
    rw [if_neg (by simp)]; exact this

include H
theorem read_ev (hr : hs 23 = .pure) (hw : w.length < 2 ^ 62) (a : Int) : ev (tab hs) 23 [.ptr ⟨o, 0, 0⟩ 0, .int .i64 a] σ =
    some (if down then .tup [.isl false [] 0 none, .int .i64 3] else if 0 ≤ a ∧ a < n then .tup [.isl false (bs (shown K w a.toNat)) 64 none, .int .i64 0] else .tup [.isl false [] 0 none, .int .i64 1], σ) := by
  obtain ⟨fw, hsn⟩ := D.snap
  exact pure_ev (hr ▸ tab23 hs) (snaps_cons hsn (snaps_cons rfl (snaps_nil σ))) (read_pure H D.len D.few D.full hw a)
end

section
variable {T : Table} {h : Hint}
theorem bytes_pure {a b : List UInt8} {f g : Bool} {c d : Option Nat} : pureOf (run T) ⟨10, 2, code24, [.tmp 4], h⟩ [.isl f (bs a) a.length c, .isl g (bs b) b.length d] = some (.bool (decide (a = b))) := by
  have he : ∀ (l : List UInt8) (f : Bool) (c : Option Nat) (σ : St), elems σ 1 l.length (.isl f (bs l) l.length c) = some (bs l) := by
    intro l f c σ
    simp only [elems, bs_len, Nat.mul_one]
    rw [if_pos (Nat.le_refl _), List.take_of_length_le (by simp)]
  simp (disch := first | omega | (simp only [rkl]; omega)) only [rk1, rk2, rk3, rk4, rk5, Arg.get, ret1, AV.cells, AV.isCell, addOff, minmaxL, Cap.room, Cap.cut, cutI, isSt, resultOf, Function.comp_apply, Function.comp_def, beq_self_eq_true, if_true, if_false, ite_true, ite_false, reduceCtorEq, bne_self_eq_false, Option.some.injEq, Prod.mk.injEq, ↓reduceIte, Nat.reduceEqDiff, Nat.reduceAdd, Nat.reduceMul, Nat.reduceSub, Nat.reduceLeDiff, Nat.reduceLT, Int.reduceLT, Int.reduceLE, Int.reduceEq, Int.reduceAdd, Int.reduceSub, Int.reduceNeg, Int.reduceToNat, List.mapM_cons, List.mapM_nil, Option.pure_def, Option.bind_eq_bind, eq_self, decide_true, decide_false, code24, p24_1, p24_2, he, bs_byte]
end

theorem argIn_sl {σ : St} {cs : List AV} {len sz o : Nat} {cap : Cap} (ho : o < σ.next) (hc : ∀ s, cs.mapM (snap s 6) = some cs) (hl : len * sz = cs.length) :
    argIn (σ.new cs) [o] (.sl ⟨σ.next, 0, 0⟩ 0 len cap sz) = some (.isl true cs len none) := by
  have hg : ((σ.new cs).but [o]).get ⟨σ.next, 0, 0⟩ = some cs := by
    simp only [St.get, St.but, St.new]
    rw [if_neg (by simp; omega)]
    simp
  simp only [argIn, AV.nref, Bool.false_eq_true, if_false, depth, snap_sl, hg, Option.bind_some, Nat.zero_add, List.drop_zero]
  rw [if_pos (by omega), List.take_of_length_le (by omega), hc]; rfl

section
variable {hs : FuncId → Hint} (H : DiskH hs)
include H
theorem awake_pure (hr : hs 23 = .pure) {h : Hint} : pureOf (run (tab hs)) ⟨57, 0, code16, [.tmp 0], h⟩ [] = some (.bool true) := by
  obtain ⟨σ1, e1, D1, n1, _, _⟩ := new_ev H emptySt 2 (by omega) (by omega)
  rw [next_empty] at e1 D1 n1
  have D1' := D1.new [.int .u8 7]
  have hsec : ev (tab hs) 18 [.sl ⟨σ1.next, 0, 0⟩ 0 1 (.ex 1) 1] (σ1.new [.int .u8 7]) = some (.isl false (bs (sec [7])) 64 none, σ1.new [.int .u8 7]) :=
    sector_ev (b := [7]) (f := true) (c := none) H.sector (by simp (disch := first | omega | (simp only [rkl]; omega)) only [rk1, rk2, rk3, rk4, rk5, Arg.get, ret1, AV.cells, AV.isCell, addOff, minmaxL, Cap.room, Cap.cut, cutI, isSt, resultOf, Function.comp_apply, Function.comp_def, beq_self_eq_true, if_true, if_false, ite_true, ite_false, reduceCtorEq, bne_self_eq_false, Option.some.injEq, Prod.mk.injEq, ↓reduceIte, Nat.reduceEqDiff, Nat.reduceAdd, Nat.reduceMul, Nat.reduceSub, Nat.reduceLeDiff, Nat.reduceLT, Int.reduceLT, Int.reduceLE, Int.reduceEq, Int.reduceAdd, Int.reduceSub, Int.reduceNeg, Int.reduceToNat, List.mapM_cons, List.mapM_nil, Option.pure_def, Option.bind_eq_bind, eq_self, decide_true, decide_false]; rfl) (by decide)
  obtain ⟨σ2, e2, D2, _⟩ := write_ev H D1' (by decide) (a := 0) (by omega) (b := sec [7]) (f := false) (c := none) (by simp) rfl
  have D2' := D2.new [.int .i64 3]
  have hlt : 0 < σ2.next := by obtain ⟨_, _, _, ho⟩ := D2.ex; exact ho.lt
  obtain ⟨σ3, e3, D3, _⟩ := crash_ev H D2' (by decide) (ks := [3]) (by decide) (x := .sl ⟨σ2.next, 0, 0⟩ 0 1 (.ex 1) 1) (f := true) (c := none) (argIn_sl hlt (fun s => rfl) rfl)
  obtain ⟨σ4, e4, D4, _⟩ := start_ev H D3
  have e5 := read_ev H D4 hr (by decide) 0
  have hS : shown (hitAll [3] 0 (List.replicate (2 * 64) 0) ([] ++ [(0, sec [7])])) (if true = true then [] else []) (0 : Int).toNat = [7, 7, 7] ++ List.replicate 61 0 := by decide
  rw [hS] at e5
  have hn1 : ∀ s : St, newCells s [.int .u8 7] = some (⟨s.next, 0, 0⟩, s.new [.int .u8 7]) := fun s => newCells_ok rfl
  have hn2 : ∀ s : St, newCells s [.int .i64 3] = some (⟨s.next, 0, 0⟩, s.new [.int .i64 3]) := fun s => newCells_ok rfl
  have hl : ([7, 7, 7] ++ List.replicate 61 (0 : UInt8)).length = 64 := rfl
  have hf1 : fillV [.int .u8 0] [(0, 1, [.int .u8 7])] = some [.int .u8 7] := rfl
  have hf2 : fillV [.int .i64 0] [(0, 1, [.int .i64 3])] = some [.int .i64 3] := rfl
  have g2 : (bs ([7, 7, 7] ++ List.replicate 61 0))[2]? = some (.int .u8 7) := rfl
  have g3 : (bs ([7, 7, 7] ++ List.replicate 61 0))[3]? = some (.int .u8 0) := rfl
  simp only [Int.cast_ofNat_Int, Int.natCast_zero] at e1 e2
  have e1' : ev (tab hs) 15 [.int .i64 2] emptySt = some (.tup [.ptr ⟨0, 0, 0⟩ 0, .int .i64 0], σ1) := e1
  have e2' : ev (tab hs) 17 [.ptr ⟨0, 0, 0⟩ 0, .int .i64 0, .isl false (bs (sec [7])) 64 none] (σ1.new [.int .u8 7]) = some (.int .i64 0, σ2) := e2
  have e5' : ev (tab hs) 23 [.ptr ⟨0, 0, 0⟩ 0, .int .i64 0] σ4 = some (.tup [.isl false (bs ([7, 7, 7] ++ List.replicate 61 0)) 64 none, .int .i64 0], σ4) := e5
  generalize [7, 7, 7] ++ List.replicate 61 (0 : UInt8) = S at *
  simp (disch := first | omega | (simp only [rkl]; omega)) only [rk1, rk2, rk3, rk4, rk5, Arg.get, ret1, AV.cells, AV.isCell, addOff, minmaxL, Cap.room, Cap.cut, cutI, isSt, resultOf, Function.comp_apply, Function.comp_def, beq_self_eq_true, if_true, if_false, ite_true, ite_false, reduceCtorEq, bne_self_eq_false, Option.some.injEq, Prod.mk.injEq, ↓reduceIte, Nat.reduceEqDiff, Nat.reduceAdd, Nat.reduceMul, Nat.reduceSub, Nat.reduceLeDiff, Nat.reduceLT, Int.reduceLT, Int.reduceLE, Int.reduceEq, Int.reduceAdd, Int.reduceSub, Int.reduceNeg, Int.reduceToNat, List.mapM_cons, List.mapM_nil, Option.pure_def, Option.bind_eq_bind, eq_self, decide_true, decide_false, code16, p16_1, p16_2, p16_3, p16_4, p16_5, p16_6, e1', hn1, hn2, hf1, hf2, hsec, e2', e3, e4, e5', g2, g3]
end
/-
  THE DISK's LAWS: how each function is called there.
-/

def hsD : FuncId → Hint
  | 15 => .mut [] (some (some 0))
  | 17 => .mut [(0, [])] none
  | 19 => .mut [(0, [])] none
  | 21 => .mut [(0, [])] none
  | 22 => .mut [(0, [])] none
  | 29 => .mut [(0, [])] none
  | 34 => .mut [(0, [])] (some none)
  | 69 => .raw
  | 73 => .raw
  | 74 => .raw
  | _ => .pure
theorem diskH : DiskH hsD := ⟨rfl, rfl, rfl, rfl, rfl, rfl, rfl, rfl, rfl, rfl, rfl, rfl, rfl, rfl, rfl⟩

theorem awake_ev (σ : St) : ev (tab hsD) 16 [] σ = some (.bool true, σ) := pure_ev (tab16 hsD) (snaps_nil σ) (awake_pure diskH rfl)

section
variable {hs : FuncId → Hint} (H : DiskH hs) {σ : St} {o : Nat} {K : List UInt8} {n : Nat} {w : W}
include H
theorem write0 (D : DiskO σ o K n w false 0) (hwl : w.length < 2 ^ 36) {a : Nat} (ha : a < n) {b : List UInt8} {f : Bool} {c : Option Nat} (hb : b.length = 64) :
    ∃ σ', ev (tab hs) 17 [.ptr ⟨o, 0, 0⟩ 0, .int .i64 a, .isl f (bs b) 64 c] σ = some (.int .i64 0, σ') ∧ DiskO σ' o K n (w ++ [(a, b)]) false 0 ∧ Kept σ σ' o := write_ev H D hwl ha hb rfl
theorem flush0 (D : DiskO σ o K n w false 0) (hwl : w.length < 2 ^ 36) : ∃ σ', ev (tab hs) 19 [.ptr ⟨o, 0, 0⟩ 0] σ = some (.int .i64 0, σ') ∧ DiskO σ' o (keepAll K w) n [] false 0 ∧ Kept σ σ' o := flush_ev H D hwl rfl
theorem start1 {armed : Int} (D : DiskO σ o K n w true armed) : ∃ σ', ev (tab hs) 22 [.ptr ⟨o, 0, 0⟩ 0] σ = some (.int .i64 0, σ') ∧ DiskO σ' o K n [] false 0 ∧ Kept σ σ' o := start_ev H D
end

theorem seq_d3_8 : drawSeq (tab hsD) d3_8 = true := rfl
/-
  THE ROWS: what all of them need of the program; bytes that are handed in.
-/

theorem bytes_of {by_ : Nat} {cs : List AV} (h : Sh.ok (.sl by_ (.int .u8)) cs) : ∃ b : List UInt8, cs = [.isl false (bs b) b.length none] ∧ b.length * by_ ≤ reachBytes := by
  obtain ⟨rows, h1, h2, _, rfl⟩ := h
  have key : ∀ rows : List (List AV), (∀ r, r ∈ rows → Sh.ok (.int .u8) r) → ∃ b : List UInt8, rows.flatten = bs b ∧ b.length = rows.length := by
    intro rows
    induction rows with
    | nil => intro _; exact ⟨[], rfl, rfl⟩
    | cons r rows ih =>
      intro h
      obtain ⟨b, hb, hl⟩ := ih fun x hx => h x (by simp [hx])
      obtain ⟨n, rfl, h1, h2⟩ := h r (by simp)
      have e1 : IntKind.u8.min = 0 := rfl
      have e2 : IntKind.u8.max = 255 := rfl
      refine ⟨UInt8.ofNat n.toNat :: b, ?_, by simp [hl]⟩
      rw [List.flatten_cons, hb]
      have : ((UInt8.ofNat n.toNat).toNat : Int) = n := by
        rw [UInt8.toNat_ofNat']; omega
      simp only [bs, List.map_cons, this]; rfl
  obtain ⟨b, hb, hl⟩ := key rows h1
  exact ⟨b, by rw [hb, hl], by rw [hl]; exact h2⟩

theorem own : ownKnob Try.prog.godebug = none := by kernel_rfl
theorem laidOut : laidOutB Try.prog = true := by kernel_rfl
end Go.Proofs.Ytkhalpmmdlppkaa
