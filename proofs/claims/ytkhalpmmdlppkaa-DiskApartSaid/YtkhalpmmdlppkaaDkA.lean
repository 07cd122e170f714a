/-
  THE DISK: what a sector's bytes are; the law's helpers.
-/
import Derived.Test.YtkhalpmmdlppkaaTabD
import Derived.Test.YtkhalpmmdlppkaaVmW
namespace Go.Proofs.Ytkhalpmmdlppkaa
set_option linter.unusedSimpArgs false
set_option linter.unusedVariables false
open Go.Vm

/-- Bytes of a whole sector, these over and over. -/
def sec (b : List UInt8) : List UInt8 := (List.range 64).map fun i => b.getD (i % b.length) 0
@[simp] theorem sec_len (b : List UInt8) : (sec b).length = 64 := by simp [sec]

theorem splice_one {cs : List AV} {i : Nat} (v : AV) (h : i < cs.length) : splice cs i [v] = cs.set i v := by
  simp only [splice, List.length_singleton, List.set_eq_take_append_cons_drop, h, if_true, List.singleton_append]

def secAt (b : List UInt8) (i : Nat) : List UInt8 := (sec b).take i ++ List.replicate (64 - i) 0
theorem secAt_len (b : List UInt8) {i : Nat} (h : i ≤ 64) : (secAt b i).length = 64 := by simp [secAt]; omega
theorem secAt_get (b : List UInt8) (k j : Nat) : (secAt b k)[j]? = if j < k ∧ j < 64 then some (b.getD (j % b.length) 0) else if j < 64 then some 0 else none := by
  unfold secAt
  by_cases hj : j < min k 64
  · rw [List.getElem?_append_left (by simp; omega), List.getElem?_take, if_pos (by omega), if_pos (by omega)]
    have h64 : j < 64 := by omega
    simp [sec, h64]
  · rw [List.getElem?_append_right (by simp; omega), if_neg (by omega)]
    simp only [List.getElem?_replicate, List.length_take, sec_len]
    by_cases h : j < 64
    · rw [if_pos h, if_pos (by omega)]
    · rw [if_neg h, if_neg (by omega)]

theorem secAt_set (b : List UInt8) {i : Nat} (h : i < 64) : (secAt b i).set i (b.getD (i % b.length) 0) = secAt b (i + 1) := by
  apply List.ext_getElem?
  intro j
  rw [List.getElem?_set, secAt_len b (by omega), secAt_get, secAt_get]
  by_cases hj : i = j
  · subst hj
    rw [if_pos rfl, if_pos h, if_pos (by omega)]
  · rw [if_neg hj]
    by_cases h1 : j < i ∧ j < 64
    · rw [if_pos h1, if_pos (by omega)]
    · rw [if_neg h1, if_neg (show ¬ (j < i + 1 ∧ j < 64) by omega)]
theorem secAt_all (b : List UInt8) : secAt b 64 = sec b := by simp [secAt, List.take_of_length_le]
theorem bs_set (b : List UInt8) (i : Nat) (x : UInt8) : (bs b).set i (.int .u8 x.toNat) = bs (b.set i x) := by simp [bs, List.map_set]

section
variable {T : Table}

theorem sector_round (b : List UInt8) (f : Bool) (c : Option Nat) (id : Vm.Id) (cap : Cap) (hn : 0 < b.length) (hb : b.length < 2 ^ 62) (i : Nat) (hi : i < 64) (ρ : Env) (σ : St) (h4 : ρ 4 = .int .i64 i) (h3 : ρ 3 = .sl id 0 64 cap 1)
    (h0 : ρ 0 = .isl f (bs b) b.length c) (hg : σ.get id = some (bs (secAt b i))) : ∃ ρ', run T l18_7 ρ σ = some (.normal, ρ', σ.set id (some (.cells (bs (secAt b (i + 1)))))) ∧ ρ' 4 = .int .i64 (i + 1 : Nat) ∧ ρ' 3 = ρ 3 ∧ ρ' 0 = ρ 0 := by
  have hm : i % b.length < b.length := Nat.mod_lt _ hn
  have hgl : (secAt b i).length = 64 := secAt_len b (by omega)
  have hx : b[i % b.length]? = some (b.getD (i % b.length) 0) := by simp [List.getD_eq_getElem?_getD, hm]
  have hst := store_one (v := .int .u8 (b.getD (i % b.length) 0).toNat) (off := i) hg (by simp [hgl]; omega) (by simp) rfl
  simp (disch := first | omega | (simp only [rkl]; omega)) only [rk1, rk2, rk3, rk4, rk5, Arg.get, ret1, AV.cells, AV.isCell, addOff, minmaxL, Cap.room, Cap.cut, cutI, isSt, resultOf, Function.comp_apply, Function.comp_def, beq_self_eq_true, if_true, if_false, ite_true, ite_false, reduceCtorEq, bne_self_eq_false, Option.some.injEq, Prod.mk.injEq, ↓reduceIte, Nat.reduceEqDiff, Nat.reduceAdd, Nat.reduceMul, Nat.reduceSub, Nat.reduceLeDiff, Nat.reduceLT, Int.reduceLT, Int.reduceLE, Int.reduceEq, Int.reduceAdd, Int.reduceSub, Int.reduceNeg, Int.reduceToNat, List.mapM_cons, List.mapM_nil, Option.pure_def, Option.bind_eq_bind, eq_self, decide_true, decide_false, l18_7, p18_4, p18_5, p18_6, h4, h3, h0, hx, hst, bs_set, secAt_set, bs_len, bs_get]
  exact ⟨_, rfl, by simp (disch := first | omega | (simp only [rkl]; omega)) only [rk1, rk2, rk3, rk4, rk5, Arg.get, ret1, AV.cells, AV.isCell, addOff, minmaxL, Cap.room, Cap.cut, cutI, isSt, resultOf, Function.comp_apply, Function.comp_def, beq_self_eq_true, if_true, if_false, ite_true, ite_false, reduceCtorEq, bne_self_eq_false, Option.some.injEq, Prod.mk.injEq, ↓reduceIte, Nat.reduceEqDiff, Nat.reduceAdd, Nat.reduceMul, Nat.reduceSub, Nat.reduceLeDiff, Nat.reduceLT, Int.reduceLT, Int.reduceLE, Int.reduceEq, Int.reduceAdd, Int.reduceSub, Int.reduceNeg, Int.reduceToNat, List.mapM_cons, List.mapM_nil, Option.pure_def, Option.bind_eq_bind, eq_self, decide_true, decide_false, Int.natCast_add, Int.cast_ofNat_Int], by simp (disch := first | omega | (simp only [rkl]; omega)) only [rk1, rk2, rk3, rk4, rk5, Arg.get, ret1, AV.cells, AV.isCell, addOff, minmaxL, Cap.room, Cap.cut, cutI, isSt, resultOf, Function.comp_apply, Function.comp_def, beq_self_eq_true, if_true, if_false, ite_true, ite_false, reduceCtorEq, bne_self_eq_false, Option.some.injEq, Prod.mk.injEq, ↓reduceIte, Nat.reduceEqDiff, Nat.reduceAdd, Nat.reduceMul, Nat.reduceSub, Nat.reduceLeDiff, Nat.reduceLT, Int.reduceLT, Int.reduceLE, Int.reduceEq, Int.reduceAdd, Int.reduceSub, Int.reduceNeg, Int.reduceToNat, List.mapM_cons, List.mapM_nil, Option.pure_def, Option.bind_eq_bind, eq_self, decide_true, decide_false, h3], by simp (disch := first | omega | (simp only [rkl]; omega)) only [rk1, rk2, rk3, rk4, rk5, Arg.get, ret1, AV.cells, AV.isCell, addOff, minmaxL, Cap.room, Cap.cut, cutI, isSt, resultOf, Function.comp_apply, Function.comp_def, beq_self_eq_true, if_true, if_false, ite_true, ite_false, reduceCtorEq, bne_self_eq_false, Option.some.injEq, Prod.mk.injEq, ↓reduceIte, Nat.reduceEqDiff, Nat.reduceAdd, Nat.reduceMul, Nat.reduceSub, Nat.reduceLeDiff, Nat.reduceLT, Int.reduceLT, Int.reduceLE, Int.reduceEq, Int.reduceAdd, Int.reduceSub, Int.reduceNeg, Int.reduceToNat, List.mapM_cons, List.mapM_nil, Option.pure_def, Option.bind_eq_bind, eq_self, decide_true, decide_false, h0]⟩

theorem sector_loop (b : List UInt8) (f : Bool) (c : Option Nat) (id : Vm.Id) (cap : Cap) (hn : 0 < b.length) (hb : b.length < 2 ^ 62) : ∀ (m i : Nat), i + m = 64 → ∀ (ρ : Env) (σ : St), ρ 4 = .int .i64 i → ρ 3 = .sl id 0 64 cap 1 →
    ρ 0 = .isl f (bs b) b.length c → σ.get id = some (bs (secAt b i)) → ∃ ρ', run T (.loop l18_7) ρ σ = some (.exit 0, ρ', if m = 0 then σ else σ.set id (some (.cells (bs (sec b))))) ∧ ρ' 3 = ρ 3
  | 0, i, him, ρ, σ, h4, h3, h0, hg => by
    obtain rfl : i = 64 := by omega
    rw [run_loop]
    simp (disch := first | omega | (simp only [rkl]; omega)) only [rk1, rk2, rk3, rk4, rk5, Arg.get, ret1, AV.cells, AV.isCell, addOff, minmaxL, Cap.room, Cap.cut, cutI, isSt, resultOf, Function.comp_apply, Function.comp_def, beq_self_eq_true, if_true, if_false, ite_true, ite_false, reduceCtorEq, bne_self_eq_false, Option.some.injEq, Prod.mk.injEq, ↓reduceIte, Nat.reduceEqDiff, Nat.reduceAdd, Nat.reduceMul, Nat.reduceSub, Nat.reduceLeDiff, Nat.reduceLT, Int.reduceLT, Int.reduceLE, Int.reduceEq, Int.reduceAdd, Int.reduceSub, Int.reduceNeg, Int.reduceToNat, List.mapM_cons, List.mapM_nil, Option.pure_def, Option.bind_eq_bind, eq_self, decide_true, decide_false, l18_7, p18_4, h4, h3, h0]
    exact ⟨_, rfl, by simp (disch := first | omega | (simp only [rkl]; omega)) only [rk1, rk2, rk3, rk4, rk5, Arg.get, ret1, AV.cells, AV.isCell, addOff, minmaxL, Cap.room, Cap.cut, cutI, isSt, resultOf, Function.comp_apply, Function.comp_def, beq_self_eq_true, if_true, if_false, ite_true, ite_false, reduceCtorEq, bne_self_eq_false, Option.some.injEq, Prod.mk.injEq, ↓reduceIte, Nat.reduceEqDiff, Nat.reduceAdd, Nat.reduceMul, Nat.reduceSub, Nat.reduceLeDiff, Nat.reduceLT, Int.reduceLT, Int.reduceLE, Int.reduceEq, Int.reduceAdd, Int.reduceSub, Int.reduceNeg, Int.reduceToNat, List.mapM_cons, List.mapM_nil, Option.pure_def, Option.bind_eq_bind, eq_self, decide_true, decide_false, h3]⟩
  | m + 1, i, him, ρ, σ, h4, h3, h0, hg => by
    obtain ⟨ρ1, hr, g4, g3, g0⟩ := sector_round (T := T) b f c id cap hn hb i (by omega) ρ σ h4 h3 h0 hg
    rw [run_loop, hr]
    obtain ⟨ρ2, hr2, k3⟩ := sector_loop b f c id cap hn hb m (i + 1) (by omega) ρ1 _ g4 (g3.trans h3) (g0.trans h0) (get_set_same _ _ _)
    refine ⟨ρ2, ?_, k3.trans g3⟩
    simp (disch := first | omega | (simp only [rkl]; omega)) only [rk1, rk2, rk3, rk4, rk5, Arg.get, ret1, AV.cells, AV.isCell, addOff, minmaxL, Cap.room, Cap.cut, cutI, isSt, resultOf, Function.comp_apply, Function.comp_def, beq_self_eq_true, if_true, if_false, ite_true, ite_false, reduceCtorEq, bne_self_eq_false, Option.some.injEq, Prod.mk.injEq, ↓reduceIte, Nat.reduceEqDiff, Nat.reduceAdd, Nat.reduceMul, Nat.reduceSub, Nat.reduceLeDiff, Nat.reduceLT, Int.reduceLT, Int.reduceLE, Int.reduceEq, Int.reduceAdd, Int.reduceSub, Int.reduceNeg, Int.reduceToNat, List.mapM_cons, List.mapM_nil, Option.pure_def, Option.bind_eq_bind, eq_self, decide_true, decide_false]
    rw [hr2]
    split
    · have : i + 1 = 64 := by omega
      rw [this, secAt_all]
    · rw [st_set_set]

theorem sector_out {b : List UInt8} {f : Bool} {c : Option Nat} {id : Vm.Id} {cap : Cap} {ρ : Env} {σ : St} {r} (hr : run T (.loop l18_7) ρ σ = r) (hb : b.length < 2 ^ 62) (h4 : ρ 4 = .int .i64 0) (h3 : ρ 3 = .sl id 0 64 cap 1) (h0 : ρ 0 = .isl f (bs b) b.length c)
    (hg : σ.get id = some (bs (secAt b 0))) : ∃ ρ' σ', r = some (.exit 0, ρ', σ') ∧ ρ' 3 = .sl id 0 64 cap 1 ∧ σ'.get id = some (bs (sec b)) := by
  subst hr
  rcases Nat.eq_zero_or_pos b.length with hn | hn
  · rw [run_loop]
    simp (disch := first | omega | (simp only [rkl]; omega)) only [rk1, rk2, rk3, rk4, rk5, Arg.get, ret1, AV.cells, AV.isCell, addOff, minmaxL, Cap.room, Cap.cut, cutI, isSt, resultOf, Function.comp_apply, Function.comp_def, beq_self_eq_true, if_true, if_false, ite_true, ite_false, reduceCtorEq, bne_self_eq_false, Option.some.injEq, Prod.mk.injEq, ↓reduceIte, Nat.reduceEqDiff, Nat.reduceAdd, Nat.reduceMul, Nat.reduceSub, Nat.reduceLeDiff, Nat.reduceLT, Int.reduceLT, Int.reduceLE, Int.reduceEq, Int.reduceAdd, Int.reduceSub, Int.reduceNeg, Int.reduceToNat, List.mapM_cons, List.mapM_nil, Option.pure_def, Option.bind_eq_bind, eq_self, decide_true, decide_false, l18_7, p18_4, h4, h3, h0, hn]
    refine ⟨_, _, ⟨rfl, rfl⟩, by simp (disch := first | omega | (simp only [rkl]; omega)) only [rk1, rk2, rk3, rk4, rk5, Arg.get, ret1, AV.cells, AV.isCell, addOff, minmaxL, Cap.room, Cap.cut, cutI, isSt, resultOf, Function.comp_apply, Function.comp_def, beq_self_eq_true, if_true, if_false, ite_true, ite_false, reduceCtorEq, bne_self_eq_false, Option.some.injEq, Prod.mk.injEq, ↓reduceIte, Nat.reduceEqDiff, Nat.reduceAdd, Nat.reduceMul, Nat.reduceSub, Nat.reduceLeDiff, Nat.reduceLT, Int.reduceLT, Int.reduceLE, Int.reduceEq, Int.reduceAdd, Int.reduceSub, Int.reduceNeg, Int.reduceToNat, List.mapM_cons, List.mapM_nil, Option.pure_def, Option.bind_eq_bind, eq_self, decide_true, decide_false, h3], ?_⟩
    rw [hg]
    obtain rfl : b = [] := List.eq_nil_of_length_eq_zero hn
    rfl
  · obtain ⟨ρ', hr, k3⟩ := sector_loop (T := T) b f c id cap hn hb 64 0 rfl ρ σ h4 h3 h0 hg
    exact ⟨ρ', _, hr, k3.trans h3, get_set_same _ _ _⟩

theorem sector_pure {h : Hint} (b : List UInt8) (f : Bool) (c : Option Nat) (hb : b.length < 2 ^ 62) :
    pureOf (run T) ⟨28, 1, code18, [.tmp 2], h⟩ [.isl f (bs b) b.length c] = some (.isl false (bs (sec b)) 64 none) := by
  have hz : (List.replicate 64 (AV.int .u8 0)) = bs (secAt b 0) := by simp [secAt, bs]
  have hnc : newCells emptySt (bs (secAt b 0)) = some (⟨0, 0, 0⟩, emptySt.new (bs (secAt b 0))) := newCells_ok (bs_cell _)
  have hgm : (64 : Nat) ≤ growMax := by decide
  simp (disch := first | omega | (simp only [rkl]; omega)) only [rk1, rk2, rk3, rk4, rk5, Arg.get, ret1, AV.cells, AV.isCell, addOff, minmaxL, Cap.room, Cap.cut, cutI, isSt, resultOf, Function.comp_apply, Function.comp_def, beq_self_eq_true, if_true, if_false, ite_true, ite_false, reduceCtorEq, bne_self_eq_false, Option.some.injEq, Prod.mk.injEq, ↓reduceIte, Nat.reduceEqDiff, Nat.reduceAdd, Nat.reduceMul, Nat.reduceSub, Nat.reduceLeDiff, Nat.reduceLT, Int.reduceLT, Int.reduceLE, Int.reduceEq, Int.reduceAdd, Int.reduceSub, Int.reduceNeg, Int.reduceToNat, List.mapM_cons, List.mapM_nil, Option.pure_def, Option.bind_eq_bind, eq_self, decide_true, decide_false, code18, p18_1, p18_2, p18_3, hz, hnc, hgm]
  generalize hr : run T (.loop l18_7) _ _ = r
  obtain ⟨ρ', σ', rfl, k3, kg⟩ := sector_out (b := b) (f := f) (c := c) (id := ⟨0, 0, 0⟩) (cap := .ex 64) hr hb (by simp (disch := first | omega | (simp only [rkl]; omega)) only [rk1, rk2, rk3, rk4, rk5, Arg.get, ret1, AV.cells, AV.isCell, addOff, minmaxL, Cap.room, Cap.cut, cutI, isSt, resultOf, Function.comp_apply, Function.comp_def, beq_self_eq_true, if_true, if_false, ite_true, ite_false, reduceCtorEq, bne_self_eq_false, Option.some.injEq, Prod.mk.injEq, ↓reduceIte, Nat.reduceEqDiff, Nat.reduceAdd, Nat.reduceMul, Nat.reduceSub, Nat.reduceLeDiff, Nat.reduceLT, Int.reduceLT, Int.reduceLE, Int.reduceEq, Int.reduceAdd, Int.reduceSub, Int.reduceNeg, Int.reduceToNat, List.mapM_cons, List.mapM_nil, Option.pure_def, Option.bind_eq_bind, eq_self, decide_true, decide_false]) (by simp (disch := first | omega | (simp only [rkl]; omega)) only [rk1, rk2, rk3, rk4, rk5, Arg.get, ret1, AV.cells, AV.isCell, addOff, minmaxL, Cap.room, Cap.cut, cutI, isSt, resultOf, Function.comp_apply, Function.comp_def, beq_self_eq_true, if_true, if_false, ite_true, ite_false, reduceCtorEq, bne_self_eq_false, Option.some.injEq, Prod.mk.injEq, ↓reduceIte, Nat.reduceEqDiff, Nat.reduceAdd, Nat.reduceMul, Nat.reduceSub, Nat.reduceLeDiff, Nat.reduceLT, Int.reduceLT, Int.reduceLE, Int.reduceEq, Int.reduceAdd, Int.reduceSub, Int.reduceNeg, Int.reduceToNat, List.mapM_cons, List.mapM_nil, Option.pure_def, Option.bind_eq_bind, eq_self, decide_true, decide_false]) (by simp (disch := first | omega | (simp only [rkl]; omega)) only [rk1, rk2, rk3, rk4, rk5, Arg.get, ret1, AV.cells, AV.isCell, addOff, minmaxL, Cap.room, Cap.cut, cutI, isSt, resultOf, Function.comp_apply, Function.comp_def, beq_self_eq_true, if_true, if_false, ite_true, ite_false, reduceCtorEq, bne_self_eq_false, Option.some.injEq, Prod.mk.injEq, ↓reduceIte, Nat.reduceEqDiff, Nat.reduceAdd, Nat.reduceMul, Nat.reduceSub, Nat.reduceLeDiff, Nat.reduceLT, Int.reduceLT, Int.reduceLE, Int.reduceEq, Int.reduceAdd, Int.reduceSub, Int.reduceNeg, Int.reduceToNat, List.mapM_cons, List.mapM_nil, Option.pure_def, Option.bind_eq_bind, eq_self, decide_true, decide_false]) (by simp (disch := first | omega | (simp only [rkl]; omega)) only [rk1, rk2, rk3, rk4, rk5, Arg.get, ret1, AV.cells, AV.isCell, addOff, minmaxL, Cap.room, Cap.cut, cutI, isSt, resultOf, Function.comp_apply, Function.comp_def, beq_self_eq_true, if_true, if_false, ite_true, ite_false, reduceCtorEq, bne_self_eq_false, Option.some.injEq, Prod.mk.injEq, ↓reduceIte, Nat.reduceEqDiff, Nat.reduceAdd, Nat.reduceMul, Nat.reduceSub, Nat.reduceLeDiff, Nat.reduceLT, Int.reduceLT, Int.reduceLE, Int.reduceEq, Int.reduceAdd, Int.reduceSub, Int.reduceNeg, Int.reduceToNat, List.mapM_cons, List.mapM_nil, Option.pure_def, Option.bind_eq_bind, eq_self, decide_true, decide_false])
  simp (disch := first | omega | (simp only [rkl]; omega)) only [rk1, rk2, rk3, rk4, rk5, Arg.get, ret1, AV.cells, AV.isCell, addOff, minmaxL, Cap.room, Cap.cut, cutI, isSt, resultOf, Function.comp_apply, Function.comp_def, beq_self_eq_true, if_true, if_false, ite_true, ite_false, reduceCtorEq, bne_self_eq_false, Option.some.injEq, Prod.mk.injEq, ↓reduceIte, Nat.reduceEqDiff, Nat.reduceAdd, Nat.reduceMul, Nat.reduceSub, Nat.reduceLeDiff, Nat.reduceLT, Int.reduceLT, Int.reduceLE, Int.reduceEq, Int.reduceAdd, Int.reduceSub, Int.reduceNeg, Int.reduceToNat, List.mapM_cons, List.mapM_nil, Option.pure_def, Option.bind_eq_bind, eq_self, decide_true, decide_false, p18_8, k3, kg]
  simp [frz_bs, List.take_of_length_le]

theorem sector_ev {hs : FuncId → Hint} (hp : hs 18 = .pure) {x : AV} {σ : St} {b : List UInt8} {f : Bool} {c : Option Nat} (hx : snap σ 7 x = some (.isl f (bs b) b.length c)) (hb : b.length < 2 ^ 62) :
    ev (tab hs) 18 [x] σ = some (.isl false (bs (sec b)) 64 none, σ) := by
  have ht := tab18 hs
  rw [hp] at ht
  rw [ev_pure ht, List.mapM_cons, hx]
  simp only [List.mapM_nil, Option.pure_def, Option.bind_eq_bind, Option.bind_some, sector_pure b f c hb, Option.map_some]
end
end Go.Proofs.Ytkhalpmmdlppkaa
