/-
  THE LAW DiskSafe.
-/
import Derived.Test.YtkhalpmmdlppkaaDkI
namespace Go.Proofs.Ytkhalpmmdlppkaa
set_option linter.unusedSimpArgs false
set_option linter.unusedVariables false
open Go.Vm

theorem secK_put {X c : List UInt8} {n t : Nat} (hX : X.length = n * 64) (ht : t < n) (hc : c.length ≤ 64) : secK (putK X t c) t = c ++ (secK X t).drop c.length := by
  have h1 : (t + 1) * 64 ≤ n * 64 := Nat.mul_le_mul_right _ ht
  have hl : (X.take (t * 64)).length = t * 64 := by simp; omega
  simp only [secK, putK]
  rw [List.drop_left' hl, List.take_append, List.drop_take, List.drop_drop]
  congr 1
  · exact List.take_of_length_le hc

theorem at_mod (a : Int) : ∃ t : Nat, t < 4 ∧ IntKind.i64.wrap ((IntKind.u64.wrap a).tmod 4) = t := by
  have h : 0 ≤ IntKind.u64.wrap a := by simp [IntKind.wrap, IntKind.bits, IntKind.signed]; omega
  refine ⟨((IntKind.u64.wrap a) % 4).toNat, by omega, ?_⟩
  rw [Int.tmod_eq_emod_of_nonneg h, wrap_i64 (by omega) (by omega)]
  omega

theorem safe_draw {a b S : List UInt8} {m : Nat} {ρ : Env} {σ : St} {r} (hr : run (tab hsD) (.draw d3_8) ρ σ = r) (ha : a.length < 2 ^ 62) (hb : b.length < 2 ^ 62) (hm : m ≤ 64) (hS : S = (sec b).take m ++ (sec a).drop m)
    (r0 : ρ 0 = .isl false (bs a) a.length none) (r1 : ρ 1 = .isl false (bs b) b.length none) (r9 : ρ 9 = .ptr ⟨0, 0, 0⟩ 0) (r11 : ρ 11 = .isl false (bs S) 64 none) (r12 : ρ 12 = .int .i64 0) (r13 : ρ 13 = .int .i64 m)
    (e8 : ev (tab hsD) 20 [.ptr ⟨0, 0, 0⟩ 0] σ = some (.int .i64 0, σ)) : ∃ ρ' σ', r = some (.normal, ρ', σ') ∧ ρ' 8 = .bool true := by
  subst hr
  have sa := fun σ => sector_ev (hs := hsD) (σ := σ) (x := .isl false (bs a) a.length none) (b := a) (f := false) (c := none) rfl rfl ha
  have sb := fun σ => sector_ev (hs := hsD) (σ := σ) (x := .isl false (bs b) b.length none) (b := b) (f := false) (c := none) rfl rfl hb
  have hla := sec_len a
  have hlb := sec_len b
  have hSl : S.length = 64 := by rw [hS]; simp; omega
  have hsl : ∀ (sz : Nat) (f : Bool) (cs : List AV) (len : Nat) (cap : Option Nat) (lo hi mx : Option Arg) (ρ : Env), sliceSl sz (.isl f cs len cap) lo hi mx ρ = (bnd ρ mx (cap.getD len) (cap.getD len)).bind fun m => (bnd ρ hi m len).bind fun h => (bnd ρ lo h 0).bind fun l =>
      if h * sz ≤ cs.length ∧ h ≤ m ∧ 0 < sz then some (.isl f ((cs.drop (l * sz)).take ((h - l) * sz)) (h - l) (cutI cap mx.isSome m l)) else none := fun _ _ _ _ _ _ _ _ _ => rfl
  have htk : List.take (64 - m) (List.drop m (sec a)) = List.drop m (sec a) := List.take_of_length_le (by simp)
  have hel : elems σ 1 (64 - m) (.isl false (bs (List.drop m (sec a))) (64 - m) none) = some (bs (List.drop m (sec a))) := by
    simp only [elems, bs_len, Nat.mul_one]
    rw [if_pos (by simp), List.take_of_length_le (by simp)]
  have hap : ∃ res σ', appendTo σ 1 1 (64 - m) (bs (List.drop m (sec a))) (.isl false (bs (List.take m (sec b))) m (some m)) = some (res, σ') ∧ ∃ f, snap σ' 7 res = some (.isl f (bs S) 64 none) := by
    by_cases h64 : m = 64
    · subst h64
      refine ⟨.isl false (bs (List.take 64 (sec b))) 64 (some 64), σ, by simp [appendTo], false, ?_⟩
      rw [hS, List.drop_of_length_le (by simp), List.append_nil]; rfl
    · have hgm : Builtin.nextslicecap (m + (64 - m)) m * 1 ≤ growMax := growBy_fit (by omega) (by have : lenMax = 2 ^ 46 := rfl; omega)
      refine ⟨_, _, by
        simp only [appendTo]
        rw [if_neg (show ¬ (64 - m = 0) by omega), if_pos ⟨by omega, by simp; omega, hgm⟩, newCells_ok (by rw [List.all_append, List.take_of_length_le (by simp; omega), bs_cell, bs_cell]; rfl)]
        rfl, true, ?_⟩
      rw [snap_sl, get_new, if_pos rfl, List.take_of_length_le (by simp; omega), ← bs_app, ← hS]
      simp only [Option.bind_some, bs_len, hSl]
      rw [if_pos (by omega), List.drop_zero, List.take_of_length_le (by simp; omega), snap_bs, show m + (64 - m) = 64 by omega]; rfl
  obtain ⟨res, σ', ha1, fr, hsn⟩ := hap
  have hby : ev (tab hsD) 24 [.isl false (bs S) 64 none, res] σ' = some (.bool true, σ') := by
    have := bytes_pure (T := tab hsD) (h := .pure) (a := S) (b := S) (f := false) (g := fr) (c := none) (d := none)
    rw [hSl] at this
    have h2 := pure_ev (tab24 hsD) (snaps_cons (x := .isl false (bs S) 64 none) rfl (snaps_cons hsn (snaps_nil σ'))) this
    simpa using h2
  rw [drawn seq_d3_8]
  simp (disch := first | omega | (simp only [rkl]; omega)) only [rk1, rk2, rk3, rk4, rk5, Arg.get, ret1, AV.cells, AV.isCell, addOff, minmaxL, Cap.room, Cap.cut, cutI, isSt, resultOf, Function.comp_apply, Function.comp_def, beq_self_eq_true, if_true, if_false, ite_true, ite_false, reduceCtorEq, bne_self_eq_false, Option.some.injEq, Prod.mk.injEq, ↓reduceIte, Nat.reduceEqDiff, Nat.reduceAdd, Nat.reduceMul, Nat.reduceSub, Nat.reduceLeDiff, Nat.reduceLT, Int.reduceLT, Int.reduceLE, Int.reduceEq, Int.reduceAdd, Int.reduceSub, Int.reduceNeg, Int.reduceToNat, List.mapM_cons, List.mapM_nil, Option.pure_def, Option.bind_eq_bind, eq_self, decide_true, decide_false, d3_8, r0, r1, r9, r11, r12, r13, e8, sa, sb, hsl, Option.getD_none, Option.isSome_some, Option.isSome_none, Nat.sub_zero, bs_take, bs_drop, htk, hel, ha1, hby]
  exact ⟨_, _, ⟨rfl, rfl⟩, by simp (disch := first | omega | (simp only [rkl]; omega)) only [rk1, rk2, rk3, rk4, rk5, Arg.get, ret1, AV.cells, AV.isCell, addOff, minmaxL, Cap.room, Cap.cut, cutI, isSt, resultOf, Function.comp_apply, Function.comp_def, beq_self_eq_true, if_true, if_false, ite_true, ite_false, reduceCtorEq, bne_self_eq_false, Option.some.injEq, Prod.mk.injEq, ↓reduceIte, Nat.reduceEqDiff, Nat.reduceAdd, Nat.reduceMul, Nat.reduceSub, Nat.reduceLeDiff, Nat.reduceLT, Int.reduceLT, Int.reduceLE, Int.reduceEq, Int.reduceAdd, Int.reduceSub, Int.reduceNeg, Int.reduceToNat, List.mapM_cons, List.mapM_nil, Option.pure_def, Option.bind_eq_bind, eq_self, decide_true, decide_false]⟩

theorem safe_pure {a b : List UInt8} (ha : a.length < 2 ^ 62) (hb : b.length < 2 ^ 62) (at_ keep : Int) :
    pureOf (run (tab hsD)) ⟨100, 4, code3, [.tmp 8], .pure⟩ [.isl false (bs a) a.length none, .isl false (bs b) b.length none, .int .i64 at_, .int .i64 keep] = some (.bool true) := by
  obtain ⟨t, ht, hat⟩ := at_mod at_
  obtain ⟨σ1, e1, D1, n1, _, _⟩ := new_ev diskH emptySt 4 (by omega) (by omega)
  rw [next_empty] at e1 D1 n1
  have sa := fun σ => sector_ev (hs := hsD) (σ := σ) (x := .isl false (bs a) a.length none) (b := a) (f := false) (c := none) rfl rfl ha
  have sb := fun σ => sector_ev (hs := hsD) (σ := σ) (x := .isl false (bs b) b.length none) (b := b) (f := false) (c := none) rfl rfl hb
  obtain ⟨σ2, e2, D2, _⟩ := write0 diskH D1 (by simp) (a := t) ht (b := sec a) (f := false) (c := none) (by simp)
  obtain ⟨σ3, e3, D3, _⟩ := flush0 diskH D2 (by simp)
  obtain ⟨σ4, e4, D4, _⟩ := write0 diskH D3 (by simp) (a := t) ht (b := sec b) (f := false) (c := none) (by simp)
  have ew := waiting_ev diskH D4
  have D4' := D4.new [.int .i64 keep]
  have hlt : 0 < σ4.next := by obtain ⟨_, _, _, ho⟩ := D4.ex; exact ho.lt
  obtain ⟨σ5, e5, D5, _⟩ := crash_ev diskH D4' (by simp) (ks := [keep]) (by simp) (x := .sl ⟨σ4.next, 0, 0⟩ 0 1 (.ex 1) 1) (f := true) (c := none) (argIn_sl hlt (fun s => rfl) rfl)
  obtain ⟨σ6, e6, D6, _⟩ := start1 diskH D5
  have e7 := read_ev diskH D6 (by simp) t
  have e8 := waiting_ev diskH D6
  have e1' : ev (tab hsD) 15 [.int .i64 4] emptySt = some (.tup [.ptr ⟨0, 0, 0⟩ 0, .int .i64 0], σ1) := e1
  have hn2 : ∀ s : St, newCells s [.int .i64 keep] = some (⟨s.next, 0, 0⟩, s.new [.int .i64 keep]) := fun s => newCells_ok rfl
  have hf2 : fillV [.int .i64 0] [(0, 1, [.int .i64 keep])] = some [.int .i64 keep] := rfl
  have htt : (0 : Int) ≤ (t : Int) ∧ (t : Int) < ((4 : Nat) : Int) := by omega
  have e7' : ∃ S, shown (hitAll [keep] 0 (keepAll (List.replicate (4 * 64) 0) ([] ++ [(t, sec a)])) ([] ++ [(t, sec b)])) [] t = S ∧ ev (tab hsD) 23 [.ptr ⟨0, 0, 0⟩ 0, .int .i64 t] σ6 = some (.tup [.isl false (bs S) 64 none, .int .i64 0], σ6) := by
    refine ⟨_, rfl, ?_⟩
    have := e7
    simp only [Bool.false_eq_true, if_false, htt, and_self, if_true] at this
    exact this
  obtain ⟨S, hS, e7'⟩ := e7'
  have hw1 : ((([] : W) ++ [(t, sec b)]).length : Int) = 1 := rfl
  have hmu : ((clamp keep : Nat) : Int) = max 0 (min keep 64) := by unfold clamp; omega
  have hm1 : minmaxL false (.int .i64 keep) [.int .i64 64] = some (.int .i64 (min keep 64)) := by
    have h0 : (if (64 : Int) < keep then (64 : Int) else keep) = min keep 64 := by
      by_cases h : (64 : Int) < keep
      · rw [if_pos h]; omega
      · rw [if_neg h]; omega
    rw [← h0]; rfl
  have hm2 : minmaxL true (.int .i64 0) [.int .i64 (min keep 64)] = some (.int .i64 (clamp keep : Nat)) := by
    have h0 : (if min keep 64 > 0 then min keep 64 else (0 : Int)) = max 0 (min keep 64) := by
      by_cases h : min keep 64 > 0
      · rw [if_pos h]; omega
      · rw [if_neg h]; omega
    rw [hmu, ← h0]; rfl
  simp (disch := first | omega | (simp only [rkl]; omega)) only [rk1, rk2, rk3, rk4, rk5, Arg.get, ret1, AV.cells, AV.isCell, addOff, minmaxL, Cap.room, Cap.cut, cutI, isSt, resultOf, Function.comp_apply, Function.comp_def, beq_self_eq_true, if_true, if_false, ite_true, ite_false, reduceCtorEq, bne_self_eq_false, Option.some.injEq, Prod.mk.injEq, ↓reduceIte, Nat.reduceEqDiff, Nat.reduceAdd, Nat.reduceMul, Nat.reduceSub, Nat.reduceLeDiff, Nat.reduceLT, Int.reduceLT, Int.reduceLE, Int.reduceEq, Int.reduceAdd, Int.reduceSub, Int.reduceNeg, Int.reduceToNat, List.mapM_cons, List.mapM_nil, Option.pure_def, Option.bind_eq_bind, eq_self, decide_true, decide_false, code3, p3_1, p3_2, p3_3, p3_4, p3_5, p3_6, p3_7, e1', hat, awake_ev, sa, sb, e2, e3, e4, ew, hw1, hn2, hf2, e5, e6, e7', e8, hm1, hm2]
  generalize hr : run (tab hsD) (.draw d3_8) _ _ = r
  have hSS : S = (sec b).take (clamp keep) ++ (sec a).drop (clamp keep) := by
    rw [← hS]
    have h1 : much [keep] 0 = clamp keep := rfl
    have hcl := clamp_le keep
    simp only [shown, List.foldl_nil, List.nil_append, hitAll, keepAll, List.foldl_cons, h1]
    have hK0 : (List.replicate (4 * 64) (0 : UInt8)).length = 4 * 64 := List.length_replicate
    rw [secK_put (putK_len hK0 ht (by simp)) ht (by rw [List.length_take, sec_len]; exact Nat.min_le_right _ _), secK_put hK0 ht (by simp)]
    have : (secK (List.replicate (4 * 64) 0) t).drop (sec a).length = [] := List.drop_of_length_le (by rw [secK_len hK0 ht]; simp)
    rw [this, List.append_nil]
    simp [List.length_take, hcl]
  obtain ⟨ρ', σ', rfl, h8⟩ := safe_draw hr ha hb (clamp_le keep) hSS (by simp (disch := first | omega | (simp only [rkl]; omega)) only [rk1, rk2, rk3, rk4, rk5, Arg.get, ret1, AV.cells, AV.isCell, addOff, minmaxL, Cap.room, Cap.cut, cutI, isSt, resultOf, Function.comp_apply, Function.comp_def, beq_self_eq_true, if_true, if_false, ite_true, ite_false, reduceCtorEq, bne_self_eq_false, Option.some.injEq, Prod.mk.injEq, ↓reduceIte, Nat.reduceEqDiff, Nat.reduceAdd, Nat.reduceMul, Nat.reduceSub, Nat.reduceLeDiff, Nat.reduceLT, Int.reduceLT, Int.reduceLE, Int.reduceEq, Int.reduceAdd, Int.reduceSub, Int.reduceNeg, Int.reduceToNat, List.mapM_cons, List.mapM_nil, Option.pure_def, Option.bind_eq_bind, eq_self, decide_true, decide_false]) (by simp (disch := first | omega | (simp only [rkl]; omega)) only [rk1, rk2, rk3, rk4, rk5, Arg.get, ret1, AV.cells, AV.isCell, addOff, minmaxL, Cap.room, Cap.cut, cutI, isSt, resultOf, Function.comp_apply, Function.comp_def, beq_self_eq_true, if_true, if_false, ite_true, ite_false, reduceCtorEq, bne_self_eq_false, Option.some.injEq, Prod.mk.injEq, ↓reduceIte, Nat.reduceEqDiff, Nat.reduceAdd, Nat.reduceMul, Nat.reduceSub, Nat.reduceLeDiff, Nat.reduceLT, Int.reduceLT, Int.reduceLE, Int.reduceEq, Int.reduceAdd, Int.reduceSub, Int.reduceNeg, Int.reduceToNat, List.mapM_cons, List.mapM_nil, Option.pure_def, Option.bind_eq_bind, eq_self, decide_true, decide_false]) (by simp (disch := first | omega | (simp only [rkl]; omega)) only [rk1, rk2, rk3, rk4, rk5, Arg.get, ret1, AV.cells, AV.isCell, addOff, minmaxL, Cap.room, Cap.cut, cutI, isSt, resultOf, Function.comp_apply, Function.comp_def, beq_self_eq_true, if_true, if_false, ite_true, ite_false, reduceCtorEq, bne_self_eq_false, Option.some.injEq, Prod.mk.injEq, ↓reduceIte, Nat.reduceEqDiff, Nat.reduceAdd, Nat.reduceMul, Nat.reduceSub, Nat.reduceLeDiff, Nat.reduceLT, Int.reduceLT, Int.reduceLE, Int.reduceEq, Int.reduceAdd, Int.reduceSub, Int.reduceNeg, Int.reduceToNat, List.mapM_cons, List.mapM_nil, Option.pure_def, Option.bind_eq_bind, eq_self, decide_true, decide_false]) (by simp (disch := first | omega | (simp only [rkl]; omega)) only [rk1, rk2, rk3, rk4, rk5, Arg.get, ret1, AV.cells, AV.isCell, addOff, minmaxL, Cap.room, Cap.cut, cutI, isSt, resultOf, Function.comp_apply, Function.comp_def, beq_self_eq_true, if_true, if_false, ite_true, ite_false, reduceCtorEq, bne_self_eq_false, Option.some.injEq, Prod.mk.injEq, ↓reduceIte, Nat.reduceEqDiff, Nat.reduceAdd, Nat.reduceMul, Nat.reduceSub, Nat.reduceLeDiff, Nat.reduceLT, Int.reduceLT, Int.reduceLE, Int.reduceEq, Int.reduceAdd, Int.reduceSub, Int.reduceNeg, Int.reduceToNat, List.mapM_cons, List.mapM_nil, Option.pure_def, Option.bind_eq_bind, eq_self, decide_true, decide_false]) (by simp (disch := first | omega | (simp only [rkl]; omega)) only [rk1, rk2, rk3, rk4, rk5, Arg.get, ret1, AV.cells, AV.isCell, addOff, minmaxL, Cap.room, Cap.cut, cutI, isSt, resultOf, Function.comp_apply, Function.comp_def, beq_self_eq_true, if_true, if_false, ite_true, ite_false, reduceCtorEq, bne_self_eq_false, Option.some.injEq, Prod.mk.injEq, ↓reduceIte, Nat.reduceEqDiff, Nat.reduceAdd, Nat.reduceMul, Nat.reduceSub, Nat.reduceLeDiff, Nat.reduceLT, Int.reduceLT, Int.reduceLE, Int.reduceEq, Int.reduceAdd, Int.reduceSub, Int.reduceNeg, Int.reduceToNat, List.mapM_cons, List.mapM_nil, Option.pure_def, Option.bind_eq_bind, eq_self, decide_true, decide_false]) (by simp (disch := first | omega | (simp only [rkl]; omega)) only [rk1, rk2, rk3, rk4, rk5, Arg.get, ret1, AV.cells, AV.isCell, addOff, minmaxL, Cap.room, Cap.cut, cutI, isSt, resultOf, Function.comp_apply, Function.comp_def, beq_self_eq_true, if_true, if_false, ite_true, ite_false, reduceCtorEq, bne_self_eq_false, Option.some.injEq, Prod.mk.injEq, ↓reduceIte, Nat.reduceEqDiff, Nat.reduceAdd, Nat.reduceMul, Nat.reduceSub, Nat.reduceLeDiff, Nat.reduceLT, Int.reduceLT, Int.reduceLE, Int.reduceEq, Int.reduceAdd, Int.reduceSub, Int.reduceNeg, Int.reduceToNat, List.mapM_cons, List.mapM_nil, Option.pure_def, Option.bind_eq_bind, eq_self, decide_true, decide_false]) e8
  simp (disch := first | omega | (simp only [rkl]; omega)) only [rk1, rk2, rk3, rk4, rk5, Arg.get, ret1, AV.cells, AV.isCell, addOff, minmaxL, Cap.room, Cap.cut, cutI, isSt, resultOf, Function.comp_apply, Function.comp_def, beq_self_eq_true, if_true, if_false, ite_true, ite_false, reduceCtorEq, bne_self_eq_false, Option.some.injEq, Prod.mk.injEq, ↓reduceIte, Nat.reduceEqDiff, Nat.reduceAdd, Nat.reduceMul, Nat.reduceSub, Nat.reduceLeDiff, Nat.reduceLT, Int.reduceLT, Int.reduceLE, Int.reduceEq, Int.reduceAdd, Int.reduceSub, Int.reduceNeg, Int.reduceToNat, List.mapM_cons, List.mapM_nil, Option.pure_def, Option.bind_eq_bind, eq_self, decide_true, decide_false, h8]
end Go.Proofs.Ytkhalpmmdlppkaa
