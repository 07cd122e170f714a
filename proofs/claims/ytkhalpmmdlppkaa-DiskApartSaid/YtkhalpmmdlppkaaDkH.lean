/-
  THE DISK: what a program that does nothing does not answer.
-/
import Derived.Test.YtkhalpmmdlppkaaDkG
namespace Go.Proofs.Ytkhalpmmdlppkaa
set_option linter.unusedSimpArgs false
set_option linter.unusedVariables false
open Go.Vm

section
variable {hs : FuncId → Hint} (H : DiskH hs) {σ : St} {o : Nat} {K : List UInt8} {n : Nat} {w : W} {down : Bool} {armed : Int} (D : DiskO σ o K n w down armed)
include D

theorem DiskO.new (cs : List AV) : DiskO (σ.new cs) o K n w down armed := by
  obtain ⟨⟨kcap, Wc, hw, ho⟩, h2, h3, h4, h5⟩ := D
  have hlt := ho.lt
  refine ⟨⟨kcap, Wc, hw, ⟨by simp; omega, ?_, fun k c b hk hb => ?_⟩⟩, h2, h3, h4, h5⟩
  · have := ho.main
    simp only [St.new]
    rw [if_neg (by simp; omega)]; exact this
  · have := ho.blks k c b hk hb
    simp only [St.new]
    rw [if_neg (by simp)]; exact this

include H
theorem read_ev (hw : w.length < 2 ^ 62) (a : Int) : ev (tab hs) 23 [.ptr ⟨o, 0, 0⟩ 0, .int .i64 a] σ =
    some (if down then .tup [.isl false [] 0 none, .int .i64 3] else if 0 ≤ a ∧ a < n then .tup [.isl false (bs (shown K w a.toNat)) 64 none, .int .i64 0] else .tup [.isl false [] 0 none, .int .i64 1], σ) := by
  obtain ⟨fw, hsn⟩ := D.snap
  exact pure_ev (H.read ▸ tab23 hs) (snaps_cons hsn (snaps_cons rfl (snaps_nil σ))) (read_pure H D.len D.few D.full hw a)
end

section
variable {T : Table} {h : Hint}
theorem bytes_pure {a b : List UInt8} {f g : Bool} {c d : Option Nat} : pureOf (run T) ⟨10, 2, code24, [.tmp 4], h⟩ [.isl f (bs a) a.length c, .isl g (bs b) b.length d] = some (.bool (decide (a = b))) := by
  have he : ∀ (l : List UInt8) (f : Bool) (c : Option Nat) (σ : St), elems σ 1 l.length (.isl f (bs l) l.length c) = some (bs l) := by
    intro l f c σ
    simp only [elems, bs_len, Nat.mul_one]
    rw [if_pos (Nat.le_refl _), List.take_of_length_le (by simp)]
  simp (disch := first | omega | (simp only [rkl]; omega)) only [rk1, rk2, rk3, rk4, rk5, Arg.get, ret1, AV.cells, AV.isCell, addOff, minmaxL, Cap.room, Cap.cut, cutI, isSt, resultOf, Function.comp_apply, Function.comp_def, beq_self_eq_true, if_true, if_false, ite_true, ite_false, reduceCtorEq, bne_self_eq_false, Option.some.injEq, Prod.mk.injEq, ↓reduceIte, Nat.reduceEqDiff, Nat.reduceAdd, Nat.reduceMul, Nat.reduceSub, Nat.reduceLeDiff, Nat.reduceLT, Int.reduceLT, Int.reduceLE, Int.reduceEq, Int.reduceAdd, Int.reduceSub, Int.reduceNeg, Int.reduceToNat, List.mapM_cons, List.mapM_nil, Option.pure_def, Option.bind_eq_bind, eq_self, decide_true, decide_false, code24, p24_1, p24_2, he, bs_byte]
end

theorem argIn_sl {σ : St} {cs : List AV} {len sz o : Nat} {cap : Cap} (ho : o < σ.next) (hc : ∀ s, cs.mapM (snap s 6) = some cs) (hl : len * sz = cs.length) :
    argIn (σ.new cs) [o] (.sl ⟨σ.next, 0, 0⟩ 0 len cap sz) = some (.isl true cs len none) := by
  have hg : ((σ.new cs).but [o]).get ⟨σ.next, 0, 0⟩ = some cs := by
    simp only [St.get, St.but, St.new]
    rw [if_neg (by simp; omega)]
    simp
  simp only [argIn, AV.nref, Bool.false_eq_true, if_false, depth, snap_sl, hg, Option.bind_some, Nat.zero_add, List.drop_zero]
  rw [if_pos (by omega), List.take_of_length_le (by omega), hc]; rfl

section
variable {hs : FuncId → Hint} (H : DiskH hs)
include H
theorem awake_pure {h : Hint} : pureOf (run (tab hs)) ⟨57, 0, code16, [.tmp 0], h⟩ [] = some (.bool true) := by
  obtain ⟨σ1, e1, D1, n1, _, _⟩ := new_ev H emptySt 2 (by omega) (by omega)
  rw [next_empty] at e1 D1 n1
  have D1' := D1.new [.int .u8 7]
  have hsec : ev (tab hs) 18 [.sl ⟨σ1.next, 0, 0⟩ 0 1 (.ex 1) 1] (σ1.new [.int .u8 7]) = some (.isl false (bs (sec [7])) 64 none, σ1.new [.int .u8 7]) :=
    sector_ev (b := [7]) (f := true) (c := none) H.sector (by simp (disch := first | omega | (simp only [rkl]; omega)) only [rk1, rk2, rk3, rk4, rk5, Arg.get, ret1, AV.cells, AV.isCell, addOff, minmaxL, Cap.room, Cap.cut, cutI, isSt, resultOf, Function.comp_apply, Function.comp_def, beq_self_eq_true, if_true, if_false, ite_true, ite_false, reduceCtorEq, bne_self_eq_false, Option.some.injEq, Prod.mk.injEq, ↓reduceIte, Nat.reduceEqDiff, Nat.reduceAdd, Nat.reduceMul, Nat.reduceSub, Nat.reduceLeDiff, Nat.reduceLT, Int.reduceLT, Int.reduceLE, Int.reduceEq, Int.reduceAdd, Int.reduceSub, Int.reduceNeg, Int.reduceToNat, List.mapM_cons, List.mapM_nil, Option.pure_def, Option.bind_eq_bind, eq_self, decide_true, decide_false]; rfl) (by decide)
  obtain ⟨σ2, e2, D2, _⟩ := write_ev H D1' (by decide) (a := 0) (by omega) (b := sec [7]) (f := false) (c := none) (by simp) rfl
  have D2' := D2.new [.int .i64 3]
  have hlt : 0 < σ2.next := by obtain ⟨_, _, _, ho⟩ := D2.ex; exact ho.lt
  obtain ⟨σ3, e3, D3, _⟩ := crash_ev H D2' (by decide) (ks := [3]) (by decide) (x := .sl ⟨σ2.next, 0, 0⟩ 0 1 (.ex 1) 1) (f := true) (c := none) (argIn_sl hlt (fun s => rfl) rfl)
  obtain ⟨σ4, e4, D4, _⟩ := start_ev H D3
  have e5 := read_ev H D4 (by decide) 0
  have hS : shown (hitAll [3] 0 (List.replicate (2 * 64) 0) ([] ++ [(0, sec [7])])) (if true = true then [] else []) (0 : Int).toNat = [7, 7, 7] ++ List.replicate 61 0 := by decide
  rw [hS] at e5
  have hn1 : ∀ s : St, newCells s [.int .u8 7] = some (⟨s.next, 0, 0⟩, s.new [.int .u8 7]) := fun s => newCells_ok rfl
  have hn2 : ∀ s : St, newCells s [.int .i64 3] = some (⟨s.next, 0, 0⟩, s.new [.int .i64 3]) := fun s => newCells_ok rfl
  have hl : ([7, 7, 7] ++ List.replicate 61 (0 : UInt8)).length = 64 := rfl
  have hf1 : fillV [.int .u8 0] [(0, 1, [.int .u8 7])] = some [.int .u8 7] := rfl
  have hf2 : fillV [.int .i64 0] [(0, 1, [.int .i64 3])] = some [.int .i64 3] := rfl
  have g2 : (bs ([7, 7, 7] ++ List.replicate 61 0))[2]? = some (.int .u8 7) := rfl
  have g3 : (bs ([7, 7, 7] ++ List.replicate 61 0))[3]? = some (.int .u8 0) := rfl
  simp only [Int.cast_ofNat_Int, Int.natCast_zero] at e1 e2
  have e1' : ev (tab hs) 15 [.int .i64 2] emptySt = some (.tup [.ptr ⟨0, 0, 0⟩ 0, .int .i64 0], σ1) := e1
  have e2' : ev (tab hs) 17 [.ptr ⟨0, 0, 0⟩ 0, .int .i64 0, .isl false (bs (sec [7])) 64 none] (σ1.new [.int .u8 7]) = some (.int .i64 0, σ2) := e2
  have e5' : ev (tab hs) 23 [.ptr ⟨0, 0, 0⟩ 0, .int .i64 0] σ4 = some (.tup [.isl false (bs ([7, 7, 7] ++ List.replicate 61 0)) 64 none, .int .i64 0], σ4) := e5
  generalize [7, 7, 7] ++ List.replicate 61 (0 : UInt8) = S at *
  simp (disch := first | omega | (simp only [rkl]; omega)) only [rk1, rk2, rk3, rk4, rk5, Arg.get, ret1, AV.cells, AV.isCell, addOff, minmaxL, Cap.room, Cap.cut, cutI, isSt, resultOf, Function.comp_apply, Function.comp_def, beq_self_eq_true, if_true, if_false, ite_true, ite_false, reduceCtorEq, bne_self_eq_false, Option.some.injEq, Prod.mk.injEq, ↓reduceIte, Nat.reduceEqDiff, Nat.reduceAdd, Nat.reduceMul, Nat.reduceSub, Nat.reduceLeDiff, Nat.reduceLT, Int.reduceLT, Int.reduceLE, Int.reduceEq, Int.reduceAdd, Int.reduceSub, Int.reduceNeg, Int.reduceToNat, List.mapM_cons, List.mapM_nil, Option.pure_def, Option.bind_eq_bind, eq_self, decide_true, decide_false, code16, p16_1, p16_2, p16_3, p16_4, p16_5, p16_6, e1', hn1, hn2, hf1, hf2, hsec, e2', e3, e4, e5', g2, g3]
end
end Go.Proofs.Ytkhalpmmdlppkaa
