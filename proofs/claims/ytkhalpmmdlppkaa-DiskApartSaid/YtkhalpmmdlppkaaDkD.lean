/-
  THE DISK: calls that turn it.
-/
import Derived.Test.YtkhalpmmdlppkaaDkC
namespace Go.Proofs.Ytkhalpmmdlppkaa
set_option linter.unusedSimpArgs false
set_option linter.unusedVariables false
open Go.Vm

/-- What is given is no place. -/
def Plain (r : AV) : Prop := ∀ σ b u ok, frz σ b u 7 ok r = some r
theorem plain_int (k : IntKind) (x : Int) : Plain (.int k x) := fun _ _ _ _ => rfl
theorem plain_bool (x : Bool) : Plain (.bool x) := fun _ _ _ _ => rfl

/-- How the cell of the writes stands in a state. -/
inductive WCell (σ1 : St) : AV → W → Prop
  | nil : WCell σ1 .nilsl []
  | sl {i : Vm.Id} {w : W} (h : σ1.get i = some (wc w)) : WCell σ1 (.sl i 0 w.length (.ge w.length) 65) w

section
variable {T : Table} {f : FuncId} {nt np : Nat} {code : C} {res : List RV}

theorem disk_turn (hf : T f = some ⟨nt, np, code, res, .mut [(0, [])] none⟩) {o : Nat} {σ σ1 : St} {n : Nat} {xs ys : List AV} {r : AV} {kid : Vm.Id} {kcap : Cap} {wcell : AV} {K' : List UInt8} {w' : W} {down' : Bool} {armed' : Int}
    (ho : o < σ.next) (hn : n ≤ 65536) (harm : 0 ≤ armed' ∧ armed' ≤ 9223372036854775807)
    (hin : xs.mapM (argIn σ [o]) = some ys) (hrun : bodyOf (run T) ⟨nt, np, code, res, .mut [(0, [])] none⟩ (.ptr ⟨o, 0, 0⟩ 0 :: ys) (σ.only [o]) = some (r, σ1))
    (hc : σ1.get ⟨o, 0, 0⟩ = some [.sl kid 0 n kcap 64, wcell, .bool down', .int .i64 armed'])
    (hk : σ1.get kid = some (bs K')) (hw : WCell σ1 wcell w') (hd : idsNodup (⟨o, 0, 0⟩ :: kid :: (refId wcell).toList) = true) (hK : K'.length = n * 64) (hfull : Full n w') (hr : Plain r) :
    ∃ σ', ev T f (.ptr ⟨o, 0, 0⟩ 0 :: xs) σ = some (r, σ') ∧ DiskO σ' o K' n w' down' armed' ∧ Kept σ σ' o := by
  cases hw with
  | nil =>
    obtain ⟨σ', h1, h2, h3⟩ := ev_mut hf ho hin (rs := [.sl (bs K') 0 n kcap 64, .v .nilsl, .v (.bool down'), .v (.int .i64 armed')]) hrun hc
      (by simp [okCell, hk, bs_flt, AV.flt]) (by simpa [refId, List.filterMap] using hd) (hr _ _ _ _) (.sl hk (.v rfl (.v rfl (.v rfl .nil))))
    exact ⟨σ', h1, ⟨⟨_, _, .nil, h2⟩, hK, hfull, hn, harm⟩, h3⟩
  | sl h =>
    obtain ⟨σ', h1, h2, h3⟩ := ev_mut hf ho hin (rs := [.sl (bs K') 0 n kcap 64, .sl (wc w') 0 w'.length (.ge w'.length) 65, .v (.bool down'), .v (.int .i64 armed')]) hrun hc
      (by simp [okCell, hk, h, bs_flt, wc_flt, AV.flt]) (by simpa [refId, List.filterMap] using hd) (hr _ _ _ _) (.sl hk (.sl h (.v rfl (.v rfl .nil))))
    exact ⟨σ', h1, ⟨⟨_, _, .sl _, h2⟩, hK, hfull, hn, harm⟩, h3⟩

end

/-- What a body that turns a disk starts from. -/
theorem DiskO.start {σ : St} {o : Nat} {K : List UInt8} {n : Nat} {w : W} {down : Bool} {armed : Int} (D : DiskO σ o K n w down armed) :
    ∃ v kcap wcell, o < σ.next ∧ (σ.only [o]).get ⟨o, 0, 0⟩ = some [.sl ⟨o, 1, v⟩ 0 n kcap 64, wcell, .bool down, .int .i64 armed] ∧ (σ.only [o]).get ⟨o, 1, v⟩ = some (bs K) ∧
      ((wcell = .nilsl ∧ w = []) ∨ (wcell = .sl ⟨o, 2, v⟩ 0 w.length (.ge w.length) 65 ∧ (σ.only [o]).get ⟨o, 2, v⟩ = some (wc w))) := by
  obtain ⟨kcap, Wc, hw, ho⟩ := D.ex
  have ho' := ho.only (O := [o]) (by simp)
  cases hw with
  | nil => exact ⟨σ.ver o, kcap, _, ho.lt, ho'.get, ho'.sl (k := 0) rfl, .inl ⟨rfl, rfl⟩⟩
  | sl => exact ⟨σ.ver o, kcap, _, ho.lt, ho'.get, ho'.sl (k := 0) rfl, .inr ⟨rfl, ho'.sl (k := 1) rfl⟩⟩

section
variable {hs : FuncId → Hint} (H : DiskH hs) {σ : St} {o : Nat} {K : List UInt8} {n : Nat} {w : W} {down : Bool} {armed : Int} (D : DiskO σ o K n w down armed)
include H D

theorem start_ev : ∃ σ', ev (tab hs) 22 [.ptr ⟨o, 0, 0⟩ 0] σ = some (.int .i64 0, σ') ∧ DiskO σ' o K n (if down then [] else w) false 0 ∧ Kept σ σ' o := by
  obtain ⟨v, kcap, wcell, ho, hg, hk, hw⟩ := D.start
  have hwc : ∀ s1 : St, (∀ k, s1.get ⟨o, k + 1, v⟩ = (σ.only [o]).get ⟨o, k + 1, v⟩) → WCell s1 wcell w := by
    intro s1 h1
    rcases hw with ⟨rfl, rfl⟩ | ⟨rfl, hw⟩
    · exact .nil
    · exact .sl (by rw [h1 1, hw])
  have hid : idsNodup (⟨o, 0, 0⟩ :: ⟨o, 1, v⟩ :: (refId wcell).toList) = true := by
    rcases hw with ⟨rfl, rfl⟩ | ⟨rfl, hw⟩ <;> simp [refId, idsNodup]
  cases down with
  | true =>
    refine disk_turn (H.start ▸ tab22 hs) (σ1 := (σ.only [o]).set ⟨o, 0, 0⟩ (some (.cells [.sl ⟨o, 1, v⟩ 0 n kcap 64, .nilsl, .bool false, .int .i64 0]))) (kid := ⟨o, 1, v⟩) (kcap := kcap) (wcell := .nilsl) ho D.few (by simp) (ins_nil _ _) ?_ ?_ ?_ .nil (by simp [refId, idsNodup]) D.len (fun x hx => by simp at hx) (plain_int _ _)
    · simp (disch := first | omega | (simp only [rkl]; omega)) only [rk1, rk2, rk3, rk4, rk5, Arg.get, ret1, AV.cells, AV.isCell, addOff, minmaxL, Cap.room, Cap.cut, cutI, isSt, resultOf, Function.comp_apply, Function.comp_def, beq_self_eq_true, if_true, if_false, ite_true, ite_false, reduceCtorEq, bne_self_eq_false, Option.some.injEq, Prod.mk.injEq, ↓reduceIte, Nat.reduceEqDiff, Nat.reduceAdd, Nat.reduceMul, Nat.reduceSub, Nat.reduceLeDiff, Nat.reduceLT, Int.reduceLT, Int.reduceLE, Int.reduceEq, Int.reduceAdd, Int.reduceSub, Int.reduceNeg, Int.reduceToNat, List.mapM_cons, List.mapM_nil, Option.pure_def, Option.bind_eq_bind, eq_self, decide_true, decide_false, code22, p22_1, p22_2, p22_3, p22_4, p22_5, p22_6, p22_7, hg]
    · simp
    · simpa using hk
  | false =>
    refine disk_turn (H.start ▸ tab22 hs) (σ1 := (σ.only [o]).set ⟨o, 0, 0⟩ (some (.cells [.sl ⟨o, 1, v⟩ 0 n kcap 64, wcell, .bool false, .int .i64 0]))) (kid := ⟨o, 1, v⟩) (kcap := kcap) (wcell := wcell) ho D.few (by simp) (ins_nil _ _) ?_ ?_ ?_ (hwc _ fun k => by simp) hid D.len D.full (plain_int _ _)
    · simp (disch := first | omega | (simp only [rkl]; omega)) only [rk1, rk2, rk3, rk4, rk5, Arg.get, ret1, AV.cells, AV.isCell, addOff, minmaxL, Cap.room, Cap.cut, cutI, isSt, resultOf, Function.comp_apply, Function.comp_def, beq_self_eq_true, if_true, if_false, ite_true, ite_false, reduceCtorEq, bne_self_eq_false, Option.some.injEq, Prod.mk.injEq, ↓reduceIte, Nat.reduceEqDiff, Nat.reduceAdd, Nat.reduceMul, Nat.reduceSub, Nat.reduceLeDiff, Nat.reduceLT, Int.reduceLT, Int.reduceLE, Int.reduceEq, Int.reduceAdd, Int.reduceSub, Int.reduceNeg, Int.reduceToNat, List.mapM_cons, List.mapM_nil, Option.pure_def, Option.bind_eq_bind, eq_self, decide_true, decide_false, code22, p22_1, p22_2, p22_3, p22_4, p22_5, p22_6, p22_7, hg]
    · simp
    · simpa using hk

theorem arm_ev (a : Int) (h1 : -9223372036854775808 ≤ a) (h2 : a ≤ 9223372036854775807) : ∃ σ', ev (tab hs) 29 [.ptr ⟨o, 0, 0⟩ 0, .int .i64 a] σ = some (.int .i64 0, σ') ∧ DiskO σ' o K n w down (max a 0) ∧ Kept σ σ' o := by
  obtain ⟨v, kcap, wcell, ho, hg, hk, hw⟩ := D.start
  have hwc : ∀ s1 : St, (∀ k, s1.get ⟨o, k + 1, v⟩ = (σ.only [o]).get ⟨o, k + 1, v⟩) → WCell s1 wcell w := by
    intro s1 h1
    rcases hw with ⟨rfl, rfl⟩ | ⟨rfl, hw⟩
    · exact .nil
    · exact .sl (by rw [h1 1, hw])
  have hid : idsNodup (⟨o, 0, 0⟩ :: ⟨o, 1, v⟩ :: (refId wcell).toList) = true := by
    rcases hw with ⟨rfl, rfl⟩ | ⟨rfl, hw⟩ <;> simp [refId, idsNodup]
  refine disk_turn (H.arm ▸ tab29 hs) (σ1 := (σ.only [o]).set ⟨o, 0, 0⟩ (some (.cells [.sl ⟨o, 1, v⟩ 0 n kcap 64, wcell, .bool down, .int .i64 (max a 0)]))) (kid := ⟨o, 1, v⟩) (kcap := kcap) (wcell := wcell) ho D.few (by omega) (ins_cons rfl (ins_nil _ _)) ?_ ?_ ?_ (hwc _ fun k => by simp) hid D.len D.full (plain_int _ _)
  · by_cases ha : 0 < a
    · have hm : max a 0 = a := by omega
      have hm2 : ¬ (0 : Int) > a := by omega
      simp (disch := first | omega | (simp only [rkl]; omega)) only [rk1, rk2, rk3, rk4, rk5, Arg.get, ret1, AV.cells, AV.isCell, addOff, minmaxL, Cap.room, Cap.cut, cutI, isSt, resultOf, Function.comp_apply, Function.comp_def, beq_self_eq_true, if_true, if_false, ite_true, ite_false, reduceCtorEq, bne_self_eq_false, Option.some.injEq, Prod.mk.injEq, ↓reduceIte, Nat.reduceEqDiff, Nat.reduceAdd, Nat.reduceMul, Nat.reduceSub, Nat.reduceLeDiff, Nat.reduceLT, Int.reduceLT, Int.reduceLE, Int.reduceEq, Int.reduceAdd, Int.reduceSub, Int.reduceNeg, Int.reduceToNat, List.mapM_cons, List.mapM_nil, Option.pure_def, Option.bind_eq_bind, eq_self, decide_true, decide_false, code29, p29_1, p29_2, p29_3, p29_4, p29_5, hg, hm, hm2]
    · have hm : max a 0 = 0 := by omega
      rcases Int.lt_or_eq_of_le (Int.not_lt.1 ha) with h0 | h0
      · have hm2 : (0 : Int) > a := by omega
        simp (disch := first | omega | (simp only [rkl]; omega)) only [rk1, rk2, rk3, rk4, rk5, Arg.get, ret1, AV.cells, AV.isCell, addOff, minmaxL, Cap.room, Cap.cut, cutI, isSt, resultOf, Function.comp_apply, Function.comp_def, beq_self_eq_true, if_true, if_false, ite_true, ite_false, reduceCtorEq, bne_self_eq_false, Option.some.injEq, Prod.mk.injEq, ↓reduceIte, Nat.reduceEqDiff, Nat.reduceAdd, Nat.reduceMul, Nat.reduceSub, Nat.reduceLeDiff, Nat.reduceLT, Int.reduceLT, Int.reduceLE, Int.reduceEq, Int.reduceAdd, Int.reduceSub, Int.reduceNeg, Int.reduceToNat, List.mapM_cons, List.mapM_nil, Option.pure_def, Option.bind_eq_bind, eq_self, decide_true, decide_false, code29, p29_1, p29_2, p29_3, p29_4, p29_5, hg, hm, hm2]
      · subst h0
        simp (disch := first | omega | (simp only [rkl]; omega)) only [rk1, rk2, rk3, rk4, rk5, Arg.get, ret1, AV.cells, AV.isCell, addOff, minmaxL, Cap.room, Cap.cut, cutI, isSt, resultOf, Function.comp_apply, Function.comp_def, beq_self_eq_true, if_true, if_false, ite_true, ite_false, reduceCtorEq, bne_self_eq_false, Option.some.injEq, Prod.mk.injEq, ↓reduceIte, Nat.reduceEqDiff, Nat.reduceAdd, Nat.reduceMul, Nat.reduceSub, Nat.reduceLeDiff, Nat.reduceLT, Int.reduceLT, Int.reduceLE, Int.reduceEq, Int.reduceAdd, Int.reduceSub, Int.reduceNeg, Int.reduceToNat, List.mapM_cons, List.mapM_nil, Option.pure_def, Option.bind_eq_bind, eq_self, decide_true, decide_false, code29, p29_1, p29_2, p29_3, p29_4, p29_5, hg, hm]
  · simp
  · simpa using hk
end

section
variable {hs : FuncId → Hint} (H : DiskH hs)
include H

theorem new_ev (σ : St) (n : Nat) (h1 : 1 ≤ n) (h2 : n ≤ 65536) : ∃ σ', ev (tab hs) 15 [.int .i64 n] σ = some (.tup [.ptr ⟨σ.next, 0, 0⟩ 0, .int .i64 0], σ') ∧ DiskO σ' σ.next (List.replicate (n * 64) 0) n [] false 0 ∧
    σ'.next = σ.next + 1 ∧ (∀ i, i.o ≠ σ.next → σ'.heap i = σ.heap i) ∧ σ'.ver = σ.ver := by
  have hz : (List.replicate n (List.replicate 64 (AV.int .u8 0))).flatten = bs (List.replicate (n * 64) 0) := by
    rw [List.flatten_replicate_replicate]; simp only [bs, List.map_replicate]; rfl
  have hnc : newCells (σ.only []) (bs (List.replicate (n * 64) 0)) = some (⟨σ.next, 0, 0⟩, (σ.only []).new (bs (List.replicate (n * 64) 0))) := newCells_ok (bs_cell _)
  have hgm : n * 64 ≤ growMax := Nat.le_trans (Nat.mul_le_mul_right 64 h2) (by decide)
  have hnc2 : ∀ (s : St) (i : Vm.Id), newCells s [.sl i 0 n (.ex n) 64, .nilsl, .bool false, .int .i64 0] = some (⟨s.next, 0, 0⟩, s.new [.sl i 0 n (.ex n) 64, .nilsl, .bool false, .int .i64 0]) := fun s i => newCells_ok rfl
  have hfv : ∀ i : Vm.Id, fillV [.nilsl, .nilsl, .bool false, .int .i64 0] [(0, 1, [.sl i 0 n (.ex n) 64])] = some [.sl i 0 n (.ex n) 64, .nilsl, .bool false, .int .i64 0] := fun i => rfl
  obtain ⟨σ', g1, g2, g3, g4, g5⟩ := ev_new (T := tab hs) (H.new ▸ tab15 hs) (σ := σ) (i := ⟨σ.next + 1, 0, 0⟩) (r := .int .i64 0) (r' := .int .i64 0) (args := [.int .i64 n])
    (σ1 := ((σ.only []).new (bs (List.replicate (n * 64) 0))).new [.sl ⟨σ.next, 0, 0⟩ 0 n (.ex n) 64, .nilsl, .bool false, .int .i64 0])
    (cs := [.sl ⟨σ.next, 0, 0⟩ 0 n (.ex n) 64, .nilsl, .bool false, .int .i64 0]) (rs := [.sl (bs (List.replicate (n * 64) 0)) 0 n (.ex n) 64, .v .nilsl, .v (.bool false), .v (.int .i64 0)])
    (by simp) (ins_cons rfl (ins_nil _ _)) (by
      simp (disch := first | omega | (simp only [rkl]; omega)) only [rk1, rk2, rk3, rk4, rk5, Arg.get, ret1, AV.cells, AV.isCell, addOff, minmaxL, Cap.room, Cap.cut, cutI, isSt, resultOf, Function.comp_apply, Function.comp_def, beq_self_eq_true, if_true, if_false, ite_true, ite_false, reduceCtorEq, bne_self_eq_false, Option.some.injEq, Prod.mk.injEq, ↓reduceIte, Nat.reduceEqDiff, Nat.reduceAdd, Nat.reduceMul, Nat.reduceSub, Nat.reduceLeDiff, Nat.reduceLT, Int.reduceLT, Int.reduceLE, Int.reduceEq, Int.reduceAdd, Int.reduceSub, Int.reduceNeg, Int.reduceToNat, List.mapM_cons, List.mapM_nil, Option.pure_def, Option.bind_eq_bind, eq_self, decide_true, decide_false, code15, p15_1, p15_2, p15_3, p15_4, hz, hnc, hgm, hnc2, hfv]) (by simp) (by simp [okCell, bs_flt, AV.flt]) (by simp [refId, idsNodup, List.filterMap]) rfl (.sl (by simp) (.v rfl (.v rfl (.v rfl .nil))))
  exact ⟨σ', g1, ⟨⟨_, _, .nil, g2⟩, by simp, fun x hx => by simp at hx, h2, by simp⟩, g3, g4, g5⟩
end
end Go.Proofs.Ytkhalpmmdlppkaa
