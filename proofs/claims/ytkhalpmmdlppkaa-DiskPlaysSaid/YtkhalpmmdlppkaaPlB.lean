/-
  THE REFERENCE's DISK: how it stands in a state; hit, Start, New.
-/
import Derived.Test.YtkhalpmmdlppkaaPlA
import Derived.Test.YtkhalpmmdlppkaaVmEw
namespace Go.Proofs.Ytkhalpmmdlppkaa
set_option linter.unusedSimpArgs false
set_option linter.unusedVariables false
open Go.Vm

inductive WaitQ : RC → W → Prop
  | nil : WaitQ (.v .nilsl) []
  | sl (w : W) : WaitQ (.sl (wc w) 0 w.length (.ge w.length) 65) w

structure RefO (σ : St) (o : Nat) (K : List UInt8) (n : Nat) (w : W) (down : Bool) (armed : Int) : Prop where
  ex : ∃ kcap Wc, WaitQ Wc w ∧ Vm.Obj σ o [.sl (bs K) 0 n kcap 64, Wc, .v (.int .i64 armed), .v (.bool down)]
  len : K.length = n * 64
  full : Full n w
  few : n ≤ 65536
  arm : 0 ≤ armed ∧ armed ≤ 9223372036854775807

/-- The picture of a reference's disk. -/
def picR (K : List UInt8) (n : Nat) (fw : Bool) (w : W) (down : Bool) (armed : Int) : AV :=
  .iptr true [.isl true (bs K) n none, .isl fw (wc w) w.length none, .int .i64 armed, .bool down] 0

theorem RefO.snap {σ : St} {o : Nat} {K : List UInt8} {n : Nat} {w : W} {down : Bool} {armed : Int} (h : RefO σ o K n w down armed) : ∃ fw, snap σ 7 (.ptr ⟨o, 0, 0⟩ 0) = some (picR K n fw w down armed) := by
  obtain ⟨kcap, Wc, hw, ho⟩ := h.ex
  have hg := ho.get
  have hk := ho.sl (k := 0) rfl
  have hK : (bs K).take (n * 64) = bs K := List.take_of_length_le (by simp [h.len])
  cases hw with
  | nil =>
    refine ⟨false, ?_⟩
    simp [snap_ptr, hg, rcCells, RC.cell, snap_sl, hk, snap_bs, h.len, hK, picR, wc_nil, List.take_of_length_le]
  | sl =>
    refine ⟨true, ?_⟩
    have hs := ho.sl (k := 1) rfl
    have hW : (wc w).take (w.length * 65) = wc w := List.take_of_length_le (by simp [wc_len h.full])
    simp [snap_ptr, hg, rcCells, RC.cell, snap_sl, hk, hs, snap_bs, wc_snap, h.len, hK, picR, wc_len h.full, List.take_of_length_le]

theorem plain_none : Plain (.tup []) := fun _ _ _ _ => rfl

section
variable {T : Table} {f : FuncId} {nt np : Nat} {code : C} {res : List RV}

theorem ref_turn (hf : T f = some ⟨nt, np, code, res, .mut [(0, [])] none⟩) {o : Nat} {σ σ1 : St} {n : Nat} {xs ys : List AV} {r : AV} {kid : Vm.Id} {kcap : Cap} {wcell : AV} {K' : List UInt8} {w' : W} {down' : Bool} {armed' : Int}
    (ho : o < σ.next) (hn : n ≤ 65536) (harm : 0 ≤ armed' ∧ armed' ≤ 9223372036854775807)
    (hin : xs.mapM (argIn σ [o]) = some ys) (hrun : bodyOf (run T) ⟨nt, np, code, res, .mut [(0, [])] none⟩ (.ptr ⟨o, 0, 0⟩ 0 :: ys) (σ.only [o]) = some (r, σ1))
    (hc : σ1.get ⟨o, 0, 0⟩ = some [.sl kid 0 n kcap 64, wcell, .int .i64 armed', .bool down'])
    (hk : σ1.get kid = some (bs K')) (hw : WCell σ1 wcell w') (hd : idsNodup (⟨o, 0, 0⟩ :: kid :: (refId wcell).toList) = true) (hK : K'.length = n * 64) (hfull : Full n w') (hr : Plain r) :
    ∃ σ', ev T f (.ptr ⟨o, 0, 0⟩ 0 :: xs) σ = some (r, σ') ∧ RefO σ' o K' n w' down' armed' ∧ Kept σ σ' o := by
  cases hw with
  | nil =>
    obtain ⟨σ', h1, h2, h3⟩ := ev_mut hf ho hin (rs := [.sl (bs K') 0 n kcap 64, .v .nilsl, .v (.int .i64 armed'), .v (.bool down')]) hrun hc
      (by simp [okCell, hk, bs_flt, AV.flt]) (by simpa [refId, List.filterMap] using hd) (hr _ _ _ _) (.sl hk (.v rfl (.v rfl (.v rfl .nil))))
    exact ⟨σ', h1, ⟨⟨_, _, .nil, h2⟩, hK, hfull, hn, harm⟩, h3⟩
  | sl h =>
    obtain ⟨σ', h1, h2, h3⟩ := ev_mut hf ho hin (rs := [.sl (bs K') 0 n kcap 64, .sl (wc w') 0 w'.length (.ge w'.length) 65, .v (.int .i64 armed'), .v (.bool down')]) hrun hc
      (by simp [okCell, hk, h, bs_flt, wc_flt, AV.flt]) (by simpa [refId, List.filterMap] using hd) (hr _ _ _ _) (.sl hk (.sl h (.v rfl (.v rfl .nil))))
    exact ⟨σ', h1, ⟨⟨_, _, .sl _, h2⟩, hK, hfull, hn, harm⟩, h3⟩
end

/-- What a body that turns a reference's disk starts from. -/
theorem RefO.start {σ : St} {o : Nat} {K : List UInt8} {n : Nat} {w : W} {down : Bool} {armed : Int} (D : RefO σ o K n w down armed) :
    ∃ v kcap wcell, o < σ.next ∧ (σ.only [o]).get ⟨o, 0, 0⟩ = some [.sl ⟨o, 1, v⟩ 0 n kcap 64, wcell, .int .i64 armed, .bool down] ∧ (σ.only [o]).get ⟨o, 1, v⟩ = some (bs K) ∧
      ((wcell = .nilsl ∧ w = []) ∨ (wcell = .sl ⟨o, 2, v⟩ 0 w.length (.ge w.length) 65 ∧ (σ.only [o]).get ⟨o, 2, v⟩ = some (wc w))) := by
  obtain ⟨kcap, Wc, hw, ho⟩ := D.ex
  have ho' := ho.only (O := [o]) (by simp)
  cases hw with
  | nil => exact ⟨σ.ver o, kcap, _, ho.lt, ho'.get, ho'.sl (k := 0) rfl, .inl ⟨rfl, rfl⟩⟩
  | sl => exact ⟨σ.ver o, kcap, _, ho.lt, ho'.get, ho'.sl (k := 0) rfl, .inr ⟨rfl, ho'.sl (k := 1) rfl⟩⟩

/-- How the functions of the reference's disk are called. -/
structure RefH (hs : FuncId → Hint) : Prop where
  new : hs 25 = .mut [] (some none)
  read : hs 26 = .pure
  flush : hs 28 = .mut [(0, [])] none
  crash : hs 31 = .mut [(0, [])] none
  start : hs 33 = .mut [(0, [])] none
  write : hs 36 = .mut [(0, [])] none
  «show» : hs 70 = .raw
  hit : hs 71 = .raw

section
variable {hs : FuncId → Hint} (H : RefH hs)
include H

/-- Is this call the one that is hit? -/
theorem refhit_raw {s : St} {p : Vm.Id} {a b : AV} {down : Bool} {armed : Int} (hg : s.get p = some [a, b, .int .i64 armed, .bool down]) (hA : 0 ≤ armed ∧ armed ≤ 9223372036854775807) :
    ev (tab hs) 71 [.ptr p 0] s = some (.bool (decide (armed = 1)), if armed = 0 then s else s.set p (some (.cells [a, b, .int .i64 (armed - 1), .bool (if armed = 1 then true else down)]))) := by
  rw [ev_raw (H.hit ▸ tab71 hs)]
  by_cases ha : armed = 0
  · subst ha
    simp (disch := first | omega | (simp only [rkl]; omega)) only [rk1, rk2, rk3, rk4, rk5, Arg.get, ret1, AV.cells, AV.isCell, addOff, minmaxL, Cap.room, Cap.cut, cutI, isSt, resultOf, Function.comp_apply, Function.comp_def, beq_self_eq_true, if_true, if_false, ite_true, ite_false, reduceCtorEq, bne_self_eq_false, Option.some.injEq, Prod.mk.injEq, ↓reduceIte, Nat.reduceEqDiff, Nat.reduceAdd, Nat.reduceMul, Nat.reduceSub, Nat.reduceLeDiff, Nat.reduceLT, Int.reduceLT, Int.reduceLE, Int.reduceEq, Int.reduceAdd, Int.reduceSub, Int.reduceNeg, Int.reduceToNat, List.mapM_cons, List.mapM_nil, Option.pure_def, Option.bind_eq_bind, eq_self, decide_true, decide_false, code71, p71_1, p71_2, p71_7, hg]
  · have h0 : 0 < armed := by omega
    by_cases h1 : armed = 1
    · subst h1
      simp (disch := first | omega | (simp only [rkl]; omega)) only [rk1, rk2, rk3, rk4, rk5, Arg.get, ret1, AV.cells, AV.isCell, addOff, minmaxL, Cap.room, Cap.cut, cutI, isSt, resultOf, Function.comp_apply, Function.comp_def, beq_self_eq_true, if_true, if_false, ite_true, ite_false, reduceCtorEq, bne_self_eq_false, Option.some.injEq, Prod.mk.injEq, ↓reduceIte, Nat.reduceEqDiff, Nat.reduceAdd, Nat.reduceMul, Nat.reduceSub, Nat.reduceLeDiff, Nat.reduceLT, Int.reduceLT, Int.reduceLE, Int.reduceEq, Int.reduceAdd, Int.reduceSub, Int.reduceNeg, Int.reduceToNat, List.mapM_cons, List.mapM_nil, Option.pure_def, Option.bind_eq_bind, eq_self, decide_true, decide_false, code71, p71_1, p71_2, p71_3, p71_4, p71_5, p71_6, p71_7, hg]
    · have he : ¬ (armed - 1 = 0) := by omega
      simp (disch := first | omega | (simp only [rkl]; omega)) only [rk1, rk2, rk3, rk4, rk5, Arg.get, ret1, AV.cells, AV.isCell, addOff, minmaxL, Cap.room, Cap.cut, cutI, isSt, resultOf, Function.comp_apply, Function.comp_def, beq_self_eq_true, if_true, if_false, ite_true, ite_false, reduceCtorEq, bne_self_eq_false, Option.some.injEq, Prod.mk.injEq, ↓reduceIte, Nat.reduceEqDiff, Nat.reduceAdd, Nat.reduceMul, Nat.reduceSub, Nat.reduceLeDiff, Nat.reduceLT, Int.reduceLT, Int.reduceLE, Int.reduceEq, Int.reduceAdd, Int.reduceSub, Int.reduceNeg, Int.reduceToNat, List.mapM_cons, List.mapM_nil, Option.pure_def, Option.bind_eq_bind, eq_self, decide_true, decide_false, code71, p71_1, p71_2, p71_3, p71_4, p71_5, p71_6, p71_7, hg, h0, he, h1]

variable {σ : St} {o : Nat} {K : List UInt8} {n : Nat} {w : W} {down : Bool} {armed : Int} (D : RefO σ o K n w down armed)
include D

theorem refstart_ev : ∃ σ', ev (tab hs) 33 [.ptr ⟨o, 0, 0⟩ 0] σ = some (.tup [], σ') ∧ RefO σ' o K n (if down then [] else w) false 0 ∧ Kept σ σ' o := by
  obtain ⟨v, kcap, wcell, ho, hg, hk, hw⟩ := D.start
  have hwc : ∀ s1 : St, (∀ k, s1.get ⟨o, k + 1, v⟩ = (σ.only [o]).get ⟨o, k + 1, v⟩) → WCell s1 wcell w := by
    intro s1 h1
    rcases hw with ⟨rfl, rfl⟩ | ⟨rfl, hw⟩
    · exact .nil
    · exact .sl (by rw [h1 1, hw])
  have hid : idsNodup (⟨o, 0, 0⟩ :: ⟨o, 1, v⟩ :: (refId wcell).toList) = true := by
    rcases hw with ⟨rfl, rfl⟩ | ⟨rfl, hw⟩ <;> simp [refId, idsNodup]
  cases down with
  | true =>
    refine ref_turn (H.start ▸ tab33 hs) (σ1 := (σ.only [o]).set ⟨o, 0, 0⟩ (some (.cells [.sl ⟨o, 1, v⟩ 0 n kcap 64, .nilsl, .int .i64 0, .bool false]))) (kid := ⟨o, 1, v⟩) (kcap := kcap) (wcell := .nilsl) ho D.few (by simp) (ins_nil _ _) ?_ ?_ ?_ .nil (by simp [refId, idsNodup]) D.len (fun x hx => by simp at hx) plain_none
    · simp (disch := first | omega | (simp only [rkl]; omega)) only [rk1, rk2, rk3, rk4, rk5, Arg.get, ret1, AV.cells, AV.isCell, addOff, minmaxL, Cap.room, Cap.cut, cutI, isSt, resultOf, Function.comp_apply, Function.comp_def, beq_self_eq_true, if_true, if_false, ite_true, ite_false, reduceCtorEq, bne_self_eq_false, Option.some.injEq, Prod.mk.injEq, ↓reduceIte, Nat.reduceEqDiff, Nat.reduceAdd, Nat.reduceMul, Nat.reduceSub, Nat.reduceLeDiff, Nat.reduceLT, Int.reduceLT, Int.reduceLE, Int.reduceEq, Int.reduceAdd, Int.reduceSub, Int.reduceNeg, Int.reduceToNat, List.mapM_cons, List.mapM_nil, Option.pure_def, Option.bind_eq_bind, eq_self, decide_true, decide_false, code33, p33_1, p33_2, p33_3, p33_4, hg]
    · simp
    · simpa using hk
  | false =>
    refine ref_turn (H.start ▸ tab33 hs) (σ1 := (σ.only [o]).set ⟨o, 0, 0⟩ (some (.cells [.sl ⟨o, 1, v⟩ 0 n kcap 64, wcell, .int .i64 0, .bool false]))) (kid := ⟨o, 1, v⟩) (kcap := kcap) (wcell := wcell) ho D.few (by simp) (ins_nil _ _) ?_ ?_ ?_ (hwc _ fun k => by simp) hid D.len D.full plain_none
    · simp (disch := first | omega | (simp only [rkl]; omega)) only [rk1, rk2, rk3, rk4, rk5, Arg.get, ret1, AV.cells, AV.isCell, addOff, minmaxL, Cap.room, Cap.cut, cutI, isSt, resultOf, Function.comp_apply, Function.comp_def, beq_self_eq_true, if_true, if_false, ite_true, ite_false, reduceCtorEq, bne_self_eq_false, Option.some.injEq, Prod.mk.injEq, ↓reduceIte, Nat.reduceEqDiff, Nat.reduceAdd, Nat.reduceMul, Nat.reduceSub, Nat.reduceLeDiff, Nat.reduceLT, Int.reduceLT, Int.reduceLE, Int.reduceEq, Int.reduceAdd, Int.reduceSub, Int.reduceNeg, Int.reduceToNat, List.mapM_cons, List.mapM_nil, Option.pure_def, Option.bind_eq_bind, eq_self, decide_true, decide_false, code33, p33_1, p33_2, p33_3, p33_4, hg]
    · simp
    · simpa using hk
end
/-
  THE REFERENCE's DISK: Write.
-/

section
variable {hs : FuncId → Hint} (H : RefH hs)
variable {σ : St} {o : Nat} {K : List UInt8} {n : Nat} {w : W} {down : Bool} {armed : Int}

/-- The region that lets a write wait. -/
theorem refwrite_region {v : Nat} {kcap : Cap} {wcell : AV} {s0 : St} (hfull : Full n w) (ho : o < s0.next) (hg : s0.get ⟨o, 0, 0⟩ = some [.sl ⟨o, 1, v⟩ 0 n kcap 64, wcell, .int .i64 armed, .bool down])
    (hw : (wcell = .nilsl ∧ w = []) ∨ (wcell = .sl ⟨o, 2, v⟩ 0 w.length (.ge w.length) 65 ∧ s0.get ⟨o, 2, v⟩ = some (wc w))) (hwl : w.length < 2 ^ 36) {a : Nat} {b : List UInt8} (hb : b.length = 64)
    {t : Vm.Id} (ht : s0.get t = some (bs b)) (hto : t.o ≠ o) (htn : t.o < s0.next)
    {ρ : Env} {r} (hr : run (tab hs) (.draw d36_9) ρ s0 = r) (r0 : ρ 0 = .ptr ⟨o, 0, 0⟩ 0) (r1 : ρ 1 = .int .i64 a) (r7 : ρ 7 = .ptr t 0) :
    ∃ ρ' s1, r = some (.normal, ρ', s1) ∧ ρ' 8 = ρ 8 ∧ s0.next ≤ s1.next ∧
      s1.get ⟨o, 0, 0⟩ = some [.sl ⟨o, 1, v⟩ 0 n kcap 64, .sl ⟨s0.next + 1, 0, 0⟩ 0 (w ++ [(a, b)]).length (.ge (w ++ [(a, b)]).length) 65, .int .i64 armed, .bool down] ∧
      s1.get ⟨o, 1, v⟩ = s0.get ⟨o, 1, v⟩ ∧ s1.get ⟨s0.next + 1, 0, 0⟩ = some (wc (w ++ [(a, b)])) := by
  subst hr
  have hb64 : List.take 64 (bs b) = bs b := List.take_of_length_le (by simp [hb])
  have hfl : fillV (.int .i64 0 :: List.replicate 64 (.int .u8 0)) [(0, 1, [.int .i64 a]), (1, 64, bs b)] = some (.int .i64 a :: bs b) := by
    rw [fillV_cons, if_pos (by simp [AV.isCell]), fillV_cons, if_pos (by simp [hb]), fillV_nil]
    simp [hb]
  have hfl2 : fillV (.int .i64 0 :: List.replicate 64 (.int .u8 0)) [(0, 65, .int .i64 a :: bs b)] = some (.int .i64 a :: bs b) := fillV_all (by simp) (by simp [hb]) (by simp [AV.isCell])
  have hnc : ∀ σ, newCells σ (.int .i64 a :: bs b) = some (⟨σ.next, 0, 0⟩, σ.new (.int .i64 a :: bs b)) := fun σ => newCells_ok (by simp [AV.isCell])
  have hw1 : wc [(a, b)] = .int .i64 a :: bs b := by simp [wc]
  have hel : elems (s0.new (.int .i64 a :: bs b)) 65 1 (.sl ⟨s0.next, 0, 0⟩ 0 1 (.ex 1) 65) = some (.int .i64 a :: bs b) := by
    simp [elems, hb, List.take_of_length_le]
  have hlen := wc_len hfull
  have hld : loadAt s0 true 64 (.ptr t 0) = some (.agg (bs b)) := by
    simp [loadAt, ht, Vm.part, hb64, hb]
  have alike : ∀ q, q ∈ strays (tab hs) d36_9 → Vm.Alike (ev (tab hs)) d36_9 ρ s0 q := by
    rw [str_d36_9]
    intro q hq
    obtain rfl : q = (4, 9) := by simpa using hq
    intro op ρi σi σk ρk x h1 h2 h3 h4
    simp only [d36_9, List.getElem?_cons_succ, List.getElem?_cons_zero, Option.some.injEq] at h1
    subst h1
    simp only [d36_9, List.take_succ_cons, List.take_zero, List.map_cons, List.map_nil] at h2 h3
    simp (disch := first | omega | (simp only [rkl]; omega)) only [rk1, rk2, rk3, rk4, rk5, Arg.get, ret1, AV.cells, AV.isCell, addOff, minmaxL, Cap.room, Cap.cut, cutI, isSt, resultOf, Function.comp_apply, Function.comp_def, beq_self_eq_true, if_true, if_false, ite_true, ite_false, reduceCtorEq, bne_self_eq_false, Option.some.injEq, Prod.mk.injEq, ↓reduceIte, Nat.reduceEqDiff, Nat.reduceAdd, Nat.reduceMul, Nat.reduceSub, Nat.reduceLeDiff, Nat.reduceLT, Int.reduceLT, Int.reduceLE, Int.reduceEq, Int.reduceAdd, Int.reduceSub, Int.reduceNeg, Int.reduceToNat, List.mapM_cons, List.mapM_nil, Option.pure_def, Option.bind_eq_bind, eq_self, decide_true, decide_false, r0, r1, r7, hg, ht, hld, hfl, hfl2, hb64, hnc] at h2 h3
    obtain ⟨rfl, rfl⟩ := h2
    obtain ⟨_, rfl⟩ := h3
    simp (disch := first | omega | (simp only [rkl]; omega)) only [rk1, rk2, rk3, rk4, rk5, Arg.get, ret1, AV.cells, AV.isCell, addOff, minmaxL, Cap.room, Cap.cut, cutI, isSt, resultOf, Function.comp_apply, Function.comp_def, beq_self_eq_true, if_true, if_false, ite_true, ite_false, reduceCtorEq, bne_self_eq_false, Option.some.injEq, Prod.mk.injEq, ↓reduceIte, Nat.reduceEqDiff, Nat.reduceAdd, Nat.reduceMul, Nat.reduceSub, Nat.reduceLeDiff, Nat.reduceLT, Int.reduceLT, Int.reduceLE, Int.reduceEq, Int.reduceAdd, Int.reduceSub, Int.reduceNeg, Int.reduceToNat, List.mapM_cons, List.mapM_nil, Option.pure_def, Option.bind_eq_bind, eq_self, decide_true, decide_false, r0, hg] at h4
    simp (disch := first | omega | (simp only [rkl]; omega)) only [rk1, rk2, rk3, rk4, rk5, Arg.get, ret1, AV.cells, AV.isCell, addOff, minmaxL, Cap.room, Cap.cut, cutI, isSt, resultOf, Function.comp_apply, Function.comp_def, beq_self_eq_true, if_true, if_false, ite_true, ite_false, reduceCtorEq, bne_self_eq_false, Option.some.injEq, Prod.mk.injEq, ↓reduceIte, Nat.reduceEqDiff, Nat.reduceAdd, Nat.reduceMul, Nat.reduceSub, Nat.reduceLeDiff, Nat.reduceLT, Int.reduceLT, Int.reduceLE, Int.reduceEq, Int.reduceAdd, Int.reduceSub, Int.reduceNeg, Int.reduceToNat, List.mapM_cons, List.mapM_nil, Option.pure_def, Option.bind_eq_bind, eq_self, decide_true, decide_false, r0, hg]
    exact h4
  rcases hw with ⟨rfl, rfl⟩ | ⟨rfl, hw⟩
  · have hap : ∀ σ, appendTo σ 65 72 1 (.int .i64 a :: bs b) .nilsl = some (.sl ⟨σ.next, 0, 0⟩ 0 1 (.ge 1) 65, σ.new (.int .i64 a :: bs b)) := fun σ => append_nil' (by omega) (by decide) (by simp [AV.isCell])
    have hrun : ∃ r, opsEv (ev (tab hs)) (d36_9.map DOp.op) ρ s0 = some r ∧ r.1 8 = ρ 8 ∧ s0.next ≤ r.2.next ∧
      r.2.get ⟨o, 0, 0⟩ = some [.sl ⟨o, 1, v⟩ 0 n kcap 64, .sl ⟨s0.next + 1, 0, 0⟩ 0 ([] ++ [(a, b)] : W).length (.ge ([] ++ [(a, b)] : W).length) 65, .int .i64 armed, .bool down] ∧
      r.2.get ⟨o, 1, v⟩ = s0.get ⟨o, 1, v⟩ ∧ r.2.get ⟨s0.next + 1, 0, 0⟩ = some (wc ([] ++ [(a, b)])) := by
      simp (disch := first | omega | (simp only [rkl]; omega)) only [rk1, rk2, rk3, rk4, rk5, Arg.get, ret1, AV.cells, AV.isCell, addOff, minmaxL, Cap.room, Cap.cut, cutI, isSt, resultOf, Function.comp_apply, Function.comp_def, beq_self_eq_true, if_true, if_false, ite_true, ite_false, reduceCtorEq, bne_self_eq_false, Option.some.injEq, Prod.mk.injEq, ↓reduceIte, Nat.reduceEqDiff, Nat.reduceAdd, Nat.reduceMul, Nat.reduceSub, Nat.reduceLeDiff, Nat.reduceLT, Int.reduceLT, Int.reduceLE, Int.reduceEq, Int.reduceAdd, Int.reduceSub, Int.reduceNeg, Int.reduceToNat, List.mapM_cons, List.mapM_nil, Option.pure_def, Option.bind_eq_bind, eq_self, decide_true, decide_false, d36_9, r0, r1, r7, hg, ht, hld, hfl, hfl2, hb64, hnc, hap, hel, hw1]
      exact ⟨_, rfl, by simp (disch := first | omega | (simp only [rkl]; omega)) only [rk1, rk2, rk3, rk4, rk5, Arg.get, ret1, AV.cells, AV.isCell, addOff, minmaxL, Cap.room, Cap.cut, cutI, isSt, resultOf, Function.comp_apply, Function.comp_def, beq_self_eq_true, if_true, if_false, ite_true, ite_false, reduceCtorEq, bne_self_eq_false, Option.some.injEq, Prod.mk.injEq, ↓reduceIte, Nat.reduceEqDiff, Nat.reduceAdd, Nat.reduceMul, Nat.reduceSub, Nat.reduceLeDiff, Nat.reduceLT, Int.reduceLT, Int.reduceLE, Int.reduceEq, Int.reduceAdd, Int.reduceSub, Int.reduceNeg, Int.reduceToNat, List.mapM_cons, List.mapM_nil, Option.pure_def, Option.bind_eq_bind, eq_self, decide_true, decide_false], by simp (disch := first | omega | (simp only [rkl]; omega)) only [rk1, rk2, rk3, rk4, rk5, Arg.get, ret1, AV.cells, AV.isCell, addOff, minmaxL, Cap.room, Cap.cut, cutI, isSt, resultOf, Function.comp_apply, Function.comp_def, beq_self_eq_true, if_true, if_false, ite_true, ite_false, reduceCtorEq, bne_self_eq_false, Option.some.injEq, Prod.mk.injEq, ↓reduceIte, Nat.reduceEqDiff, Nat.reduceAdd, Nat.reduceMul, Nat.reduceSub, Nat.reduceLeDiff, Nat.reduceLT, Int.reduceLT, Int.reduceLE, Int.reduceEq, Int.reduceAdd, Int.reduceSub, Int.reduceNeg, Int.reduceToNat, List.mapM_cons, List.mapM_nil, Option.pure_def, Option.bind_eq_bind, eq_self, decide_true, decide_false]; omega, by simp (disch := first | omega | (simp only [rkl]; omega)) only [rk1, rk2, rk3, rk4, rk5, Arg.get, ret1, AV.cells, AV.isCell, addOff, minmaxL, Cap.room, Cap.cut, cutI, isSt, resultOf, Function.comp_apply, Function.comp_def, beq_self_eq_true, if_true, if_false, ite_true, ite_false, reduceCtorEq, bne_self_eq_false, Option.some.injEq, Prod.mk.injEq, ↓reduceIte, Nat.reduceEqDiff, Nat.reduceAdd, Nat.reduceMul, Nat.reduceSub, Nat.reduceLeDiff, Nat.reduceLT, Int.reduceLT, Int.reduceLE, Int.reduceEq, Int.reduceAdd, Int.reduceSub, Int.reduceNeg, Int.reduceToNat, List.mapM_cons, List.mapM_nil, Option.pure_def, Option.bind_eq_bind, eq_self, decide_true, decide_false], by simp (disch := first | omega | (simp only [rkl]; omega)) only [rk1, rk2, rk3, rk4, rk5, Arg.get, ret1, AV.cells, AV.isCell, addOff, minmaxL, Cap.room, Cap.cut, cutI, isSt, resultOf, Function.comp_apply, Function.comp_def, beq_self_eq_true, if_true, if_false, ite_true, ite_false, reduceCtorEq, bne_self_eq_false, Option.some.injEq, Prod.mk.injEq, ↓reduceIte, Nat.reduceEqDiff, Nat.reduceAdd, Nat.reduceMul, Nat.reduceSub, Nat.reduceLeDiff, Nat.reduceLT, Int.reduceLT, Int.reduceLE, Int.reduceEq, Int.reduceAdd, Int.reduceSub, Int.reduceNeg, Int.reduceToNat, List.mapM_cons, List.mapM_nil, Option.pure_def, Option.bind_eq_bind, eq_self, decide_true, decide_false], by simp (disch := first | omega | (simp only [rkl]; omega)) only [rk1, rk2, rk3, rk4, rk5, Arg.get, ret1, AV.cells, AV.isCell, addOff, minmaxL, Cap.room, Cap.cut, cutI, isSt, resultOf, Function.comp_apply, Function.comp_def, beq_self_eq_true, if_true, if_false, ite_true, ite_false, reduceCtorEq, bne_self_eq_false, Option.some.injEq, Prod.mk.injEq, ↓reduceIte, Nat.reduceEqDiff, Nat.reduceAdd, Nat.reduceMul, Nat.reduceSub, Nat.reduceLeDiff, Nat.reduceLT, Int.reduceLT, Int.reduceLE, Int.reduceEq, Int.reduceAdd, Int.reduceSub, Int.reduceNeg, Int.reduceToNat, List.mapM_cons, List.mapM_nil, Option.pure_def, Option.bind_eq_bind, eq_self, decide_true, decide_false]⟩
    obtain ⟨r, e1, e2, e3, e4, e5, e6⟩ := hrun
    exact ⟨r.1, r.2, go_but (okd_d36_9 _) alike e1, e2, e3, e4, e5, e6⟩
  · have hap : appendTo (s0.new (.int .i64 a :: bs b)) 65 72 1 (.int .i64 a :: bs b) (.sl ⟨o, 2, v⟩ 0 w.length (.ge w.length) 65) =
        some (.sl ⟨s0.next + 1, 0, 0⟩ 0 (w.length + 1) (.ge (w.length + 1)) 65, ((s0.new (.int .i64 a :: bs b)).set ⟨o, 2, v⟩ none).new (wc w ++ (.int .i64 a :: bs b))) := by
      have := append_grow (σ := s0.new (.int .i64 a :: bs b)) (sz := 65) (bytes := 72) (n := 1) (len := w.length) (c := w.length) (i := ⟨o, 2, v⟩) (cs := wc w) (xs := .int .i64 a :: bs b) (by simp (disch := first | omega | (simp only [rkl]; omega)) only [rk1, rk2, rk3, rk4, rk5, Arg.get, ret1, AV.cells, AV.isCell, addOff, minmaxL, Cap.room, Cap.cut, cutI, isSt, resultOf, Function.comp_apply, Function.comp_def, beq_self_eq_true, if_true, if_false, ite_true, ite_false, reduceCtorEq, bne_self_eq_false, Option.some.injEq, Prod.mk.injEq, ↓reduceIte, Nat.reduceEqDiff, Nat.reduceAdd, Nat.reduceMul, Nat.reduceSub, Nat.reduceLeDiff, Nat.reduceLT, Int.reduceLT, Int.reduceLE, Int.reduceEq, Int.reduceAdd, Int.reduceSub, Int.reduceNeg, Int.reduceToNat, List.mapM_cons, List.mapM_nil, Option.pure_def, Option.bind_eq_bind, eq_self, decide_true, decide_false, hw]) (by omega) (by omega)
        (by have : lenMax = 2 ^ 46 := rfl; omega) (wc_cell w) (by simp [AV.isCell])
      rw [List.take_of_length_le (by omega)] at this
      exact this
    have hrun : ∃ r, opsEv (ev (tab hs)) (d36_9.map DOp.op) ρ s0 = some r ∧ r.1 8 = ρ 8 ∧ s0.next ≤ r.2.next ∧
      r.2.get ⟨o, 0, 0⟩ = some [.sl ⟨o, 1, v⟩ 0 n kcap 64, .sl ⟨s0.next + 1, 0, 0⟩ 0 (w ++ [(a, b)]).length (.ge (w ++ [(a, b)]).length) 65, .int .i64 armed, .bool down] ∧
      r.2.get ⟨o, 1, v⟩ = s0.get ⟨o, 1, v⟩ ∧ r.2.get ⟨s0.next + 1, 0, 0⟩ = some (wc (w ++ [(a, b)])) := by
      simp (disch := first | omega | (simp only [rkl]; omega)) only [rk1, rk2, rk3, rk4, rk5, Arg.get, ret1, AV.cells, AV.isCell, addOff, minmaxL, Cap.room, Cap.cut, cutI, isSt, resultOf, Function.comp_apply, Function.comp_def, beq_self_eq_true, if_true, if_false, ite_true, ite_false, reduceCtorEq, bne_self_eq_false, Option.some.injEq, Prod.mk.injEq, ↓reduceIte, Nat.reduceEqDiff, Nat.reduceAdd, Nat.reduceMul, Nat.reduceSub, Nat.reduceLeDiff, Nat.reduceLT, Int.reduceLT, Int.reduceLE, Int.reduceEq, Int.reduceAdd, Int.reduceSub, Int.reduceNeg, Int.reduceToNat, List.mapM_cons, List.mapM_nil, Option.pure_def, Option.bind_eq_bind, eq_self, decide_true, decide_false, d36_9, r0, r1, r7, hg, ht, hld, hfl, hfl2, hb64, hnc, hap, hel, hw1, wc_app, List.length_append]
      exact ⟨_, rfl, by simp (disch := first | omega | (simp only [rkl]; omega)) only [rk1, rk2, rk3, rk4, rk5, Arg.get, ret1, AV.cells, AV.isCell, addOff, minmaxL, Cap.room, Cap.cut, cutI, isSt, resultOf, Function.comp_apply, Function.comp_def, beq_self_eq_true, if_true, if_false, ite_true, ite_false, reduceCtorEq, bne_self_eq_false, Option.some.injEq, Prod.mk.injEq, ↓reduceIte, Nat.reduceEqDiff, Nat.reduceAdd, Nat.reduceMul, Nat.reduceSub, Nat.reduceLeDiff, Nat.reduceLT, Int.reduceLT, Int.reduceLE, Int.reduceEq, Int.reduceAdd, Int.reduceSub, Int.reduceNeg, Int.reduceToNat, List.mapM_cons, List.mapM_nil, Option.pure_def, Option.bind_eq_bind, eq_self, decide_true, decide_false], by simp (disch := first | omega | (simp only [rkl]; omega)) only [rk1, rk2, rk3, rk4, rk5, Arg.get, ret1, AV.cells, AV.isCell, addOff, minmaxL, Cap.room, Cap.cut, cutI, isSt, resultOf, Function.comp_apply, Function.comp_def, beq_self_eq_true, if_true, if_false, ite_true, ite_false, reduceCtorEq, bne_self_eq_false, Option.some.injEq, Prod.mk.injEq, ↓reduceIte, Nat.reduceEqDiff, Nat.reduceAdd, Nat.reduceMul, Nat.reduceSub, Nat.reduceLeDiff, Nat.reduceLT, Int.reduceLT, Int.reduceLE, Int.reduceEq, Int.reduceAdd, Int.reduceSub, Int.reduceNeg, Int.reduceToNat, List.mapM_cons, List.mapM_nil, Option.pure_def, Option.bind_eq_bind, eq_self, decide_true, decide_false]; omega, by simp (disch := first | omega | (simp only [rkl]; omega)) only [rk1, rk2, rk3, rk4, rk5, Arg.get, ret1, AV.cells, AV.isCell, addOff, minmaxL, Cap.room, Cap.cut, cutI, isSt, resultOf, Function.comp_apply, Function.comp_def, beq_self_eq_true, if_true, if_false, ite_true, ite_false, reduceCtorEq, bne_self_eq_false, Option.some.injEq, Prod.mk.injEq, ↓reduceIte, Nat.reduceEqDiff, Nat.reduceAdd, Nat.reduceMul, Nat.reduceSub, Nat.reduceLeDiff, Nat.reduceLT, Int.reduceLT, Int.reduceLE, Int.reduceEq, Int.reduceAdd, Int.reduceSub, Int.reduceNeg, Int.reduceToNat, List.mapM_cons, List.mapM_nil, Option.pure_def, Option.bind_eq_bind, eq_self, decide_true, decide_false], by simp (disch := first | omega | (simp only [rkl]; omega)) only [rk1, rk2, rk3, rk4, rk5, Arg.get, ret1, AV.cells, AV.isCell, addOff, minmaxL, Cap.room, Cap.cut, cutI, isSt, resultOf, Function.comp_apply, Function.comp_def, beq_self_eq_true, if_true, if_false, ite_true, ite_false, reduceCtorEq, bne_self_eq_false, Option.some.injEq, Prod.mk.injEq, ↓reduceIte, Nat.reduceEqDiff, Nat.reduceAdd, Nat.reduceMul, Nat.reduceSub, Nat.reduceLeDiff, Nat.reduceLT, Int.reduceLT, Int.reduceLE, Int.reduceEq, Int.reduceAdd, Int.reduceSub, Int.reduceNeg, Int.reduceToNat, List.mapM_cons, List.mapM_nil, Option.pure_def, Option.bind_eq_bind, eq_self, decide_true, decide_false], by simp (disch := first | omega | (simp only [rkl]; omega)) only [rk1, rk2, rk3, rk4, rk5, Arg.get, ret1, AV.cells, AV.isCell, addOff, minmaxL, Cap.room, Cap.cut, cutI, isSt, resultOf, Function.comp_apply, Function.comp_def, beq_self_eq_true, if_true, if_false, ite_true, ite_false, reduceCtorEq, bne_self_eq_false, Option.some.injEq, Prod.mk.injEq, ↓reduceIte, Nat.reduceEqDiff, Nat.reduceAdd, Nat.reduceMul, Nat.reduceSub, Nat.reduceLeDiff, Nat.reduceLT, Int.reduceLT, Int.reduceLE, Int.reduceEq, Int.reduceAdd, Int.reduceSub, Int.reduceNeg, Int.reduceToNat, List.mapM_cons, List.mapM_nil, Option.pure_def, Option.bind_eq_bind, eq_self, decide_true, decide_false]⟩
    obtain ⟨r, e1, e2, e3, e4, e5, e6⟩ := hrun
    exact ⟨r.1, r.2, go_but (okd_d36_9 _) alike e1, e2, e3, e4, e5, e6⟩
end
/-
  THE REFERENCE's DISK: Write, whole; and the program's Write where nothing is written.
-/

theorem WCell.same {s1 : St} {o v : Nat} {wcell : AV} {w : W} (hw : (wcell = .nilsl ∧ w = []) ∨ (wcell = .sl ⟨o, 2, v⟩ 0 w.length (.ge w.length) 65 ∧ s1.get ⟨o, 2, v⟩ = some (wc w))) : WCell s1 wcell w := by
  rcases hw with ⟨rfl, rfl⟩ | ⟨rfl, hw⟩
  · exact .nil
  · exact .sl hw
theorem nodup_cells {s1 : St} {o v : Nat} {wcell : AV} {w : W} (hw : (wcell = .nilsl ∧ w = []) ∨ (wcell = .sl ⟨o, 2, v⟩ 0 w.length (.ge w.length) 65 ∧ s1.get ⟨o, 2, v⟩ = some (wc w))) : idsNodup (⟨o, 0, 0⟩ :: ⟨o, 1, v⟩ :: (refId wcell).toList) = true := by
  rcases hw with ⟨rfl, rfl⟩ | ⟨rfl, hw⟩ <;> simp [refId, idsNodup]

section
variable {hs : FuncId → Hint} (H : RefH hs)
include H
variable {σ : St} {o : Nat} {K : List UInt8} {n : Nat} {w : W} {down : Bool} {armed : Int} (D : RefO σ o K n w down armed)
include D

theorem refwrite_down (hdn : down = true) {a : Int} {b : List UInt8} {f : Bool} {c : Option Nat} :
    ∃ σ', ev (tab hs) 36 [.ptr ⟨o, 0, 0⟩ 0, .int .i64 a, .isl f (bs b) b.length c] σ = some (.int .i64 3, σ') ∧ RefO σ' o K n w down armed ∧ Kept σ σ' o := by
  subst hdn
  obtain ⟨v, kcap, wcell, ho, hg, hk, hw⟩ := D.start
  refine ref_turn (H.write ▸ tab36 hs) (σ1 := σ.only [o]) (kid := ⟨o, 1, v⟩) (kcap := kcap) (wcell := wcell) ho D.few D.arm (ins_cons rfl (ins_cons rfl (ins_nil _ _))) ?_ hg hk (.same hw) (nodup_cells hw) D.len D.full (plain_int _ _)
  simp (disch := first | omega | (simp only [rkl]; omega)) only [rk1, rk2, rk3, rk4, rk5, Arg.get, ret1, AV.cells, AV.isCell, addOff, minmaxL, Cap.room, Cap.cut, cutI, isSt, resultOf, Function.comp_apply, Function.comp_def, beq_self_eq_true, if_true, if_false, ite_true, ite_false, reduceCtorEq, bne_self_eq_false, Option.some.injEq, Prod.mk.injEq, ↓reduceIte, Nat.reduceEqDiff, Nat.reduceAdd, Nat.reduceMul, Nat.reduceSub, Nat.reduceLeDiff, Nat.reduceLT, Int.reduceLT, Int.reduceLE, Int.reduceEq, Int.reduceAdd, Int.reduceSub, Int.reduceNeg, Int.reduceToNat, List.mapM_cons, List.mapM_nil, Option.pure_def, Option.bind_eq_bind, eq_self, decide_true, decide_false, code36, p36_1, p36_2, p36_3, hg]

theorem refwrite_bad (hdn : down = false) {a : Int} {b : List UInt8} {f : Bool} {c : Option Nat} (hbad : ¬ (0 ≤ a ∧ a < n ∧ b.length = 64)) :
    ∃ σ', ev (tab hs) 36 [.ptr ⟨o, 0, 0⟩ 0, .int .i64 a, .isl f (bs b) b.length c] σ = some (.int .i64 1, σ') ∧ RefO σ' o K n w down armed ∧ Kept σ σ' o := by
  subst hdn
  obtain ⟨v, kcap, wcell, ho, hg, hk, hw⟩ := D.start
  refine ref_turn (H.write ▸ tab36 hs) (σ1 := σ.only [o]) (kid := ⟨o, 1, v⟩) (kcap := kcap) (wcell := wcell) ho D.few D.arm (ins_cons rfl (ins_cons rfl (ins_nil _ _))) ?_ hg hk (.same hw) (nodup_cells hw) D.len D.full (plain_int _ _)
  by_cases h1 : a < 0
  · simp (disch := first | omega | (simp only [rkl]; omega)) only [rk1, rk2, rk3, rk4, rk5, Arg.get, ret1, AV.cells, AV.isCell, addOff, minmaxL, Cap.room, Cap.cut, cutI, isSt, resultOf, Function.comp_apply, Function.comp_def, beq_self_eq_true, if_true, if_false, ite_true, ite_false, reduceCtorEq, bne_self_eq_false, Option.some.injEq, Prod.mk.injEq, ↓reduceIte, Nat.reduceEqDiff, Nat.reduceAdd, Nat.reduceMul, Nat.reduceSub, Nat.reduceLeDiff, Nat.reduceLT, Int.reduceLT, Int.reduceLE, Int.reduceEq, Int.reduceAdd, Int.reduceSub, Int.reduceNeg, Int.reduceToNat, List.mapM_cons, List.mapM_nil, Option.pure_def, Option.bind_eq_bind, eq_self, decide_true, decide_false, code36, p36_1, p36_2, p36_4, p36_5, hg, h1]
  · by_cases h2 : (n : Int) ≤ a
    · simp (disch := first | omega | (simp only [rkl]; omega)) only [rk1, rk2, rk3, rk4, rk5, Arg.get, ret1, AV.cells, AV.isCell, addOff, minmaxL, Cap.room, Cap.cut, cutI, isSt, resultOf, Function.comp_apply, Function.comp_def, beq_self_eq_true, if_true, if_false, ite_true, ite_false, reduceCtorEq, bne_self_eq_false, Option.some.injEq, Prod.mk.injEq, ↓reduceIte, Nat.reduceEqDiff, Nat.reduceAdd, Nat.reduceMul, Nat.reduceSub, Nat.reduceLeDiff, Nat.reduceLT, Int.reduceLT, Int.reduceLE, Int.reduceEq, Int.reduceAdd, Int.reduceSub, Int.reduceNeg, Int.reduceToNat, List.mapM_cons, List.mapM_nil, Option.pure_def, Option.bind_eq_bind, eq_self, decide_true, decide_false, code36, p36_1, p36_2, p36_4, p36_5, hg, h1, h2]
    · have h3 : ¬ ((b.length : Int) = 64) := fun e => hbad ⟨by omega, by omega, by omega⟩
      simp (disch := first | omega | (simp only [rkl]; omega)) only [rk1, rk2, rk3, rk4, rk5, Arg.get, ret1, AV.cells, AV.isCell, addOff, minmaxL, Cap.room, Cap.cut, cutI, isSt, resultOf, Function.comp_apply, Function.comp_def, beq_self_eq_true, if_true, if_false, ite_true, ite_false, reduceCtorEq, bne_self_eq_false, Option.some.injEq, Prod.mk.injEq, ↓reduceIte, Nat.reduceEqDiff, Nat.reduceAdd, Nat.reduceMul, Nat.reduceSub, Nat.reduceLeDiff, Nat.reduceLT, Int.reduceLT, Int.reduceLE, Int.reduceEq, Int.reduceAdd, Int.reduceSub, Int.reduceNeg, Int.reduceToNat, List.mapM_cons, List.mapM_nil, Option.pure_def, Option.bind_eq_bind, eq_self, decide_true, decide_false, code36, p36_1, p36_2, p36_4, p36_5, hg, h1, h2, h3]

theorem refwrite_ok (hdn : down = false) (hwl : w.length < 2 ^ 36) {a : Nat} (ha : a < n) {b : List UInt8} {f : Bool} {c : Option Nat} (hb : b.length = 64) :
    ∃ σ', ev (tab hs) 36 [.ptr ⟨o, 0, 0⟩ 0, .int .i64 a, .isl f (bs b) 64 c] σ = some (.int .i64 (if armed = 1 then 3 else 0), σ') ∧ RefO σ' o K n (w ++ [(a, b)]) (down2 down armed) (armed2 armed) ∧ Kept σ σ' o := by
  subst hdn
  have hA := D.arm
  have hfull : Full n (w ++ [(a, b)]) := by
    intro x hx
    rcases List.mem_append.1 hx with hx | hx
    · exact D.full x hx
    · simp only [List.mem_singleton] at hx; subst hx; exact ⟨ha, hb⟩
  obtain ⟨v, kcap, wcell, ho, hg, hk, hw⟩ := D.start
  generalize hs0 : σ.only [o] = s0 at *
  have hnx : s0.next = σ.next := by rw [← hs0]; rfl
  have hb64 : List.take 64 (bs b) = bs b := List.take_of_length_le (by simp [hb])
  have ha1 : ¬ ((a : Int) < 0) := by omega
  have ha2 : ¬ ((n : Int) ≤ (a : Int)) := by omega
  have hnc : ∀ σ, newCells σ (List.replicate 64 (.int .u8 0)) = some (⟨σ.next, 0, 0⟩, σ.new (List.replicate 64 (.int .u8 0))) := fun σ => newCells_ok (by simp [AV.isCell])
  have hel : ∀ σ, elems σ 1 64 (.isl f (bs b) 64 c) = some (bs b) := fun σ => by simp [elems, hb, hb64]
  have hz : (s0.new (List.replicate 64 (.int .u8 0))).get ⟨s0.next, 0, 0⟩ = some (List.replicate 64 (.int .u8 0)) := by rw [get_new, if_pos rfl]
  have hsa : ∀ ρ, sliceArr (s0.new (List.replicate 64 (.int .u8 0))) 64 1 (.ptr ⟨s0.next, 0, 0⟩ 0) none none none ρ = some (.sl ⟨s0.next, 0, 0⟩ 0 64 (.ex 64) 1) := fun ρ => slArr_all hz (by rw [List.length_replicate]; exact Nat.le_refl _)
  have hcp : copyTo (s0.new (List.replicate 64 (.int .u8 0))) 64 (bs b) (.sl ⟨s0.next, 0, 0⟩ 0 64 (.ex 64) 1) = some (.int .i64 64, (s0.new (List.replicate 64 (.int .u8 0))).set ⟨s0.next, 0, 0⟩ (some (.cells (bs b)))) := by
    have hsp : splice (List.replicate 64 (AV.int .u8 0)) 0 (bs b) = bs b := by
      simp only [splice, List.take_zero, List.nil_append, Nat.zero_add]
      rw [List.drop_of_length_le (by rw [List.length_replicate, bs_len, hb]; exact Nat.le_refl _), List.append_nil]
    simp only [copyTo, Vm.storeCells, hz]
    rw [if_pos ⟨by rw [List.length_replicate, bs_len, hb]; exact Nat.le_refl _, bs_cell b⟩, hsp]
    rfl
  -- the state behind the copy
  have hs1 : ∃ s1, (s0.new (List.replicate 64 (.int .u8 0))).set ⟨s0.next, 0, 0⟩ (some (.cells (bs b))) = s1 ∧ s1.next = s0.next + 1 ∧ s1.get ⟨s0.next, 0, 0⟩ = some (bs b) ∧
      s1.get ⟨o, 0, 0⟩ = some [.sl ⟨o, 1, v⟩ 0 n kcap 64, wcell, .int .i64 armed, .bool false] ∧ s1.get ⟨o, 1, v⟩ = some (bs K) ∧
      ((wcell = .nilsl ∧ w = []) ∨ (wcell = .sl ⟨o, 2, v⟩ 0 w.length (.ge w.length) 65 ∧ s1.get ⟨o, 2, v⟩ = some (wc w))) := by
    have hne : ¬ (o = s0.next) := by omega
    refine ⟨_, rfl, rfl, by rw [get_set_same], ?_, ?_, ?_⟩
    · rw [get_set, if_neg (by simp [hne]), get_new, if_neg (by simp [hne])]; exact hg
    · rw [get_set, if_neg (by simp [hne]), get_new, if_neg (by simp)]; exact hk
    · rcases hw with h | ⟨h, hw⟩
      · exact .inl h
      · refine .inr ⟨h, ?_⟩
        rw [get_set, if_neg (by simp), get_new, if_neg (by simp)]; exact hw
  obtain ⟨s1, hs1, n1, gt1, g1, k1, w1⟩ := hs1
  rw [hs1] at hcp
  have hhit := refhit_raw H g1 hA
  -- the state behind the hit
  have hs2 : ∃ s2, (if armed = 0 then s1 else s1.set ⟨o, 0, 0⟩ (some (.cells [.sl ⟨o, 1, v⟩ 0 n kcap 64, wcell, .int .i64 (armed - 1), .bool (if armed = 1 then true else false)]))) = s2 ∧ s2.next = s0.next + 1 ∧ s2.get ⟨s0.next, 0, 0⟩ = some (bs b) ∧
      s2.get ⟨o, 0, 0⟩ = some [.sl ⟨o, 1, v⟩ 0 n kcap 64, wcell, .int .i64 (armed2 armed), .bool (down2 false armed)] ∧ s2.get ⟨o, 1, v⟩ = some (bs K) ∧
      ((wcell = .nilsl ∧ w = []) ∨ (wcell = .sl ⟨o, 2, v⟩ 0 w.length (.ge w.length) 65 ∧ s2.get ⟨o, 2, v⟩ = some (wc w))) := by
    refine ⟨_, rfl, ?_⟩
    by_cases h0 : armed = 0
    · subst h0
      exact ⟨n1, gt1, g1, k1, w1⟩
    · rw [if_neg h0]
      have hne : ¬ (s0.next = o) := by omega
      refine ⟨n1, ?_, ?_, ?_, ?_⟩
      · rw [get_set, if_neg (by simp [hne])]; exact gt1
      · rw [get_set_same]
        by_cases h1 : armed = 1 <;> simp [down2, armed2, h0, h1]
      · rw [get_set, if_neg (by simp)]; exact k1
      · rcases w1 with h | ⟨h, hw⟩
        · exact .inl h
        · exact .inr ⟨h, by rw [get_set, if_neg (by simp)]; exact hw⟩
  obtain ⟨s2, hs2, n2, gt2, g2, k2, w2⟩ := hs2
  rw [hs2] at hhit
  have hreg := fun (ρ : Env) r => refwrite_region (hs := hs) (n := n) (w := w) (down := down2 false armed) (armed := armed2 armed) (v := v) (kcap := kcap) (wcell := wcell) (s0 := s2) D.full (by omega) g2 w2 hwl (a := a) hb (t := ⟨s0.next, 0, 0⟩) gt2 (by show s0.next ≠ o; omega) (by show s0.next < s2.next; omega) (ρ := ρ) (r := r)
  have hrun : ∃ s3, bodyOf (run (tab hs)) ⟨47, 3, code36, [.tmp 6], .mut [(0, [])] none⟩ [.ptr ⟨o, 0, 0⟩ 0, .int .i64 a, .isl f (bs b) 64 c] s0 = some (.int .i64 (if armed = 1 then 3 else 0), s3) ∧
      s3.get ⟨o, 0, 0⟩ = some [.sl ⟨o, 1, v⟩ 0 n kcap 64, .sl ⟨s2.next + 1, 0, 0⟩ 0 (w ++ [(a, b)]).length (.ge (w ++ [(a, b)]).length) 65, .int .i64 (armed2 armed), .bool (down2 false armed)] ∧
      s3.get ⟨o, 1, v⟩ = some (bs K) ∧ s3.get ⟨s2.next + 1, 0, 0⟩ = some (wc (w ++ [(a, b)])) := by
    simp (disch := first | omega | (simp only [rkl]; omega)) only [rk1, rk2, rk3, rk4, rk5, Arg.get, ret1, AV.cells, AV.isCell, addOff, minmaxL, Cap.room, Cap.cut, cutI, isSt, resultOf, Function.comp_apply, Function.comp_def, beq_self_eq_true, if_true, if_false, ite_true, ite_false, reduceCtorEq, bne_self_eq_false, Option.some.injEq, Prod.mk.injEq, ↓reduceIte, Nat.reduceEqDiff, Nat.reduceAdd, Nat.reduceMul, Nat.reduceSub, Nat.reduceLeDiff, Nat.reduceLT, Int.reduceLT, Int.reduceLE, Int.reduceEq, Int.reduceAdd, Int.reduceSub, Int.reduceNeg, Int.reduceToNat, List.mapM_cons, List.mapM_nil, Option.pure_def, Option.bind_eq_bind, eq_self, decide_true, decide_false, code36, p36_1, p36_2, p36_4, p36_6, p36_7, p36_8, hg, ha1, ha2, hnc, hel, hsa, hcp, hhit, Nat.min_self]
    generalize hr : run (tab hs) (.draw d36_9) _ _ = r
    obtain ⟨ρ', s3, rfl, e1, e2, e3, e4, e5⟩ := hreg _ _ hr (by simp (disch := first | omega | (simp only [rkl]; omega)) only [rk1, rk2, rk3, rk4, rk5, Arg.get, ret1, AV.cells, AV.isCell, addOff, minmaxL, Cap.room, Cap.cut, cutI, isSt, resultOf, Function.comp_apply, Function.comp_def, beq_self_eq_true, if_true, if_false, ite_true, ite_false, reduceCtorEq, bne_self_eq_false, Option.some.injEq, Prod.mk.injEq, ↓reduceIte, Nat.reduceEqDiff, Nat.reduceAdd, Nat.reduceMul, Nat.reduceSub, Nat.reduceLeDiff, Nat.reduceLT, Int.reduceLT, Int.reduceLE, Int.reduceEq, Int.reduceAdd, Int.reduceSub, Int.reduceNeg, Int.reduceToNat, List.mapM_cons, List.mapM_nil, Option.pure_def, Option.bind_eq_bind, eq_self, decide_true, decide_false]) (by simp (disch := first | omega | (simp only [rkl]; omega)) only [rk1, rk2, rk3, rk4, rk5, Arg.get, ret1, AV.cells, AV.isCell, addOff, minmaxL, Cap.room, Cap.cut, cutI, isSt, resultOf, Function.comp_apply, Function.comp_def, beq_self_eq_true, if_true, if_false, ite_true, ite_false, reduceCtorEq, bne_self_eq_false, Option.some.injEq, Prod.mk.injEq, ↓reduceIte, Nat.reduceEqDiff, Nat.reduceAdd, Nat.reduceMul, Nat.reduceSub, Nat.reduceLeDiff, Nat.reduceLT, Int.reduceLT, Int.reduceLE, Int.reduceEq, Int.reduceAdd, Int.reduceSub, Int.reduceNeg, Int.reduceToNat, List.mapM_cons, List.mapM_nil, Option.pure_def, Option.bind_eq_bind, eq_self, decide_true, decide_false]) (by simp (disch := first | omega | (simp only [rkl]; omega)) only [rk1, rk2, rk3, rk4, rk5, Arg.get, ret1, AV.cells, AV.isCell, addOff, minmaxL, Cap.room, Cap.cut, cutI, isSt, resultOf, Function.comp_apply, Function.comp_def, beq_self_eq_true, if_true, if_false, ite_true, ite_false, reduceCtorEq, bne_self_eq_false, Option.some.injEq, Prod.mk.injEq, ↓reduceIte, Nat.reduceEqDiff, Nat.reduceAdd, Nat.reduceMul, Nat.reduceSub, Nat.reduceLeDiff, Nat.reduceLT, Int.reduceLT, Int.reduceLE, Int.reduceEq, Int.reduceAdd, Int.reduceSub, Int.reduceNeg, Int.reduceToNat, List.mapM_cons, List.mapM_nil, Option.pure_def, Option.bind_eq_bind, eq_self, decide_true, decide_false])
    rw [k2] at e4
    by_cases h1 : armed = 1
    · subst h1
      have e1' : ρ' 8 = .bool true := by rw [e1]; simp (disch := first | omega | (simp only [rkl]; omega)) only [rk1, rk2, rk3, rk4, rk5, Arg.get, ret1, AV.cells, AV.isCell, addOff, minmaxL, Cap.room, Cap.cut, cutI, isSt, resultOf, Function.comp_apply, Function.comp_def, beq_self_eq_true, if_true, if_false, ite_true, ite_false, reduceCtorEq, bne_self_eq_false, Option.some.injEq, Prod.mk.injEq, ↓reduceIte, Nat.reduceEqDiff, Nat.reduceAdd, Nat.reduceMul, Nat.reduceSub, Nat.reduceLeDiff, Nat.reduceLT, Int.reduceLT, Int.reduceLE, Int.reduceEq, Int.reduceAdd, Int.reduceSub, Int.reduceNeg, Int.reduceToNat, List.mapM_cons, List.mapM_nil, Option.pure_def, Option.bind_eq_bind, eq_self, decide_true, decide_false]
      simp (disch := first | omega | (simp only [rkl]; omega)) only [rk1, rk2, rk3, rk4, rk5, Arg.get, ret1, AV.cells, AV.isCell, addOff, minmaxL, Cap.room, Cap.cut, cutI, isSt, resultOf, Function.comp_apply, Function.comp_def, beq_self_eq_true, if_true, if_false, ite_true, ite_false, reduceCtorEq, bne_self_eq_false, Option.some.injEq, Prod.mk.injEq, ↓reduceIte, Nat.reduceEqDiff, Nat.reduceAdd, Nat.reduceMul, Nat.reduceSub, Nat.reduceLeDiff, Nat.reduceLT, Int.reduceLT, Int.reduceLE, Int.reduceEq, Int.reduceAdd, Int.reduceSub, Int.reduceNeg, Int.reduceToNat, List.mapM_cons, List.mapM_nil, Option.pure_def, Option.bind_eq_bind, eq_self, decide_true, decide_false, p36_10, p36_11, p36_12, e1']
      exact ⟨_, rfl, e3, e4, e5⟩
    · have e1' : ρ' 8 = .bool false := by rw [e1]; simp (disch := first | omega | (simp only [rkl]; omega)) only [rk1, rk2, rk3, rk4, rk5, Arg.get, ret1, AV.cells, AV.isCell, addOff, minmaxL, Cap.room, Cap.cut, cutI, isSt, resultOf, Function.comp_apply, Function.comp_def, beq_self_eq_true, if_true, if_false, ite_true, ite_false, reduceCtorEq, bne_self_eq_false, Option.some.injEq, Prod.mk.injEq, ↓reduceIte, Nat.reduceEqDiff, Nat.reduceAdd, Nat.reduceMul, Nat.reduceSub, Nat.reduceLeDiff, Nat.reduceLT, Int.reduceLT, Int.reduceLE, Int.reduceEq, Int.reduceAdd, Int.reduceSub, Int.reduceNeg, Int.reduceToNat, List.mapM_cons, List.mapM_nil, Option.pure_def, Option.bind_eq_bind, eq_self, decide_true, decide_false, h1]
      simp (disch := first | omega | (simp only [rkl]; omega)) only [rk1, rk2, rk3, rk4, rk5, Arg.get, ret1, AV.cells, AV.isCell, addOff, minmaxL, Cap.room, Cap.cut, cutI, isSt, resultOf, Function.comp_apply, Function.comp_def, beq_self_eq_true, if_true, if_false, ite_true, ite_false, reduceCtorEq, bne_self_eq_false, Option.some.injEq, Prod.mk.injEq, ↓reduceIte, Nat.reduceEqDiff, Nat.reduceAdd, Nat.reduceMul, Nat.reduceSub, Nat.reduceLeDiff, Nat.reduceLT, Int.reduceLT, Int.reduceLE, Int.reduceEq, Int.reduceAdd, Int.reduceSub, Int.reduceNeg, Int.reduceToNat, List.mapM_cons, List.mapM_nil, Option.pure_def, Option.bind_eq_bind, eq_self, decide_true, decide_false, p36_10, p36_11, p36_12, e1', h1]
      exact ⟨_, rfl, e3, e4, e5⟩
  obtain ⟨s3, hb1, hc1, hk1, hw1⟩ := hrun
  subst hs0
  have h2 : 0 ≤ armed2 armed ∧ armed2 armed ≤ 9223372036854775807 := by unfold armed2; split <;> omega
  exact ref_turn (H.write ▸ tab36 hs) ho D.few h2 (ins_cons rfl (ins_cons rfl (ins_nil _ _))) hb1 hc1 hk1 (.sl hw1) (by simp [refId, idsNodup]; omega) D.len hfull (plain_int _ _)
end
/-
  THE REFERENCE's DISK: Flush.
-/

theorem wc_head {n : Nat} {w : W} (hf : Full n w) {i : Nat} {x : Nat × List UInt8} (hx : w[i]? = some x) : Vm.part false 1 (i * 65) (wc w) = some (.int .i64 x.1) := by
  have hi : i < w.length := (List.getElem?_eq_some_iff.1 hx).1
  have hat := wc_at hf hx
  have hwlen := wc_len hf
  have hm : (i + 1) * 65 ≤ w.length * 65 := Nat.mul_le_mul_right _ hi
  rw [part_one (by omega)]
  have h := congrArg (·[0]?) hat
  simpa [List.getElem?_take, List.getElem?_drop] using h
theorem wc_tail {n : Nat} {w : W} (hf : Full n w) {i : Nat} {x : Nat × List UInt8} (hx : w[i]? = some x) : Vm.part true 64 (i * 65 + 1) (wc w) = some (.agg (bs x.2)) := by
  have hi : i < w.length := (List.getElem?_eq_some_iff.1 hx).1
  have hat := wc_at hf hx
  have hwlen := wc_len hf
  have hm : (i + 1) * 65 ≤ w.length * 65 := Nat.mul_le_mul_right _ hi
  rw [part_t (by omega)]
  have h := congrArg (List.drop 1) hat
  rw [List.drop_take, List.drop_drop] at h
  simp only [List.drop_succ_cons, List.drop_zero] at h
  rw [h]

section
variable {T : Table} {n : Nat} {w : W} {o v : Nat} {kcap : Cap} {wcell : AV} {down : Bool} {armed : Int}

theorem refflush_round (hf : Full n w) (hwl : w.length < 2 ^ 36) {i : Nat} {x : Nat × List UInt8} (hx : w[i]? = some x) {ρ : Env} {s : St} {K : List UInt8} (hK : K.length = n * 64)
    (hg : s.get ⟨o, 0, 0⟩ = some [.sl ⟨o, 1, v⟩ 0 n kcap 64, .sl ⟨o, 2, v⟩ 0 w.length (.ge w.length) 65, .int .i64 armed, .bool down]) (hk : s.get ⟨o, 1, v⟩ = some (bs K)) (hw : s.get ⟨o, 2, v⟩ = some (wc w))
    (r0 : ρ 0 = .ptr ⟨o, 0, 0⟩ 0) (r3 : ρ 3 = .int .i64 i) :
    ∃ ρ' s', run T l28_8 ρ s = some (.normal, ρ', s') ∧ ρ' 0 = ρ 0 ∧ ρ' 3 = .int .i64 (i + 1 : Nat) ∧ s'.next = s.next ∧ s'.get ⟨o, 0, 0⟩ = s.get ⟨o, 0, 0⟩ ∧ s'.get ⟨o, 1, v⟩ = some (bs (putK K x.1 x.2)) ∧ s'.get ⟨o, 2, v⟩ = some (wc w) := by
  have hi : i < w.length := (List.getElem?_eq_some_iff.1 hx).1
  have hx1 := (hf x (List.mem_of_getElem? hx)).1
  have hx2 : x.2.length = 64 := (hf x (List.mem_of_getElem? hx)).2
  have hp0 := wc_head hf hx
  have hp1 := wc_tail hf hx
  have hkm : (x.1 + 1) * 64 ≤ n * 64 := Nat.mul_le_mul_right _ hx1
  have hst := store_bs (σ := s) (i := ⟨o, 1, v⟩) (K := K) (b := x.2) (a := x.1) (m := 64) hk hx2 (by omega)
  have hel : elemPtr 64 x.1 (.sl ⟨o, 1, v⟩ 0 n kcap 64) = some (.ptr ⟨o, 1, v⟩ (x.1 * 64)) := by rw [elemPtr_sl hx1, Nat.zero_add]
  have hew : elemPtr 65 i (.sl ⟨o, 2, v⟩ 0 w.length (.ge w.length) 65) = some (.ptr ⟨o, 2, v⟩ (i * 65)) := by rw [elemPtr_sl hi, Nat.zero_add]
  simp (disch := first | omega | (simp only [rkl]; omega)) only [rk1, rk2, rk3, rk4, rk5, Arg.get, ret1, AV.cells, AV.isCell, addOff, minmaxL, Cap.room, Cap.cut, cutI, isSt, resultOf, Function.comp_apply, Function.comp_def, beq_self_eq_true, if_true, if_false, ite_true, ite_false, reduceCtorEq, bne_self_eq_false, Option.some.injEq, Prod.mk.injEq, ↓reduceIte, Nat.reduceEqDiff, Nat.reduceAdd, Nat.reduceMul, Nat.reduceSub, Nat.reduceLeDiff, Nat.reduceLT, Int.reduceLT, Int.reduceLE, Int.reduceEq, Int.reduceAdd, Int.reduceSub, Int.reduceNeg, Int.reduceToNat, List.mapM_cons, List.mapM_nil, Option.pure_def, Option.bind_eq_bind, eq_self, decide_true, decide_false, l28_8, p28_5, p28_7, go_d28_6, e28_6, r0, r3, hg, hw, hp0, hp1, hel, hew, hst]
  exact ⟨_, _, ⟨rfl, rfl⟩, by simp (disch := first | omega | (simp only [rkl]; omega)) only [rk1, rk2, rk3, rk4, rk5, Arg.get, ret1, AV.cells, AV.isCell, addOff, minmaxL, Cap.room, Cap.cut, cutI, isSt, resultOf, Function.comp_apply, Function.comp_def, beq_self_eq_true, if_true, if_false, ite_true, ite_false, reduceCtorEq, bne_self_eq_false, Option.some.injEq, Prod.mk.injEq, ↓reduceIte, Nat.reduceEqDiff, Nat.reduceAdd, Nat.reduceMul, Nat.reduceSub, Nat.reduceLeDiff, Nat.reduceLT, Int.reduceLT, Int.reduceLE, Int.reduceEq, Int.reduceAdd, Int.reduceSub, Int.reduceNeg, Int.reduceToNat, List.mapM_cons, List.mapM_nil, Option.pure_def, Option.bind_eq_bind, eq_self, decide_true, decide_false, r0], by simp (disch := first | omega | (simp only [rkl]; omega)) only [rk1, rk2, rk3, rk4, rk5, Arg.get, ret1, AV.cells, AV.isCell, addOff, minmaxL, Cap.room, Cap.cut, cutI, isSt, resultOf, Function.comp_apply, Function.comp_def, beq_self_eq_true, if_true, if_false, ite_true, ite_false, reduceCtorEq, bne_self_eq_false, Option.some.injEq, Prod.mk.injEq, ↓reduceIte, Nat.reduceEqDiff, Nat.reduceAdd, Nat.reduceMul, Nat.reduceSub, Nat.reduceLeDiff, Nat.reduceLT, Int.reduceLT, Int.reduceLE, Int.reduceEq, Int.reduceAdd, Int.reduceSub, Int.reduceNeg, Int.reduceToNat, List.mapM_cons, List.mapM_nil, Option.pure_def, Option.bind_eq_bind, eq_self, decide_true, decide_false, Int.natCast_add, Int.cast_ofNat_Int], rfl, by simp (disch := first | omega | (simp only [rkl]; omega)) only [rk1, rk2, rk3, rk4, rk5, Arg.get, ret1, AV.cells, AV.isCell, addOff, minmaxL, Cap.room, Cap.cut, cutI, isSt, resultOf, Function.comp_apply, Function.comp_def, beq_self_eq_true, if_true, if_false, ite_true, ite_false, reduceCtorEq, bne_self_eq_false, Option.some.injEq, Prod.mk.injEq, ↓reduceIte, Nat.reduceEqDiff, Nat.reduceAdd, Nat.reduceMul, Nat.reduceSub, Nat.reduceLeDiff, Nat.reduceLT, Int.reduceLT, Int.reduceLE, Int.reduceEq, Int.reduceAdd, Int.reduceSub, Int.reduceNeg, Int.reduceToNat, List.mapM_cons, List.mapM_nil, Option.pure_def, Option.bind_eq_bind, eq_self, decide_true, decide_false, hg], by simp (disch := first | omega | (simp only [rkl]; omega)) only [rk1, rk2, rk3, rk4, rk5, Arg.get, ret1, AV.cells, AV.isCell, addOff, minmaxL, Cap.room, Cap.cut, cutI, isSt, resultOf, Function.comp_apply, Function.comp_def, beq_self_eq_true, if_true, if_false, ite_true, ite_false, reduceCtorEq, bne_self_eq_false, Option.some.injEq, Prod.mk.injEq, ↓reduceIte, Nat.reduceEqDiff, Nat.reduceAdd, Nat.reduceMul, Nat.reduceSub, Nat.reduceLeDiff, Nat.reduceLT, Int.reduceLT, Int.reduceLE, Int.reduceEq, Int.reduceAdd, Int.reduceSub, Int.reduceNeg, Int.reduceToNat, List.mapM_cons, List.mapM_nil, Option.pure_def, Option.bind_eq_bind, eq_self, decide_true, decide_false], by simp (disch := first | omega | (simp only [rkl]; omega)) only [rk1, rk2, rk3, rk4, rk5, Arg.get, ret1, AV.cells, AV.isCell, addOff, minmaxL, Cap.room, Cap.cut, cutI, isSt, resultOf, Function.comp_apply, Function.comp_def, beq_self_eq_true, if_true, if_false, ite_true, ite_false, reduceCtorEq, bne_self_eq_false, Option.some.injEq, Prod.mk.injEq, ↓reduceIte, Nat.reduceEqDiff, Nat.reduceAdd, Nat.reduceMul, Nat.reduceSub, Nat.reduceLeDiff, Nat.reduceLT, Int.reduceLT, Int.reduceLE, Int.reduceEq, Int.reduceAdd, Int.reduceSub, Int.reduceNeg, Int.reduceToNat, List.mapM_cons, List.mapM_nil, Option.pure_def, Option.bind_eq_bind, eq_self, decide_true, decide_false, hw]⟩

theorem refflush_loop (hf : Full n w) (hwl : w.length < 2 ^ 36) : ∀ (m i : Nat), i + m = w.length → ∀ {ρ : Env} {s : St} {K : List UInt8}, K.length = n * 64 →
    s.get ⟨o, 0, 0⟩ = some [.sl ⟨o, 1, v⟩ 0 n kcap 64, .sl ⟨o, 2, v⟩ 0 w.length (.ge w.length) 65, .int .i64 armed, .bool down] → s.get ⟨o, 1, v⟩ = some (bs K) → s.get ⟨o, 2, v⟩ = some (wc w) →
    ρ 0 = .ptr ⟨o, 0, 0⟩ 0 → ρ 3 = .int .i64 i →
    ∃ ρ' s', run T (.loop l28_8) ρ s = some (.exit 0, ρ', s') ∧ ρ' 0 = ρ 0 ∧ s'.next = s.next ∧ s'.get ⟨o, 0, 0⟩ = s.get ⟨o, 0, 0⟩ ∧ s'.get ⟨o, 1, v⟩ = some (bs (keepAll K (w.drop i)))
  | 0, i, him, ρ, s, K, hK, hg, hk, hw, r0, r3 => by
    have hi : i = w.length := by omega
    subst hi
    rw [run_loop]
    simp (disch := first | omega | (simp only [rkl]; omega)) only [rk1, rk2, rk3, rk4, rk5, Arg.get, ret1, AV.cells, AV.isCell, addOff, minmaxL, Cap.room, Cap.cut, cutI, isSt, resultOf, Function.comp_apply, Function.comp_def, beq_self_eq_true, if_true, if_false, ite_true, ite_false, reduceCtorEq, bne_self_eq_false, Option.some.injEq, Prod.mk.injEq, ↓reduceIte, Nat.reduceEqDiff, Nat.reduceAdd, Nat.reduceMul, Nat.reduceSub, Nat.reduceLeDiff, Nat.reduceLT, Int.reduceLT, Int.reduceLE, Int.reduceEq, Int.reduceAdd, Int.reduceSub, Int.reduceNeg, Int.reduceToNat, List.mapM_cons, List.mapM_nil, Option.pure_def, Option.bind_eq_bind, eq_self, decide_true, decide_false, l28_8, p28_5, r0, r3, hg]
    exact ⟨_, _, ⟨rfl, rfl⟩, by simp (disch := first | omega | (simp only [rkl]; omega)) only [rk1, rk2, rk3, rk4, rk5, Arg.get, ret1, AV.cells, AV.isCell, addOff, minmaxL, Cap.room, Cap.cut, cutI, isSt, resultOf, Function.comp_apply, Function.comp_def, beq_self_eq_true, if_true, if_false, ite_true, ite_false, reduceCtorEq, bne_self_eq_false, Option.some.injEq, Prod.mk.injEq, ↓reduceIte, Nat.reduceEqDiff, Nat.reduceAdd, Nat.reduceMul, Nat.reduceSub, Nat.reduceLeDiff, Nat.reduceLT, Int.reduceLT, Int.reduceLE, Int.reduceEq, Int.reduceAdd, Int.reduceSub, Int.reduceNeg, Int.reduceToNat, List.mapM_cons, List.mapM_nil, Option.pure_def, Option.bind_eq_bind, eq_self, decide_true, decide_false, r0], rfl, by rw [hg], by rw [hk, List.drop_length]; rfl⟩
  | m + 1, i, him, ρ, s, K, hK, hg, hk, hw, r0, r3 => by
    have hi : i < w.length := by omega
    have hx := hf w[i] (List.getElem_mem hi)
    obtain ⟨ρ1, s1, e1, q0, q3, qo, qg, qk, qw⟩ := refflush_round (T := T) hf hwl (List.getElem?_eq_getElem hi) hK hg hk hw r0 r3
    obtain ⟨ρ2, s2, f1, f0, fo, fg, fk⟩ := refflush_loop hf hwl m (i + 1) (by omega) (putK_len hK hx.1 (by omega)) (qg.trans hg) qk qw (q0.trans r0) q3
    rw [run_loop, e1]
    refine ⟨ρ2, s2, by simp (disch := first | omega | (simp only [rkl]; omega)) only [rk1, rk2, rk3, rk4, rk5, Arg.get, ret1, AV.cells, AV.isCell, addOff, minmaxL, Cap.room, Cap.cut, cutI, isSt, resultOf, Function.comp_apply, Function.comp_def, beq_self_eq_true, if_true, if_false, ite_true, ite_false, reduceCtorEq, bne_self_eq_false, Option.some.injEq, Prod.mk.injEq, ↓reduceIte, Nat.reduceEqDiff, Nat.reduceAdd, Nat.reduceMul, Nat.reduceSub, Nat.reduceLeDiff, Nat.reduceLT, Int.reduceLT, Int.reduceLE, Int.reduceEq, Int.reduceAdd, Int.reduceSub, Int.reduceNeg, Int.reduceToNat, List.mapM_cons, List.mapM_nil, Option.pure_def, Option.bind_eq_bind, eq_self, decide_true, decide_false]; exact f1, f0.trans q0, fo.trans qo, fg.trans qg, ?_⟩
    rw [fk, List.drop_eq_getElem_cons hi]; rfl

theorem refflush_out {ρ : Env} {s : St} {r} (hr : run T (.loop l28_8) ρ s = r) (hf : Full n w) (hwl : w.length < 2 ^ 36) {K : List UInt8} (hK : K.length = n * 64)
    (hg : s.get ⟨o, 0, 0⟩ = some [.sl ⟨o, 1, v⟩ 0 n kcap 64, wcell, .int .i64 armed, .bool down]) (hk : s.get ⟨o, 1, v⟩ = some (bs K))
    (hw : (wcell = .nilsl ∧ w = []) ∨ (wcell = .sl ⟨o, 2, v⟩ 0 w.length (.ge w.length) 65 ∧ s.get ⟨o, 2, v⟩ = some (wc w)))
    (r0 : ρ 0 = .ptr ⟨o, 0, 0⟩ 0) (r3 : ρ 3 = .int .i64 0) :
    ∃ ρ' s', r = some (.exit 0, ρ', s') ∧ ρ' 0 = .ptr ⟨o, 0, 0⟩ 0 ∧ s'.next = s.next ∧ s'.get ⟨o, 0, 0⟩ = s.get ⟨o, 0, 0⟩ ∧ s'.get ⟨o, 1, v⟩ = some (bs (keepAll K w)) := by
  subst hr
  rcases hw with ⟨rfl, rfl⟩ | ⟨rfl, hw⟩
  · rw [run_loop]
    simp (disch := first | omega | (simp only [rkl]; omega)) only [rk1, rk2, rk3, rk4, rk5, Arg.get, ret1, AV.cells, AV.isCell, addOff, minmaxL, Cap.room, Cap.cut, cutI, isSt, resultOf, Function.comp_apply, Function.comp_def, beq_self_eq_true, if_true, if_false, ite_true, ite_false, reduceCtorEq, bne_self_eq_false, Option.some.injEq, Prod.mk.injEq, ↓reduceIte, Nat.reduceEqDiff, Nat.reduceAdd, Nat.reduceMul, Nat.reduceSub, Nat.reduceLeDiff, Nat.reduceLT, Int.reduceLT, Int.reduceLE, Int.reduceEq, Int.reduceAdd, Int.reduceSub, Int.reduceNeg, Int.reduceToNat, List.mapM_cons, List.mapM_nil, Option.pure_def, Option.bind_eq_bind, eq_self, decide_true, decide_false, l28_8, p28_5, r0, r3, hg]
    exact ⟨_, _, ⟨rfl, rfl⟩, by simp (disch := first | omega | (simp only [rkl]; omega)) only [rk1, rk2, rk3, rk4, rk5, Arg.get, ret1, AV.cells, AV.isCell, addOff, minmaxL, Cap.room, Cap.cut, cutI, isSt, resultOf, Function.comp_apply, Function.comp_def, beq_self_eq_true, if_true, if_false, ite_true, ite_false, reduceCtorEq, bne_self_eq_false, Option.some.injEq, Prod.mk.injEq, ↓reduceIte, Nat.reduceEqDiff, Nat.reduceAdd, Nat.reduceMul, Nat.reduceSub, Nat.reduceLeDiff, Nat.reduceLT, Int.reduceLT, Int.reduceLE, Int.reduceEq, Int.reduceAdd, Int.reduceSub, Int.reduceNeg, Int.reduceToNat, List.mapM_cons, List.mapM_nil, Option.pure_def, Option.bind_eq_bind, eq_self, decide_true, decide_false, r0], rfl, by rw [hg], hk⟩
  · obtain ⟨ρ2, s2, f1, f0, fo, fg, fk⟩ := refflush_loop (T := T) hf hwl w.length 0 (by omega) hK hg hk hw r0 r3
    exact ⟨ρ2, s2, f1, f0.trans r0, fo, fg, fk⟩
end

section
variable {hs : FuncId → Hint} (H : RefH hs) {σ : St} {o : Nat} {K : List UInt8} {n : Nat} {w : W} {down : Bool} {armed : Int} (D : RefO σ o K n w down armed)
include H D

theorem refflush_down (hdn : down = true) : ∃ σ', ev (tab hs) 28 [.ptr ⟨o, 0, 0⟩ 0] σ = some (.int .i64 3, σ') ∧ RefO σ' o K n w down armed ∧ Kept σ σ' o := by
  subst hdn
  obtain ⟨v, kcap, wcell, ho, hg, hk, hw⟩ := D.start
  refine ref_turn (H.flush ▸ tab28 hs) (σ1 := σ.only [o]) (kid := ⟨o, 1, v⟩) (kcap := kcap) (wcell := wcell) ho D.few D.arm (ins_nil _ _) ?_ hg hk (.same hw) (nodup_cells hw) D.len D.full (plain_int _ _)
  simp (disch := first | omega | (simp only [rkl]; omega)) only [rk1, rk2, rk3, rk4, rk5, Arg.get, ret1, AV.cells, AV.isCell, addOff, minmaxL, Cap.room, Cap.cut, cutI, isSt, resultOf, Function.comp_apply, Function.comp_def, beq_self_eq_true, if_true, if_false, ite_true, ite_false, reduceCtorEq, bne_self_eq_false, Option.some.injEq, Prod.mk.injEq, ↓reduceIte, Nat.reduceEqDiff, Nat.reduceAdd, Nat.reduceMul, Nat.reduceSub, Nat.reduceLeDiff, Nat.reduceLT, Int.reduceLT, Int.reduceLE, Int.reduceEq, Int.reduceAdd, Int.reduceSub, Int.reduceNeg, Int.reduceToNat, List.mapM_cons, List.mapM_nil, Option.pure_def, Option.bind_eq_bind, eq_self, decide_true, decide_false, code28, p28_1, p28_2, p28_3, hg]

theorem refflush_ev (hwl : w.length < 2 ^ 36) (hdn : down = false) :
    ∃ σ', ev (tab hs) 28 [.ptr ⟨o, 0, 0⟩ 0] σ = some (.int .i64 (if armed = 1 then 3 else 0), σ') ∧ RefO σ' o (if armed = 1 then K else keepAll K w) n (if armed = 1 then w else []) (down2 down armed) (armed2 armed) ∧ Kept σ σ' o := by
  subst hdn
  have hA := D.arm
  obtain ⟨v, kcap, wcell, ho, hg, hk, hw⟩ := D.start
  have hid := nodup_cells hw
  have hhit := refhit_raw H hg hA
  have h2 : 0 ≤ armed2 armed ∧ armed2 armed ≤ 9223372036854775807 := by unfold armed2; split <;> omega
  by_cases h1 : armed = 1
  · subst h1
    refine ref_turn (H.flush ▸ tab28 hs) (σ1 := (σ.only [o]).set ⟨o, 0, 0⟩ (some (.cells [.sl ⟨o, 1, v⟩ 0 n kcap 64, wcell, .int .i64 0, .bool true]))) (kid := ⟨o, 1, v⟩) (kcap := kcap) (wcell := wcell) ho D.few h2 (ins_nil _ _) ?_ ?_ ?_ ?_ hid D.len D.full (plain_int _ _)
    · simp (disch := first | omega | (simp only [rkl]; omega)) only [rk1, rk2, rk3, rk4, rk5, Arg.get, ret1, AV.cells, AV.isCell, addOff, minmaxL, Cap.room, Cap.cut, cutI, isSt, resultOf, Function.comp_apply, Function.comp_def, beq_self_eq_true, if_true, if_false, ite_true, ite_false, reduceCtorEq, bne_self_eq_false, Option.some.injEq, Prod.mk.injEq, ↓reduceIte, Nat.reduceEqDiff, Nat.reduceAdd, Nat.reduceMul, Nat.reduceSub, Nat.reduceLeDiff, Nat.reduceLT, Int.reduceLT, Int.reduceLE, Int.reduceEq, Int.reduceAdd, Int.reduceSub, Int.reduceNeg, Int.reduceToNat, List.mapM_cons, List.mapM_nil, Option.pure_def, Option.bind_eq_bind, eq_self, decide_true, decide_false, code28, p28_1, p28_2, p28_3, hg, hhit]
    · rw [get_set_same]; rfl
    · rw [get_set, if_neg (by simp)]; exact hk
    · rcases hw with ⟨rfl, rfl⟩ | ⟨rfl, hw⟩
      · exact .nil
      · exact .sl (by rw [get_set, if_neg (by simp)]; exact hw)
  · have hs1 : ∃ s1, (if armed = 0 then σ.only [o] else (σ.only [o]).set ⟨o, 0, 0⟩ (some (.cells [.sl ⟨o, 1, v⟩ 0 n kcap 64, wcell, .int .i64 (armed - 1), .bool (if armed = 1 then true else false)]))) = s1 ∧
        s1.next = σ.next ∧ s1.get ⟨o, 0, 0⟩ = some [.sl ⟨o, 1, v⟩ 0 n kcap 64, wcell, .int .i64 (armed2 armed), .bool (down2 false armed)] ∧ s1.get ⟨o, 1, v⟩ = some (bs K) ∧
        ((wcell = .nilsl ∧ w = []) ∨ (wcell = .sl ⟨o, 2, v⟩ 0 w.length (.ge w.length) 65 ∧ s1.get ⟨o, 2, v⟩ = some (wc w))) := by
      refine ⟨_, rfl, ?_⟩
      by_cases h0 : armed = 0
      · subst h0
        exact ⟨rfl, hg, hk, hw⟩
      · rw [if_neg h0]
        refine ⟨rfl, ?_, ?_, ?_⟩
        · rw [get_set_same]; simp [down2, armed2, h0, h1]
        · rw [get_set, if_neg (by simp)]; exact hk
        · rw [get_set, if_neg (by simp)]; exact hw
    obtain ⟨s1, hs1, n1, g1, k1, w1⟩ := hs1
    rw [hs1] at hhit
    have hrun : ∃ s2, bodyOf (run (tab hs)) ⟨45, 1, code28, [.tmp 2], .mut [(0, [])] none⟩ [.ptr ⟨o, 0, 0⟩ 0] (σ.only [o]) = some (.int .i64 0, s2) ∧
        s2.get ⟨o, 0, 0⟩ = some [.sl ⟨o, 1, v⟩ 0 n kcap 64, .nilsl, .int .i64 (armed2 armed), .bool (down2 false armed)] ∧ s2.get ⟨o, 1, v⟩ = some (bs (keepAll K w)) := by
      have hd1 : decide (armed = 1) = false := by simp [h1]
      simp (disch := first | omega | (simp only [rkl]; omega)) only [rk1, rk2, rk3, rk4, rk5, Arg.get, ret1, AV.cells, AV.isCell, addOff, minmaxL, Cap.room, Cap.cut, cutI, isSt, resultOf, Function.comp_apply, Function.comp_def, beq_self_eq_true, if_true, if_false, ite_true, ite_false, reduceCtorEq, bne_self_eq_false, Option.some.injEq, Prod.mk.injEq, ↓reduceIte, Nat.reduceEqDiff, Nat.reduceAdd, Nat.reduceMul, Nat.reduceSub, Nat.reduceLeDiff, Nat.reduceLT, Int.reduceLT, Int.reduceLE, Int.reduceEq, Int.reduceAdd, Int.reduceSub, Int.reduceNeg, Int.reduceToNat, List.mapM_cons, List.mapM_nil, Option.pure_def, Option.bind_eq_bind, eq_self, decide_true, decide_false, code28, p28_1, p28_2, p28_4, hg, hhit, hd1]
      generalize hr : run (tab hs) (.loop l28_8) _ _ = r
      obtain ⟨ρ', s2, rfl, q0, qn, qg, qk⟩ := refflush_out hr D.full hwl D.len g1 k1 w1 (by simp (disch := first | omega | (simp only [rkl]; omega)) only [rk1, rk2, rk3, rk4, rk5, Arg.get, ret1, AV.cells, AV.isCell, addOff, minmaxL, Cap.room, Cap.cut, cutI, isSt, resultOf, Function.comp_apply, Function.comp_def, beq_self_eq_true, if_true, if_false, ite_true, ite_false, reduceCtorEq, bne_self_eq_false, Option.some.injEq, Prod.mk.injEq, ↓reduceIte, Nat.reduceEqDiff, Nat.reduceAdd, Nat.reduceMul, Nat.reduceSub, Nat.reduceLeDiff, Nat.reduceLT, Int.reduceLT, Int.reduceLE, Int.reduceEq, Int.reduceAdd, Int.reduceSub, Int.reduceNeg, Int.reduceToNat, List.mapM_cons, List.mapM_nil, Option.pure_def, Option.bind_eq_bind, eq_self, decide_true, decide_false]) (by simp (disch := first | omega | (simp only [rkl]; omega)) only [rk1, rk2, rk3, rk4, rk5, Arg.get, ret1, AV.cells, AV.isCell, addOff, minmaxL, Cap.room, Cap.cut, cutI, isSt, resultOf, Function.comp_apply, Function.comp_def, beq_self_eq_true, if_true, if_false, ite_true, ite_false, reduceCtorEq, bne_self_eq_false, Option.some.injEq, Prod.mk.injEq, ↓reduceIte, Nat.reduceEqDiff, Nat.reduceAdd, Nat.reduceMul, Nat.reduceSub, Nat.reduceLeDiff, Nat.reduceLT, Int.reduceLT, Int.reduceLE, Int.reduceEq, Int.reduceAdd, Int.reduceSub, Int.reduceNeg, Int.reduceToNat, List.mapM_cons, List.mapM_nil, Option.pure_def, Option.bind_eq_bind, eq_self, decide_true, decide_false])
      rw [g1] at qg
      simp (disch := first | omega | (simp only [rkl]; omega)) only [rk1, rk2, rk3, rk4, rk5, Arg.get, ret1, AV.cells, AV.isCell, addOff, minmaxL, Cap.room, Cap.cut, cutI, isSt, resultOf, Function.comp_apply, Function.comp_def, beq_self_eq_true, if_true, if_false, ite_true, ite_false, reduceCtorEq, bne_self_eq_false, Option.some.injEq, Prod.mk.injEq, ↓reduceIte, Nat.reduceEqDiff, Nat.reduceAdd, Nat.reduceMul, Nat.reduceSub, Nat.reduceLeDiff, Nat.reduceLT, Int.reduceLT, Int.reduceLE, Int.reduceEq, Int.reduceAdd, Int.reduceSub, Int.reduceNeg, Int.reduceToNat, List.mapM_cons, List.mapM_nil, Option.pure_def, Option.bind_eq_bind, eq_self, decide_true, decide_false, p28_9, p28_10, q0, qg]
      exact ⟨_, rfl, by simp (disch := first | omega | (simp only [rkl]; omega)) only [rk1, rk2, rk3, rk4, rk5, Arg.get, ret1, AV.cells, AV.isCell, addOff, minmaxL, Cap.room, Cap.cut, cutI, isSt, resultOf, Function.comp_apply, Function.comp_def, beq_self_eq_true, if_true, if_false, ite_true, ite_false, reduceCtorEq, bne_self_eq_false, Option.some.injEq, Prod.mk.injEq, ↓reduceIte, Nat.reduceEqDiff, Nat.reduceAdd, Nat.reduceMul, Nat.reduceSub, Nat.reduceLeDiff, Nat.reduceLT, Int.reduceLT, Int.reduceLE, Int.reduceEq, Int.reduceAdd, Int.reduceSub, Int.reduceNeg, Int.reduceToNat, List.mapM_cons, List.mapM_nil, Option.pure_def, Option.bind_eq_bind, eq_self, decide_true, decide_false], by simp (disch := first | omega | (simp only [rkl]; omega)) only [rk1, rk2, rk3, rk4, rk5, Arg.get, ret1, AV.cells, AV.isCell, addOff, minmaxL, Cap.room, Cap.cut, cutI, isSt, resultOf, Function.comp_apply, Function.comp_def, beq_self_eq_true, if_true, if_false, ite_true, ite_false, reduceCtorEq, bne_self_eq_false, Option.some.injEq, Prod.mk.injEq, ↓reduceIte, Nat.reduceEqDiff, Nat.reduceAdd, Nat.reduceMul, Nat.reduceSub, Nat.reduceLeDiff, Nat.reduceLT, Int.reduceLT, Int.reduceLE, Int.reduceEq, Int.reduceAdd, Int.reduceSub, Int.reduceNeg, Int.reduceToNat, List.mapM_cons, List.mapM_nil, Option.pure_def, Option.bind_eq_bind, eq_self, decide_true, decide_false, qk]⟩
    obtain ⟨s2, b2, g2, k2⟩ := hrun
    rw [if_neg h1, if_neg h1, if_neg h1]
    exact ref_turn (H.flush ▸ tab28 hs) ho D.few h2 (ins_nil _ _) b2 g2 k2 .nil (by simp [refId, idsNodup]) (keepAll_len D.full D.len) (fun x hx => by simp at hx) (plain_int _ _)
end
/-
  THE REFERENCE's DISK: Crash.
-/

theorem wc_byte {n : Nat} {w : W} (hf : Full n w) {i : Nat} {x : Nat × List UInt8} (hx : w[i]? = some x) {k : Nat} {y : UInt8} (hy : x.2[k]? = some y) : Vm.part false 1 (i * 65 + 1 + k) (wc w) = some (.int .u8 y.toNat) := by
  have hi : i < w.length := (List.getElem?_eq_some_iff.1 hx).1
  have hx2 : x.2.length = 64 := (hf x (List.mem_of_getElem? hx)).2
  have hk : k < 64 := by have := (List.getElem?_eq_some_iff.1 hy).1; omega
  have hat := wc_at hf hx
  have hwlen := wc_len hf
  have hm : (i + 1) * 65 ≤ w.length * 65 := Nat.mul_le_mul_right _ hi
  rw [part_one (by omega)]
  have h := congrArg (·[1 + k]?) hat
  simp only [List.getElem?_take, List.getElem?_drop] at h
  rw [if_pos (by omega), Nat.add_comm 1 k, List.getElem?_cons_succ, bs, List.getElem?_map, hy] at h
  rw [show i * 65 + 1 + k = i * 65 + (k + 1) by omega]
  exact h

theorem putK_set {K b : List UInt8} {n a k : Nat} {y : UInt8} (hK : K.length = n * 64) (ha : a < n) (hy : b[k]? = some y) (hk : k < 64) : (putK K a (b.take k)).set (a * 64 + k) y = putK K a (b.take (k + 1)) := by
  have hkb : k < b.length := (List.getElem?_eq_some_iff.1 hy).1
  have hm : (a + 1) * 64 ≤ n * 64 := Nat.mul_le_mul_right _ ha
  have hl : (b.take k).length = k := by rw [List.length_take]; omega
  have hl1 : (b.take (k + 1)).length = k + 1 := by rw [List.length_take]; omega
  have hd : a * 64 + k < K.length := by omega
  simp only [putK, hl, hl1]
  rw [List.set_append_right _ _ (by simp only [List.length_take]; omega), List.set_append_right _ _ (by simp only [List.length_take]; omega)]
  have e1 : a * 64 + k - (K.take (a * 64)).length - (b.take k).length = 0 := by simp only [List.length_take]; omega
  rw [e1, List.drop_eq_getElem_cons hd, List.set_cons_zero, List.take_add_one, hy]
  simp [Nat.add_assoc]

section
variable {T : Table} {n : Nat} {w : W} {o v : Nat} {kcap : Cap} {armed : Int} {ks : List Int} {f : Bool} {c : Option Nat}

theorem refbyte_round (hf : Full n w) (hwl : w.length < 2 ^ 36) {i : Nat} {x : Nat × List UInt8} (hx : w[i]? = some x) {ρ : Env} {s : St} {K : List UInt8} (hK : K.length = n * 64) {k m : Nat} (hkm : k < m) (hm : m ≤ 64)
    (hg : s.get ⟨o, 0, 0⟩ = some [.sl ⟨o, 1, v⟩ 0 n kcap 64, .sl ⟨o, 2, v⟩ 0 w.length (.ge w.length) 65, .int .i64 armed, .bool true]) (hk : s.get ⟨o, 1, v⟩ = some (bs (putK K x.1 (x.2.take k)))) (hw : s.get ⟨o, 2, v⟩ = some (wc w))
    (r0 : ρ 0 = .ptr ⟨o, 0, 0⟩ 0) (r4 : ρ 4 = .int .i64 i) (r5 : ρ 5 = .int .i64 m) (r6 : ρ 6 = .int .i64 k) :
    ∃ ρ' s', run T l31_11 ρ s = some (.normal, ρ', s') ∧ ρ' 0 = ρ 0 ∧ ρ' 1 = ρ 1 ∧ ρ' 4 = ρ 4 ∧ ρ' 5 = ρ 5 ∧ ρ' 6 = .int .i64 (k + 1 : Nat) ∧ s'.next = s.next ∧ s'.get ⟨o, 0, 0⟩ = s.get ⟨o, 0, 0⟩ ∧ s'.get ⟨o, 1, v⟩ = some (bs (putK K x.1 (x.2.take (k + 1)))) ∧ s'.get ⟨o, 2, v⟩ = some (wc w) := by
  have hi : i < w.length := (List.getElem?_eq_some_iff.1 hx).1
  have hx1 := (hf x (List.mem_of_getElem? hx)).1
  have hx2 : x.2.length = 64 := (hf x (List.mem_of_getElem? hx)).2
  obtain ⟨y, hy⟩ : ∃ y, x.2[k]? = some y := ⟨x.2[k]'(by omega), List.getElem?_eq_getElem (by omega)⟩
  have hp0 := wc_head hf hx
  have hp1 := wc_byte hf hx hy
  have hkn : (x.1 + 1) * 64 ≤ n * 64 := Nat.mul_le_mul_right _ hx1
  have hlen : (putK K x.1 (x.2.take k)).length = n * 64 := putK_len hK hx1 (by rw [List.length_take]; omega)
  have hst : storeAt s 1 (.ptr ⟨o, 1, v⟩ (x.1 * 64 + k)) (.int .u8 y.toNat) = some (s.set ⟨o, 1, v⟩ (some (.cells (bs (putK K x.1 (x.2.take (k + 1))))))) := by
    have hsp : splice (bs (putK K x.1 (x.2.take k))) (x.1 * 64 + k) [.int .u8 y.toNat] = bs (putK K x.1 (x.2.take (k + 1))) := by
      rw [splice_one _ (by rw [bs_len, hlen]; omega), bs_set, putK_set hK hx1 hy (by omega)]
    simp only [storeAt, AV.cells, List.length_cons, List.length_nil, Nat.zero_add, if_true, Vm.storeCells, hk]
    rw [if_pos ⟨by rw [bs_len, hlen]; omega, rfl⟩, hsp]
  have hel : elemPtr 64 x.1 (.sl ⟨o, 1, v⟩ 0 n kcap 64) = some (.ptr ⟨o, 1, v⟩ (x.1 * 64)) := by rw [elemPtr_sl hx1, Nat.zero_add]
  have hew : elemPtr 65 i (.sl ⟨o, 2, v⟩ 0 w.length (.ge w.length) 65) = some (.ptr ⟨o, 2, v⟩ (i * 65)) := by rw [elemPtr_sl hi, Nat.zero_add]
  have hk64 : k < 64 := by omega
  simp (disch := first | omega | (simp only [rkl]; omega)) only [rk1, rk2, rk3, rk4, rk5, Arg.get, ret1, AV.cells, AV.isCell, addOff, minmaxL, Cap.room, Cap.cut, cutI, isSt, resultOf, Function.comp_apply, Function.comp_def, beq_self_eq_true, if_true, if_false, ite_true, ite_false, reduceCtorEq, bne_self_eq_false, Option.some.injEq, Prod.mk.injEq, ↓reduceIte, Nat.reduceEqDiff, Nat.reduceAdd, Nat.reduceMul, Nat.reduceSub, Nat.reduceLeDiff, Nat.reduceLT, Int.reduceLT, Int.reduceLE, Int.reduceEq, Int.reduceAdd, Int.reduceSub, Int.reduceNeg, Int.reduceToNat, List.mapM_cons, List.mapM_nil, Option.pure_def, Option.bind_eq_bind, eq_self, decide_true, decide_false, l31_11, p31_8, p31_10, go_d31_9, e31_9, r0, r4, r5, r6, hg, hw, hp0, hp1, hel, hew, hst, hkm, hk64]
  exact ⟨_, _, ⟨rfl, rfl⟩, by simp (disch := first | omega | (simp only [rkl]; omega)) only [rk1, rk2, rk3, rk4, rk5, Arg.get, ret1, AV.cells, AV.isCell, addOff, minmaxL, Cap.room, Cap.cut, cutI, isSt, resultOf, Function.comp_apply, Function.comp_def, beq_self_eq_true, if_true, if_false, ite_true, ite_false, reduceCtorEq, bne_self_eq_false, Option.some.injEq, Prod.mk.injEq, ↓reduceIte, Nat.reduceEqDiff, Nat.reduceAdd, Nat.reduceMul, Nat.reduceSub, Nat.reduceLeDiff, Nat.reduceLT, Int.reduceLT, Int.reduceLE, Int.reduceEq, Int.reduceAdd, Int.reduceSub, Int.reduceNeg, Int.reduceToNat, List.mapM_cons, List.mapM_nil, Option.pure_def, Option.bind_eq_bind, eq_self, decide_true, decide_false, r0], by first | rfl | simp (disch := first | omega | (simp only [rkl]; omega)) only [rk1, rk2, rk3, rk4, rk5, Arg.get, ret1, AV.cells, AV.isCell, addOff, minmaxL, Cap.room, Cap.cut, cutI, isSt, resultOf, Function.comp_apply, Function.comp_def, beq_self_eq_true, if_true, if_false, ite_true, ite_false, reduceCtorEq, bne_self_eq_false, Option.some.injEq, Prod.mk.injEq, ↓reduceIte, Nat.reduceEqDiff, Nat.reduceAdd, Nat.reduceMul, Nat.reduceSub, Nat.reduceLeDiff, Nat.reduceLT, Int.reduceLT, Int.reduceLE, Int.reduceEq, Int.reduceAdd, Int.reduceSub, Int.reduceNeg, Int.reduceToNat, List.mapM_cons, List.mapM_nil, Option.pure_def, Option.bind_eq_bind, eq_self, decide_true, decide_false], by simp (disch := first | omega | (simp only [rkl]; omega)) only [rk1, rk2, rk3, rk4, rk5, Arg.get, ret1, AV.cells, AV.isCell, addOff, minmaxL, Cap.room, Cap.cut, cutI, isSt, resultOf, Function.comp_apply, Function.comp_def, beq_self_eq_true, if_true, if_false, ite_true, ite_false, reduceCtorEq, bne_self_eq_false, Option.some.injEq, Prod.mk.injEq, ↓reduceIte, Nat.reduceEqDiff, Nat.reduceAdd, Nat.reduceMul, Nat.reduceSub, Nat.reduceLeDiff, Nat.reduceLT, Int.reduceLT, Int.reduceLE, Int.reduceEq, Int.reduceAdd, Int.reduceSub, Int.reduceNeg, Int.reduceToNat, List.mapM_cons, List.mapM_nil, Option.pure_def, Option.bind_eq_bind, eq_self, decide_true, decide_false, r4], by simp (disch := first | omega | (simp only [rkl]; omega)) only [rk1, rk2, rk3, rk4, rk5, Arg.get, ret1, AV.cells, AV.isCell, addOff, minmaxL, Cap.room, Cap.cut, cutI, isSt, resultOf, Function.comp_apply, Function.comp_def, beq_self_eq_true, if_true, if_false, ite_true, ite_false, reduceCtorEq, bne_self_eq_false, Option.some.injEq, Prod.mk.injEq, ↓reduceIte, Nat.reduceEqDiff, Nat.reduceAdd, Nat.reduceMul, Nat.reduceSub, Nat.reduceLeDiff, Nat.reduceLT, Int.reduceLT, Int.reduceLE, Int.reduceEq, Int.reduceAdd, Int.reduceSub, Int.reduceNeg, Int.reduceToNat, List.mapM_cons, List.mapM_nil, Option.pure_def, Option.bind_eq_bind, eq_self, decide_true, decide_false, r5], by simp (disch := first | omega | (simp only [rkl]; omega)) only [rk1, rk2, rk3, rk4, rk5, Arg.get, ret1, AV.cells, AV.isCell, addOff, minmaxL, Cap.room, Cap.cut, cutI, isSt, resultOf, Function.comp_apply, Function.comp_def, beq_self_eq_true, if_true, if_false, ite_true, ite_false, reduceCtorEq, bne_self_eq_false, Option.some.injEq, Prod.mk.injEq, ↓reduceIte, Nat.reduceEqDiff, Nat.reduceAdd, Nat.reduceMul, Nat.reduceSub, Nat.reduceLeDiff, Nat.reduceLT, Int.reduceLT, Int.reduceLE, Int.reduceEq, Int.reduceAdd, Int.reduceSub, Int.reduceNeg, Int.reduceToNat, List.mapM_cons, List.mapM_nil, Option.pure_def, Option.bind_eq_bind, eq_self, decide_true, decide_false, Int.natCast_add, Int.cast_ofNat_Int], rfl, by simp (disch := first | omega | (simp only [rkl]; omega)) only [rk1, rk2, rk3, rk4, rk5, Arg.get, ret1, AV.cells, AV.isCell, addOff, minmaxL, Cap.room, Cap.cut, cutI, isSt, resultOf, Function.comp_apply, Function.comp_def, beq_self_eq_true, if_true, if_false, ite_true, ite_false, reduceCtorEq, bne_self_eq_false, Option.some.injEq, Prod.mk.injEq, ↓reduceIte, Nat.reduceEqDiff, Nat.reduceAdd, Nat.reduceMul, Nat.reduceSub, Nat.reduceLeDiff, Nat.reduceLT, Int.reduceLT, Int.reduceLE, Int.reduceEq, Int.reduceAdd, Int.reduceSub, Int.reduceNeg, Int.reduceToNat, List.mapM_cons, List.mapM_nil, Option.pure_def, Option.bind_eq_bind, eq_self, decide_true, decide_false, hg], by simp (disch := first | omega | (simp only [rkl]; omega)) only [rk1, rk2, rk3, rk4, rk5, Arg.get, ret1, AV.cells, AV.isCell, addOff, minmaxL, Cap.room, Cap.cut, cutI, isSt, resultOf, Function.comp_apply, Function.comp_def, beq_self_eq_true, if_true, if_false, ite_true, ite_false, reduceCtorEq, bne_self_eq_false, Option.some.injEq, Prod.mk.injEq, ↓reduceIte, Nat.reduceEqDiff, Nat.reduceAdd, Nat.reduceMul, Nat.reduceSub, Nat.reduceLeDiff, Nat.reduceLT, Int.reduceLT, Int.reduceLE, Int.reduceEq, Int.reduceAdd, Int.reduceSub, Int.reduceNeg, Int.reduceToNat, List.mapM_cons, List.mapM_nil, Option.pure_def, Option.bind_eq_bind, eq_self, decide_true, decide_false], by simp (disch := first | omega | (simp only [rkl]; omega)) only [rk1, rk2, rk3, rk4, rk5, Arg.get, ret1, AV.cells, AV.isCell, addOff, minmaxL, Cap.room, Cap.cut, cutI, isSt, resultOf, Function.comp_apply, Function.comp_def, beq_self_eq_true, if_true, if_false, ite_true, ite_false, reduceCtorEq, bne_self_eq_false, Option.some.injEq, Prod.mk.injEq, ↓reduceIte, Nat.reduceEqDiff, Nat.reduceAdd, Nat.reduceMul, Nat.reduceSub, Nat.reduceLeDiff, Nat.reduceLT, Int.reduceLT, Int.reduceLE, Int.reduceEq, Int.reduceAdd, Int.reduceSub, Int.reduceNeg, Int.reduceToNat, List.mapM_cons, List.mapM_nil, Option.pure_def, Option.bind_eq_bind, eq_self, decide_true, decide_false, hw]⟩
theorem refbyte_loop (hf : Full n w) (hwl : w.length < 2 ^ 36) {i : Nat} {x : Nat × List UInt8} (hx : w[i]? = some x) {K : List UInt8} (hK : K.length = n * 64) {m : Nat} (hm : m ≤ 64) : ∀ (j k : Nat), k + j = m → ∀ {ρ : Env} {s : St},
    s.get ⟨o, 0, 0⟩ = some [.sl ⟨o, 1, v⟩ 0 n kcap 64, .sl ⟨o, 2, v⟩ 0 w.length (.ge w.length) 65, .int .i64 armed, .bool true] → s.get ⟨o, 1, v⟩ = some (bs (putK K x.1 (x.2.take k))) → s.get ⟨o, 2, v⟩ = some (wc w) →
    ρ 0 = .ptr ⟨o, 0, 0⟩ 0 → ρ 4 = .int .i64 i → ρ 5 = .int .i64 m → ρ 6 = .int .i64 k →
    ∃ ρ' s', run T (.loop l31_11) ρ s = some (.exit 2, ρ', s') ∧ ρ' 0 = ρ 0 ∧ ρ' 1 = ρ 1 ∧ ρ' 4 = ρ 4 ∧ s'.next = s.next ∧ s'.get ⟨o, 0, 0⟩ = s.get ⟨o, 0, 0⟩ ∧ s'.get ⟨o, 1, v⟩ = some (bs (putK K x.1 (x.2.take m))) ∧ s'.get ⟨o, 2, v⟩ = some (wc w)
  | 0, k, hkj, ρ, s, hg, hk, hw, r0, r4, r5, r6 => by
    have hi : k = m := by omega
    subst hi
    rw [run_loop]
    simp (disch := first | omega | (simp only [rkl]; omega)) only [rk1, rk2, rk3, rk4, rk5, Arg.get, ret1, AV.cells, AV.isCell, addOff, minmaxL, Cap.room, Cap.cut, cutI, isSt, resultOf, Function.comp_apply, Function.comp_def, beq_self_eq_true, if_true, if_false, ite_true, ite_false, reduceCtorEq, bne_self_eq_false, Option.some.injEq, Prod.mk.injEq, ↓reduceIte, Nat.reduceEqDiff, Nat.reduceAdd, Nat.reduceMul, Nat.reduceSub, Nat.reduceLeDiff, Nat.reduceLT, Int.reduceLT, Int.reduceLE, Int.reduceEq, Int.reduceAdd, Int.reduceSub, Int.reduceNeg, Int.reduceToNat, List.mapM_cons, List.mapM_nil, Option.pure_def, Option.bind_eq_bind, eq_self, decide_true, decide_false, l31_11, p31_8, r5, r6]
    exact ⟨_, _, ⟨rfl, rfl⟩, by first | rfl | simp (disch := first | omega | (simp only [rkl]; omega)) only [rk1, rk2, rk3, rk4, rk5, Arg.get, ret1, AV.cells, AV.isCell, addOff, minmaxL, Cap.room, Cap.cut, cutI, isSt, resultOf, Function.comp_apply, Function.comp_def, beq_self_eq_true, if_true, if_false, ite_true, ite_false, reduceCtorEq, bne_self_eq_false, Option.some.injEq, Prod.mk.injEq, ↓reduceIte, Nat.reduceEqDiff, Nat.reduceAdd, Nat.reduceMul, Nat.reduceSub, Nat.reduceLeDiff, Nat.reduceLT, Int.reduceLT, Int.reduceLE, Int.reduceEq, Int.reduceAdd, Int.reduceSub, Int.reduceNeg, Int.reduceToNat, List.mapM_cons, List.mapM_nil, Option.pure_def, Option.bind_eq_bind, eq_self, decide_true, decide_false], by first | rfl | simp (disch := first | omega | (simp only [rkl]; omega)) only [rk1, rk2, rk3, rk4, rk5, Arg.get, ret1, AV.cells, AV.isCell, addOff, minmaxL, Cap.room, Cap.cut, cutI, isSt, resultOf, Function.comp_apply, Function.comp_def, beq_self_eq_true, if_true, if_false, ite_true, ite_false, reduceCtorEq, bne_self_eq_false, Option.some.injEq, Prod.mk.injEq, ↓reduceIte, Nat.reduceEqDiff, Nat.reduceAdd, Nat.reduceMul, Nat.reduceSub, Nat.reduceLeDiff, Nat.reduceLT, Int.reduceLT, Int.reduceLE, Int.reduceEq, Int.reduceAdd, Int.reduceSub, Int.reduceNeg, Int.reduceToNat, List.mapM_cons, List.mapM_nil, Option.pure_def, Option.bind_eq_bind, eq_self, decide_true, decide_false], by first | rfl | simp (disch := first | omega | (simp only [rkl]; omega)) only [rk1, rk2, rk3, rk4, rk5, Arg.get, ret1, AV.cells, AV.isCell, addOff, minmaxL, Cap.room, Cap.cut, cutI, isSt, resultOf, Function.comp_apply, Function.comp_def, beq_self_eq_true, if_true, if_false, ite_true, ite_false, reduceCtorEq, bne_self_eq_false, Option.some.injEq, Prod.mk.injEq, ↓reduceIte, Nat.reduceEqDiff, Nat.reduceAdd, Nat.reduceMul, Nat.reduceSub, Nat.reduceLeDiff, Nat.reduceLT, Int.reduceLT, Int.reduceLE, Int.reduceEq, Int.reduceAdd, Int.reduceSub, Int.reduceNeg, Int.reduceToNat, List.mapM_cons, List.mapM_nil, Option.pure_def, Option.bind_eq_bind, eq_self, decide_true, decide_false], rfl, rfl, hk, hw⟩
  | j + 1, k, hkj, ρ, s, hg, hk, hw, r0, r4, r5, r6 => by
    obtain ⟨ρ1, s1, e1, q0, q1, q4, q5, q6, qn, qg, qk, qw⟩ := refbyte_round (T := T) hf hwl hx hK (by omega) hm hg hk hw r0 r4 r5 r6
    obtain ⟨ρ2, s2, f1, f0, f11, f4, fn, fg, fk, fw⟩ := refbyte_loop hf hwl hx hK hm j (k + 1) (by omega) (qg.trans hg) qk qw (q0.trans r0) (q4.trans r4) (q5.trans r5) q6
    rw [run_loop, e1]
    exact ⟨ρ2, s2, by simp (disch := first | omega | (simp only [rkl]; omega)) only [rk1, rk2, rk3, rk4, rk5, Arg.get, ret1, AV.cells, AV.isCell, addOff, minmaxL, Cap.room, Cap.cut, cutI, isSt, resultOf, Function.comp_apply, Function.comp_def, beq_self_eq_true, if_true, if_false, ite_true, ite_false, reduceCtorEq, bne_self_eq_false, Option.some.injEq, Prod.mk.injEq, ↓reduceIte, Nat.reduceEqDiff, Nat.reduceAdd, Nat.reduceMul, Nat.reduceSub, Nat.reduceLeDiff, Nat.reduceLT, Int.reduceLT, Int.reduceLE, Int.reduceEq, Int.reduceAdd, Int.reduceSub, Int.reduceNeg, Int.reduceToNat, List.mapM_cons, List.mapM_nil, Option.pure_def, Option.bind_eq_bind, eq_self, decide_true, decide_false]; exact f1, f0.trans q0, f11.trans q1, f4.trans q4, fn.trans qn, fg.trans qg, fk, fw⟩

theorem refcrash_round (hf : Full n w) (hwl : w.length < 2 ^ 36) (hks : ks.length < 2 ^ 60) {i : Nat} {x : Nat × List UInt8} (hx : w[i]? = some x) {ρ : Env} {s : St} {K : List UInt8} (hK : K.length = n * 64)
    (hg : s.get ⟨o, 0, 0⟩ = some [.sl ⟨o, 1, v⟩ 0 n kcap 64, .sl ⟨o, 2, v⟩ 0 w.length (.ge w.length) 65, .int .i64 armed, .bool true]) (hk : s.get ⟨o, 1, v⟩ = some (bs K)) (hw : s.get ⟨o, 2, v⟩ = some (wc w))
    (r0 : ρ 0 = .ptr ⟨o, 0, 0⟩ 0) (r1 : ρ 1 = .isl f (ic ks) ks.length c) (r4 : ρ 4 = .int .i64 i) :
    ∃ ρ' s', run T l31_13 ρ s = some (.normal, ρ', s') ∧ ρ' 0 = ρ 0 ∧ ρ' 1 = ρ 1 ∧ ρ' 4 = .int .i64 (i + 1 : Nat) ∧ s'.next = s.next ∧ s'.get ⟨o, 0, 0⟩ = s.get ⟨o, 0, 0⟩ ∧
      s'.get ⟨o, 1, v⟩ = some (bs (putK K x.1 (x.2.take (much ks i)))) ∧ s'.get ⟨o, 2, v⟩ = some (wc w) := by
  have hi : i < w.length := (List.getElem?_eq_some_iff.1 hx).1
  have hx1 := (hf x (List.mem_of_getElem? hx)).1
  have hK0 : putK K x.1 (x.2.take 0) = K := by simp [putK]
  have hk0 : s.get ⟨o, 1, v⟩ = some (bs (putK K x.1 (x.2.take 0))) := by rw [hK0]; exact hk
  have inner := fun (ρ1 : Env) r (hr : run T (.loop l31_11) ρ1 s = r) (q0 : ρ1 0 = .ptr ⟨o, 0, 0⟩ 0) (q4 : ρ1 4 = .int .i64 i) (q5 : ρ1 5 = .int .i64 (much ks i : Nat)) (q6 : ρ1 6 = .int .i64 (0 : Nat)) => by
    have := refbyte_loop (T := T) (kcap := kcap) (armed := armed) hf hwl hx hK (much_le ks i) (much ks i) 0 (by omega) hg hk0 hw q0 q4 q5 q6
    rw [hr] at this
    exact this
  by_cases hik : i < ks.length
  · have hmu : much ks i = clamp ks[i] := by simp [much, List.getElem?_eq_getElem hik]
    have hcl : ((clamp ks[i] : Nat) : Int) = max 0 (min ks[i] 64) := by unfold clamp; omega
    have hpi : elemPtr 1 i (.isl f (ic ks) ks.length c) = some (.iptr f (ic ks) i) := by rw [elemPtr_isl hik (by simp; omega), Nat.mul_one]
    have hgi : Vm.part false 1 i (ic ks) = some (.int .i64 ks[i]) := by rw [part_one (by simpa using hik), ic_get, List.getElem?_eq_getElem hik]; rfl
    have hm1 : minmaxL false (.int .i64 ks[i]) [.int .i64 64] = some (.int .i64 (min ks[i] 64)) := by
      have h0 : (if (64 : Int) < ks[i] then (64 : Int) else ks[i]) = min ks[i] 64 := by
        by_cases h : (64 : Int) < ks[i]
        · rw [if_pos h]; omega
        · rw [if_neg h]; omega
      rw [← h0]; rfl
    have hm2 : minmaxL true (.int .i64 0) [.int .i64 (min ks[i] 64)] = some (.int .i64 (clamp ks[i] : Nat)) := by
      have h0 : (if min ks[i] 64 > 0 then min ks[i] 64 else (0 : Int)) = max 0 (min ks[i] 64) := by
        by_cases h : min ks[i] 64 > 0
        · rw [if_pos h]; omega
        · rw [if_neg h]; omega
      rw [hcl, ← h0]; rfl
    simp (disch := first | omega | (simp only [rkl]; omega)) only [rk1, rk2, rk3, rk4, rk5, Arg.get, ret1, AV.cells, AV.isCell, addOff, minmaxL, Cap.room, Cap.cut, cutI, isSt, resultOf, Function.comp_apply, Function.comp_def, beq_self_eq_true, if_true, if_false, ite_true, ite_false, reduceCtorEq, bne_self_eq_false, Option.some.injEq, Prod.mk.injEq, ↓reduceIte, Nat.reduceEqDiff, Nat.reduceAdd, Nat.reduceMul, Nat.reduceSub, Nat.reduceLeDiff, Nat.reduceLT, Int.reduceLT, Int.reduceLE, Int.reduceEq, Int.reduceAdd, Int.reduceSub, Int.reduceNeg, Int.reduceToNat, List.mapM_cons, List.mapM_nil, Option.pure_def, Option.bind_eq_bind, eq_self, decide_true, decide_false, l31_13, p31_3, p31_4, p31_5, p31_6, p31_7, p31_12, r0, r1, r4, hg, hpi, hgi, hm1, hm2]
    generalize hr : run T (.loop l31_11) _ _ = r
    obtain ⟨ρ2, s2, rfl, f0, f1, f4, fn, fg, fk, fw⟩ := inner _ _ hr (by simp (disch := first | omega | (simp only [rkl]; omega)) only [rk1, rk2, rk3, rk4, rk5, Arg.get, ret1, AV.cells, AV.isCell, addOff, minmaxL, Cap.room, Cap.cut, cutI, isSt, resultOf, Function.comp_apply, Function.comp_def, beq_self_eq_true, if_true, if_false, ite_true, ite_false, reduceCtorEq, bne_self_eq_false, Option.some.injEq, Prod.mk.injEq, ↓reduceIte, Nat.reduceEqDiff, Nat.reduceAdd, Nat.reduceMul, Nat.reduceSub, Nat.reduceLeDiff, Nat.reduceLT, Int.reduceLT, Int.reduceLE, Int.reduceEq, Int.reduceAdd, Int.reduceSub, Int.reduceNeg, Int.reduceToNat, List.mapM_cons, List.mapM_nil, Option.pure_def, Option.bind_eq_bind, eq_self, decide_true, decide_false, r0]) (by simp (disch := first | omega | (simp only [rkl]; omega)) only [rk1, rk2, rk3, rk4, rk5, Arg.get, ret1, AV.cells, AV.isCell, addOff, minmaxL, Cap.room, Cap.cut, cutI, isSt, resultOf, Function.comp_apply, Function.comp_def, beq_self_eq_true, if_true, if_false, ite_true, ite_false, reduceCtorEq, bne_self_eq_false, Option.some.injEq, Prod.mk.injEq, ↓reduceIte, Nat.reduceEqDiff, Nat.reduceAdd, Nat.reduceMul, Nat.reduceSub, Nat.reduceLeDiff, Nat.reduceLT, Int.reduceLT, Int.reduceLE, Int.reduceEq, Int.reduceAdd, Int.reduceSub, Int.reduceNeg, Int.reduceToNat, List.mapM_cons, List.mapM_nil, Option.pure_def, Option.bind_eq_bind, eq_self, decide_true, decide_false, r4]) (by simp (disch := first | omega | (simp only [rkl]; omega)) only [rk1, rk2, rk3, rk4, rk5, Arg.get, ret1, AV.cells, AV.isCell, addOff, minmaxL, Cap.room, Cap.cut, cutI, isSt, resultOf, Function.comp_apply, Function.comp_def, beq_self_eq_true, if_true, if_false, ite_true, ite_false, reduceCtorEq, bne_self_eq_false, Option.some.injEq, Prod.mk.injEq, ↓reduceIte, Nat.reduceEqDiff, Nat.reduceAdd, Nat.reduceMul, Nat.reduceSub, Nat.reduceLeDiff, Nat.reduceLT, Int.reduceLT, Int.reduceLE, Int.reduceEq, Int.reduceAdd, Int.reduceSub, Int.reduceNeg, Int.reduceToNat, List.mapM_cons, List.mapM_nil, Option.pure_def, Option.bind_eq_bind, eq_self, decide_true, decide_false, hmu]) (by simp (disch := first | omega | (simp only [rkl]; omega)) only [rk1, rk2, rk3, rk4, rk5, Arg.get, ret1, AV.cells, AV.isCell, addOff, minmaxL, Cap.room, Cap.cut, cutI, isSt, resultOf, Function.comp_apply, Function.comp_def, beq_self_eq_true, if_true, if_false, ite_true, ite_false, reduceCtorEq, bne_self_eq_false, Option.some.injEq, Prod.mk.injEq, ↓reduceIte, Nat.reduceEqDiff, Nat.reduceAdd, Nat.reduceMul, Nat.reduceSub, Nat.reduceLeDiff, Nat.reduceLT, Int.reduceLT, Int.reduceLE, Int.reduceEq, Int.reduceAdd, Int.reduceSub, Int.reduceNeg, Int.reduceToNat, List.mapM_cons, List.mapM_nil, Option.pure_def, Option.bind_eq_bind, eq_self, decide_true, decide_false]; rfl)
    simp (disch := first | omega | (simp only [rkl]; omega)) only [rk1, rk2, rk3, rk4, rk5, Arg.get, ret1, AV.cells, AV.isCell, addOff, minmaxL, Cap.room, Cap.cut, cutI, isSt, resultOf, Function.comp_apply, Function.comp_def, beq_self_eq_true, if_true, if_false, ite_true, ite_false, reduceCtorEq, bne_self_eq_false, Option.some.injEq, Prod.mk.injEq, ↓reduceIte, Nat.reduceEqDiff, Nat.reduceAdd, Nat.reduceMul, Nat.reduceSub, Nat.reduceLeDiff, Nat.reduceLT, Int.reduceLT, Int.reduceLE, Int.reduceEq, Int.reduceAdd, Int.reduceSub, Int.reduceNeg, Int.reduceToNat, List.mapM_cons, List.mapM_nil, Option.pure_def, Option.bind_eq_bind, eq_self, decide_true, decide_false, p31_12, f4, r4]
    exact ⟨_, _, ⟨rfl, rfl⟩, by simp (disch := first | omega | (simp only [rkl]; omega)) only [rk1, rk2, rk3, rk4, rk5, Arg.get, ret1, AV.cells, AV.isCell, addOff, minmaxL, Cap.room, Cap.cut, cutI, isSt, resultOf, Function.comp_apply, Function.comp_def, beq_self_eq_true, if_true, if_false, ite_true, ite_false, reduceCtorEq, bne_self_eq_false, Option.some.injEq, Prod.mk.injEq, ↓reduceIte, Nat.reduceEqDiff, Nat.reduceAdd, Nat.reduceMul, Nat.reduceSub, Nat.reduceLeDiff, Nat.reduceLT, Int.reduceLT, Int.reduceLE, Int.reduceEq, Int.reduceAdd, Int.reduceSub, Int.reduceNeg, Int.reduceToNat, List.mapM_cons, List.mapM_nil, Option.pure_def, Option.bind_eq_bind, eq_self, decide_true, decide_false, f0, r0], by simp (disch := first | omega | (simp only [rkl]; omega)) only [rk1, rk2, rk3, rk4, rk5, Arg.get, ret1, AV.cells, AV.isCell, addOff, minmaxL, Cap.room, Cap.cut, cutI, isSt, resultOf, Function.comp_apply, Function.comp_def, beq_self_eq_true, if_true, if_false, ite_true, ite_false, reduceCtorEq, bne_self_eq_false, Option.some.injEq, Prod.mk.injEq, ↓reduceIte, Nat.reduceEqDiff, Nat.reduceAdd, Nat.reduceMul, Nat.reduceSub, Nat.reduceLeDiff, Nat.reduceLT, Int.reduceLT, Int.reduceLE, Int.reduceEq, Int.reduceAdd, Int.reduceSub, Int.reduceNeg, Int.reduceToNat, List.mapM_cons, List.mapM_nil, Option.pure_def, Option.bind_eq_bind, eq_self, decide_true, decide_false, f1, r1], by simp (disch := first | omega | (simp only [rkl]; omega)) only [rk1, rk2, rk3, rk4, rk5, Arg.get, ret1, AV.cells, AV.isCell, addOff, minmaxL, Cap.room, Cap.cut, cutI, isSt, resultOf, Function.comp_apply, Function.comp_def, beq_self_eq_true, if_true, if_false, ite_true, ite_false, reduceCtorEq, bne_self_eq_false, Option.some.injEq, Prod.mk.injEq, ↓reduceIte, Nat.reduceEqDiff, Nat.reduceAdd, Nat.reduceMul, Nat.reduceSub, Nat.reduceLeDiff, Nat.reduceLT, Int.reduceLT, Int.reduceLE, Int.reduceEq, Int.reduceAdd, Int.reduceSub, Int.reduceNeg, Int.reduceToNat, List.mapM_cons, List.mapM_nil, Option.pure_def, Option.bind_eq_bind, eq_self, decide_true, decide_false, Int.natCast_add, Int.cast_ofNat_Int], fn, fg.trans hg, fk, fw⟩
  · have hmu : much ks i = 0 := by simp [much, List.getElem?_eq_none (Nat.le_of_not_lt hik)]
    simp (disch := first | omega | (simp only [rkl]; omega)) only [rk1, rk2, rk3, rk4, rk5, Arg.get, ret1, AV.cells, AV.isCell, addOff, minmaxL, Cap.room, Cap.cut, cutI, isSt, resultOf, Function.comp_apply, Function.comp_def, beq_self_eq_true, if_true, if_false, ite_true, ite_false, reduceCtorEq, bne_self_eq_false, Option.some.injEq, Prod.mk.injEq, ↓reduceIte, Nat.reduceEqDiff, Nat.reduceAdd, Nat.reduceMul, Nat.reduceSub, Nat.reduceLeDiff, Nat.reduceLT, Int.reduceLT, Int.reduceLE, Int.reduceEq, Int.reduceAdd, Int.reduceSub, Int.reduceNeg, Int.reduceToNat, List.mapM_cons, List.mapM_nil, Option.pure_def, Option.bind_eq_bind, eq_self, decide_true, decide_false, l31_13, p31_3, p31_4, p31_5, p31_7, p31_12, r0, r1, r4, hg, hik]
    generalize hr : run T (.loop l31_11) _ _ = r
    obtain ⟨ρ2, s2, rfl, f0, f1, f4, fn, fg, fk, fw⟩ := inner _ _ hr (by simp (disch := first | omega | (simp only [rkl]; omega)) only [rk1, rk2, rk3, rk4, rk5, Arg.get, ret1, AV.cells, AV.isCell, addOff, minmaxL, Cap.room, Cap.cut, cutI, isSt, resultOf, Function.comp_apply, Function.comp_def, beq_self_eq_true, if_true, if_false, ite_true, ite_false, reduceCtorEq, bne_self_eq_false, Option.some.injEq, Prod.mk.injEq, ↓reduceIte, Nat.reduceEqDiff, Nat.reduceAdd, Nat.reduceMul, Nat.reduceSub, Nat.reduceLeDiff, Nat.reduceLT, Int.reduceLT, Int.reduceLE, Int.reduceEq, Int.reduceAdd, Int.reduceSub, Int.reduceNeg, Int.reduceToNat, List.mapM_cons, List.mapM_nil, Option.pure_def, Option.bind_eq_bind, eq_self, decide_true, decide_false, r0]) (by simp (disch := first | omega | (simp only [rkl]; omega)) only [rk1, rk2, rk3, rk4, rk5, Arg.get, ret1, AV.cells, AV.isCell, addOff, minmaxL, Cap.room, Cap.cut, cutI, isSt, resultOf, Function.comp_apply, Function.comp_def, beq_self_eq_true, if_true, if_false, ite_true, ite_false, reduceCtorEq, bne_self_eq_false, Option.some.injEq, Prod.mk.injEq, ↓reduceIte, Nat.reduceEqDiff, Nat.reduceAdd, Nat.reduceMul, Nat.reduceSub, Nat.reduceLeDiff, Nat.reduceLT, Int.reduceLT, Int.reduceLE, Int.reduceEq, Int.reduceAdd, Int.reduceSub, Int.reduceNeg, Int.reduceToNat, List.mapM_cons, List.mapM_nil, Option.pure_def, Option.bind_eq_bind, eq_self, decide_true, decide_false, r4]) (by simp (disch := first | omega | (simp only [rkl]; omega)) only [rk1, rk2, rk3, rk4, rk5, Arg.get, ret1, AV.cells, AV.isCell, addOff, minmaxL, Cap.room, Cap.cut, cutI, isSt, resultOf, Function.comp_apply, Function.comp_def, beq_self_eq_true, if_true, if_false, ite_true, ite_false, reduceCtorEq, bne_self_eq_false, Option.some.injEq, Prod.mk.injEq, ↓reduceIte, Nat.reduceEqDiff, Nat.reduceAdd, Nat.reduceMul, Nat.reduceSub, Nat.reduceLeDiff, Nat.reduceLT, Int.reduceLT, Int.reduceLE, Int.reduceEq, Int.reduceAdd, Int.reduceSub, Int.reduceNeg, Int.reduceToNat, List.mapM_cons, List.mapM_nil, Option.pure_def, Option.bind_eq_bind, eq_self, decide_true, decide_false, hmu]; rfl) (by simp (disch := first | omega | (simp only [rkl]; omega)) only [rk1, rk2, rk3, rk4, rk5, Arg.get, ret1, AV.cells, AV.isCell, addOff, minmaxL, Cap.room, Cap.cut, cutI, isSt, resultOf, Function.comp_apply, Function.comp_def, beq_self_eq_true, if_true, if_false, ite_true, ite_false, reduceCtorEq, bne_self_eq_false, Option.some.injEq, Prod.mk.injEq, ↓reduceIte, Nat.reduceEqDiff, Nat.reduceAdd, Nat.reduceMul, Nat.reduceSub, Nat.reduceLeDiff, Nat.reduceLT, Int.reduceLT, Int.reduceLE, Int.reduceEq, Int.reduceAdd, Int.reduceSub, Int.reduceNeg, Int.reduceToNat, List.mapM_cons, List.mapM_nil, Option.pure_def, Option.bind_eq_bind, eq_self, decide_true, decide_false]; rfl)
    simp (disch := first | omega | (simp only [rkl]; omega)) only [rk1, rk2, rk3, rk4, rk5, Arg.get, ret1, AV.cells, AV.isCell, addOff, minmaxL, Cap.room, Cap.cut, cutI, isSt, resultOf, Function.comp_apply, Function.comp_def, beq_self_eq_true, if_true, if_false, ite_true, ite_false, reduceCtorEq, bne_self_eq_false, Option.some.injEq, Prod.mk.injEq, ↓reduceIte, Nat.reduceEqDiff, Nat.reduceAdd, Nat.reduceMul, Nat.reduceSub, Nat.reduceLeDiff, Nat.reduceLT, Int.reduceLT, Int.reduceLE, Int.reduceEq, Int.reduceAdd, Int.reduceSub, Int.reduceNeg, Int.reduceToNat, List.mapM_cons, List.mapM_nil, Option.pure_def, Option.bind_eq_bind, eq_self, decide_true, decide_false, p31_12, f4, r4]
    exact ⟨_, _, ⟨rfl, rfl⟩, by simp (disch := first | omega | (simp only [rkl]; omega)) only [rk1, rk2, rk3, rk4, rk5, Arg.get, ret1, AV.cells, AV.isCell, addOff, minmaxL, Cap.room, Cap.cut, cutI, isSt, resultOf, Function.comp_apply, Function.comp_def, beq_self_eq_true, if_true, if_false, ite_true, ite_false, reduceCtorEq, bne_self_eq_false, Option.some.injEq, Prod.mk.injEq, ↓reduceIte, Nat.reduceEqDiff, Nat.reduceAdd, Nat.reduceMul, Nat.reduceSub, Nat.reduceLeDiff, Nat.reduceLT, Int.reduceLT, Int.reduceLE, Int.reduceEq, Int.reduceAdd, Int.reduceSub, Int.reduceNeg, Int.reduceToNat, List.mapM_cons, List.mapM_nil, Option.pure_def, Option.bind_eq_bind, eq_self, decide_true, decide_false, f0, r0], by simp (disch := first | omega | (simp only [rkl]; omega)) only [rk1, rk2, rk3, rk4, rk5, Arg.get, ret1, AV.cells, AV.isCell, addOff, minmaxL, Cap.room, Cap.cut, cutI, isSt, resultOf, Function.comp_apply, Function.comp_def, beq_self_eq_true, if_true, if_false, ite_true, ite_false, reduceCtorEq, bne_self_eq_false, Option.some.injEq, Prod.mk.injEq, ↓reduceIte, Nat.reduceEqDiff, Nat.reduceAdd, Nat.reduceMul, Nat.reduceSub, Nat.reduceLeDiff, Nat.reduceLT, Int.reduceLT, Int.reduceLE, Int.reduceEq, Int.reduceAdd, Int.reduceSub, Int.reduceNeg, Int.reduceToNat, List.mapM_cons, List.mapM_nil, Option.pure_def, Option.bind_eq_bind, eq_self, decide_true, decide_false, f1, r1], by simp (disch := first | omega | (simp only [rkl]; omega)) only [rk1, rk2, rk3, rk4, rk5, Arg.get, ret1, AV.cells, AV.isCell, addOff, minmaxL, Cap.room, Cap.cut, cutI, isSt, resultOf, Function.comp_apply, Function.comp_def, beq_self_eq_true, if_true, if_false, ite_true, ite_false, reduceCtorEq, bne_self_eq_false, Option.some.injEq, Prod.mk.injEq, ↓reduceIte, Nat.reduceEqDiff, Nat.reduceAdd, Nat.reduceMul, Nat.reduceSub, Nat.reduceLeDiff, Nat.reduceLT, Int.reduceLT, Int.reduceLE, Int.reduceEq, Int.reduceAdd, Int.reduceSub, Int.reduceNeg, Int.reduceToNat, List.mapM_cons, List.mapM_nil, Option.pure_def, Option.bind_eq_bind, eq_self, decide_true, decide_false, Int.natCast_add, Int.cast_ofNat_Int], fn, fg.trans hg, fk, fw⟩
end
/-
  THE REFERENCE's DISK: Crash, whole; New; the pictures' Show and Read.
-/

section
variable {T : Table} {n : Nat} {w : W} {o v : Nat} {kcap : Cap} {wcell : AV} {armed : Int} {ks : List Int} {f : Bool} {c : Option Nat}

theorem refcrash_loop (hf : Full n w) (hwl : w.length < 2 ^ 36) (hks : ks.length < 2 ^ 60) : ∀ (m i : Nat), i + m = w.length → ∀ {ρ : Env} {s : St} {K : List UInt8}, K.length = n * 64 →
    s.get ⟨o, 0, 0⟩ = some [.sl ⟨o, 1, v⟩ 0 n kcap 64, .sl ⟨o, 2, v⟩ 0 w.length (.ge w.length) 65, .int .i64 armed, .bool true] → s.get ⟨o, 1, v⟩ = some (bs K) → s.get ⟨o, 2, v⟩ = some (wc w) →
    ρ 0 = .ptr ⟨o, 0, 0⟩ 0 → ρ 1 = .isl f (ic ks) ks.length c → ρ 4 = .int .i64 i →
    ∃ ρ' s', run T (.loop l31_13) ρ s = some (.exit 0, ρ', s') ∧ ρ' 0 = ρ 0 ∧ s'.next = s.next ∧ s'.get ⟨o, 0, 0⟩ = s.get ⟨o, 0, 0⟩ ∧ s'.get ⟨o, 1, v⟩ = some (bs (hitAll ks i K (w.drop i)))
  | 0, i, him, ρ, s, K, hK, hg, hk, hw, r0, r1, r4 => by
    have hi : i = w.length := by omega
    subst hi
    rw [run_loop]
    simp (disch := first | omega | (simp only [rkl]; omega)) only [rk1, rk2, rk3, rk4, rk5, Arg.get, ret1, AV.cells, AV.isCell, addOff, minmaxL, Cap.room, Cap.cut, cutI, isSt, resultOf, Function.comp_apply, Function.comp_def, beq_self_eq_true, if_true, if_false, ite_true, ite_false, reduceCtorEq, bne_self_eq_false, Option.some.injEq, Prod.mk.injEq, ↓reduceIte, Nat.reduceEqDiff, Nat.reduceAdd, Nat.reduceMul, Nat.reduceSub, Nat.reduceLeDiff, Nat.reduceLT, Int.reduceLT, Int.reduceLE, Int.reduceEq, Int.reduceAdd, Int.reduceSub, Int.reduceNeg, Int.reduceToNat, List.mapM_cons, List.mapM_nil, Option.pure_def, Option.bind_eq_bind, eq_self, decide_true, decide_false, l31_13, p31_3, r0, r4, hg]
    exact ⟨_, _, ⟨rfl, rfl⟩, by simp (disch := first | omega | (simp only [rkl]; omega)) only [rk1, rk2, rk3, rk4, rk5, Arg.get, ret1, AV.cells, AV.isCell, addOff, minmaxL, Cap.room, Cap.cut, cutI, isSt, resultOf, Function.comp_apply, Function.comp_def, beq_self_eq_true, if_true, if_false, ite_true, ite_false, reduceCtorEq, bne_self_eq_false, Option.some.injEq, Prod.mk.injEq, ↓reduceIte, Nat.reduceEqDiff, Nat.reduceAdd, Nat.reduceMul, Nat.reduceSub, Nat.reduceLeDiff, Nat.reduceLT, Int.reduceLT, Int.reduceLE, Int.reduceEq, Int.reduceAdd, Int.reduceSub, Int.reduceNeg, Int.reduceToNat, List.mapM_cons, List.mapM_nil, Option.pure_def, Option.bind_eq_bind, eq_self, decide_true, decide_false, r0], rfl, by rw [hg], by rw [hk, List.drop_length]; rfl⟩
  | m + 1, i, him, ρ, s, K, hK, hg, hk, hw, r0, r1, r4 => by
    have hi : i < w.length := by omega
    have hx := hf w[i] (List.getElem_mem hi)
    obtain ⟨ρ1, s1, e1, q0, q1, q4, qn, qg, qk, qw⟩ := refcrash_round (T := T) hf hwl hks (List.getElem?_eq_getElem hi) hK hg hk hw r0 r1 r4
    obtain ⟨ρ2, s2, f1, f0, fo, fg, fk⟩ := refcrash_loop hf hwl hks m (i + 1) (by omega) (putK_len hK hx.1 (by have := much_le ks i; simp; omega)) (qg.trans hg) qk qw (q0.trans r0) (q1.trans r1) q4
    rw [run_loop, e1]
    refine ⟨ρ2, s2, by simp (disch := first | omega | (simp only [rkl]; omega)) only [rk1, rk2, rk3, rk4, rk5, Arg.get, ret1, AV.cells, AV.isCell, addOff, minmaxL, Cap.room, Cap.cut, cutI, isSt, resultOf, Function.comp_apply, Function.comp_def, beq_self_eq_true, if_true, if_false, ite_true, ite_false, reduceCtorEq, bne_self_eq_false, Option.some.injEq, Prod.mk.injEq, ↓reduceIte, Nat.reduceEqDiff, Nat.reduceAdd, Nat.reduceMul, Nat.reduceSub, Nat.reduceLeDiff, Nat.reduceLT, Int.reduceLT, Int.reduceLE, Int.reduceEq, Int.reduceAdd, Int.reduceSub, Int.reduceNeg, Int.reduceToNat, List.mapM_cons, List.mapM_nil, Option.pure_def, Option.bind_eq_bind, eq_self, decide_true, decide_false]; exact f1, f0.trans q0, fo.trans qn, fg.trans qg, ?_⟩
    rw [fk, List.drop_eq_getElem_cons hi]; rfl

theorem refcrash_out {ρ : Env} {s : St} {r} (hr : run T (.loop l31_13) ρ s = r) (hf : Full n w) (hwl : w.length < 2 ^ 36) (hks : ks.length < 2 ^ 60) {K : List UInt8} (hK : K.length = n * 64)
    (hg : s.get ⟨o, 0, 0⟩ = some [.sl ⟨o, 1, v⟩ 0 n kcap 64, wcell, .int .i64 armed, .bool true]) (hk : s.get ⟨o, 1, v⟩ = some (bs K))
    (hw : (wcell = .nilsl ∧ w = []) ∨ (wcell = .sl ⟨o, 2, v⟩ 0 w.length (.ge w.length) 65 ∧ s.get ⟨o, 2, v⟩ = some (wc w)))
    (r0 : ρ 0 = .ptr ⟨o, 0, 0⟩ 0) (r1 : ρ 1 = .isl f (ic ks) ks.length c) (r4 : ρ 4 = .int .i64 0) :
    ∃ ρ' s', r = some (.exit 0, ρ', s') ∧ ρ' 0 = .ptr ⟨o, 0, 0⟩ 0 ∧ s'.next = s.next ∧ s'.get ⟨o, 0, 0⟩ = s.get ⟨o, 0, 0⟩ ∧ s'.get ⟨o, 1, v⟩ = some (bs (hitAll ks 0 K w)) := by
  subst hr
  rcases hw with ⟨rfl, rfl⟩ | ⟨rfl, hw⟩
  · rw [run_loop]
    simp (disch := first | omega | (simp only [rkl]; omega)) only [rk1, rk2, rk3, rk4, rk5, Arg.get, ret1, AV.cells, AV.isCell, addOff, minmaxL, Cap.room, Cap.cut, cutI, isSt, resultOf, Function.comp_apply, Function.comp_def, beq_self_eq_true, if_true, if_false, ite_true, ite_false, reduceCtorEq, bne_self_eq_false, Option.some.injEq, Prod.mk.injEq, ↓reduceIte, Nat.reduceEqDiff, Nat.reduceAdd, Nat.reduceMul, Nat.reduceSub, Nat.reduceLeDiff, Nat.reduceLT, Int.reduceLT, Int.reduceLE, Int.reduceEq, Int.reduceAdd, Int.reduceSub, Int.reduceNeg, Int.reduceToNat, List.mapM_cons, List.mapM_nil, Option.pure_def, Option.bind_eq_bind, eq_self, decide_true, decide_false, l31_13, p31_3, r0, r4, hg]
    exact ⟨_, _, ⟨rfl, rfl⟩, by simp (disch := first | omega | (simp only [rkl]; omega)) only [rk1, rk2, rk3, rk4, rk5, Arg.get, ret1, AV.cells, AV.isCell, addOff, minmaxL, Cap.room, Cap.cut, cutI, isSt, resultOf, Function.comp_apply, Function.comp_def, beq_self_eq_true, if_true, if_false, ite_true, ite_false, reduceCtorEq, bne_self_eq_false, Option.some.injEq, Prod.mk.injEq, ↓reduceIte, Nat.reduceEqDiff, Nat.reduceAdd, Nat.reduceMul, Nat.reduceSub, Nat.reduceLeDiff, Nat.reduceLT, Int.reduceLT, Int.reduceLE, Int.reduceEq, Int.reduceAdd, Int.reduceSub, Int.reduceNeg, Int.reduceToNat, List.mapM_cons, List.mapM_nil, Option.pure_def, Option.bind_eq_bind, eq_self, decide_true, decide_false, r0], rfl, by rw [hg], hk⟩
  · obtain ⟨ρ2, s2, f1, f0, fo, fg, fk⟩ := refcrash_loop (T := T) hf hwl hks w.length 0 (by omega) hK hg hk hw r0 r1 r4
    exact ⟨ρ2, s2, f1, f0.trans r0, fo, fg, fk⟩
end

section
variable {hs : FuncId → Hint} (H : RefH hs) {σ : St} {o : Nat} {K : List UInt8} {n : Nat} {w : W} {down : Bool} {armed : Int} (D : RefO σ o K n w down armed)
include H D

theorem refcrash_ev (hwl : w.length < 2 ^ 36) {ks : List Int} (hks : ks.length < 2 ^ 60) {x : AV} {f : Bool} {c : Option Nat} (hx : argIn σ [o] x = some (.isl f (ic ks) ks.length c)) :
    ∃ σ', ev (tab hs) 31 [.ptr ⟨o, 0, 0⟩ 0, x] σ = some (.tup [], σ') ∧ RefO σ' o (hitAll ks 0 K w) n [] true armed ∧ Kept σ σ' o := by
  obtain ⟨v, kcap, wcell, ho, hg, hk, hw⟩ := D.start
  have hs1 : ∃ s1, (σ.only [o]).set ⟨o, 0, 0⟩ (some (.cells [.sl ⟨o, 1, v⟩ 0 n kcap 64, wcell, .int .i64 armed, .bool true])) = s1 ∧ s1.next = σ.next ∧
      s1.get ⟨o, 0, 0⟩ = some [.sl ⟨o, 1, v⟩ 0 n kcap 64, wcell, .int .i64 armed, .bool true] ∧ s1.get ⟨o, 1, v⟩ = some (bs K) ∧
      ((wcell = .nilsl ∧ w = []) ∨ (wcell = .sl ⟨o, 2, v⟩ 0 w.length (.ge w.length) 65 ∧ s1.get ⟨o, 2, v⟩ = some (wc w))) := by
    refine ⟨_, rfl, rfl, by rw [get_set_same], by rw [get_set, if_neg (by simp)]; exact hk, ?_⟩
    rcases hw with h | ⟨h, hw⟩
    · exact .inl h
    · exact .inr ⟨h, by rw [get_set, if_neg (by simp)]; exact hw⟩
  obtain ⟨s1, hs1, n1, g1, k1, w1⟩ := hs1
  have hrun : ∃ s2, bodyOf (run (tab hs)) ⟨62, 2, code31, [], .mut [(0, [])] none⟩ [.ptr ⟨o, 0, 0⟩ 0, .isl f (ic ks) ks.length c] (σ.only [o]) = some (.tup [], s2) ∧
      s2.get ⟨o, 0, 0⟩ = some [.sl ⟨o, 1, v⟩ 0 n kcap 64, .nilsl, .int .i64 armed, .bool true] ∧ s2.get ⟨o, 1, v⟩ = some (bs (hitAll ks 0 K w)) := by
    simp (disch := first | omega | (simp only [rkl]; omega)) only [rk1, rk2, rk3, rk4, rk5, Arg.get, ret1, AV.cells, AV.isCell, addOff, minmaxL, Cap.room, Cap.cut, cutI, isSt, resultOf, Function.comp_apply, Function.comp_def, beq_self_eq_true, if_true, if_false, ite_true, ite_false, reduceCtorEq, bne_self_eq_false, Option.some.injEq, Prod.mk.injEq, ↓reduceIte, Nat.reduceEqDiff, Nat.reduceAdd, Nat.reduceMul, Nat.reduceSub, Nat.reduceLeDiff, Nat.reduceLT, Int.reduceLT, Int.reduceLE, Int.reduceEq, Int.reduceAdd, Int.reduceSub, Int.reduceNeg, Int.reduceToNat, List.mapM_cons, List.mapM_nil, Option.pure_def, Option.bind_eq_bind, eq_self, decide_true, decide_false, code31, p31_1, p31_2, hg, hs1]
    generalize hr : run (tab hs) (.loop l31_13) _ _ = r
    obtain ⟨ρ', s2, rfl, q0, qn, qg, qk⟩ := refcrash_out (f := f) (c := c) hr D.full hwl hks D.len g1 k1 w1 (by simp (disch := first | omega | (simp only [rkl]; omega)) only [rk1, rk2, rk3, rk4, rk5, Arg.get, ret1, AV.cells, AV.isCell, addOff, minmaxL, Cap.room, Cap.cut, cutI, isSt, resultOf, Function.comp_apply, Function.comp_def, beq_self_eq_true, if_true, if_false, ite_true, ite_false, reduceCtorEq, bne_self_eq_false, Option.some.injEq, Prod.mk.injEq, ↓reduceIte, Nat.reduceEqDiff, Nat.reduceAdd, Nat.reduceMul, Nat.reduceSub, Nat.reduceLeDiff, Nat.reduceLT, Int.reduceLT, Int.reduceLE, Int.reduceEq, Int.reduceAdd, Int.reduceSub, Int.reduceNeg, Int.reduceToNat, List.mapM_cons, List.mapM_nil, Option.pure_def, Option.bind_eq_bind, eq_self, decide_true, decide_false]) (by simp (disch := first | omega | (simp only [rkl]; omega)) only [rk1, rk2, rk3, rk4, rk5, Arg.get, ret1, AV.cells, AV.isCell, addOff, minmaxL, Cap.room, Cap.cut, cutI, isSt, resultOf, Function.comp_apply, Function.comp_def, beq_self_eq_true, if_true, if_false, ite_true, ite_false, reduceCtorEq, bne_self_eq_false, Option.some.injEq, Prod.mk.injEq, ↓reduceIte, Nat.reduceEqDiff, Nat.reduceAdd, Nat.reduceMul, Nat.reduceSub, Nat.reduceLeDiff, Nat.reduceLT, Int.reduceLT, Int.reduceLE, Int.reduceEq, Int.reduceAdd, Int.reduceSub, Int.reduceNeg, Int.reduceToNat, List.mapM_cons, List.mapM_nil, Option.pure_def, Option.bind_eq_bind, eq_self, decide_true, decide_false]) (by simp (disch := first | omega | (simp only [rkl]; omega)) only [rk1, rk2, rk3, rk4, rk5, Arg.get, ret1, AV.cells, AV.isCell, addOff, minmaxL, Cap.room, Cap.cut, cutI, isSt, resultOf, Function.comp_apply, Function.comp_def, beq_self_eq_true, if_true, if_false, ite_true, ite_false, reduceCtorEq, bne_self_eq_false, Option.some.injEq, Prod.mk.injEq, ↓reduceIte, Nat.reduceEqDiff, Nat.reduceAdd, Nat.reduceMul, Nat.reduceSub, Nat.reduceLeDiff, Nat.reduceLT, Int.reduceLT, Int.reduceLE, Int.reduceEq, Int.reduceAdd, Int.reduceSub, Int.reduceNeg, Int.reduceToNat, List.mapM_cons, List.mapM_nil, Option.pure_def, Option.bind_eq_bind, eq_self, decide_true, decide_false])
    rw [g1] at qg
    simp (disch := first | omega | (simp only [rkl]; omega)) only [rk1, rk2, rk3, rk4, rk5, Arg.get, ret1, AV.cells, AV.isCell, addOff, minmaxL, Cap.room, Cap.cut, cutI, isSt, resultOf, Function.comp_apply, Function.comp_def, beq_self_eq_true, if_true, if_false, ite_true, ite_false, reduceCtorEq, bne_self_eq_false, Option.some.injEq, Prod.mk.injEq, ↓reduceIte, Nat.reduceEqDiff, Nat.reduceAdd, Nat.reduceMul, Nat.reduceSub, Nat.reduceLeDiff, Nat.reduceLT, Int.reduceLT, Int.reduceLE, Int.reduceEq, Int.reduceAdd, Int.reduceSub, Int.reduceNeg, Int.reduceToNat, List.mapM_cons, List.mapM_nil, Option.pure_def, Option.bind_eq_bind, eq_self, decide_true, decide_false, p31_14, q0, qg]
    exact ⟨_, rfl, by simp (disch := first | omega | (simp only [rkl]; omega)) only [rk1, rk2, rk3, rk4, rk5, Arg.get, ret1, AV.cells, AV.isCell, addOff, minmaxL, Cap.room, Cap.cut, cutI, isSt, resultOf, Function.comp_apply, Function.comp_def, beq_self_eq_true, if_true, if_false, ite_true, ite_false, reduceCtorEq, bne_self_eq_false, Option.some.injEq, Prod.mk.injEq, ↓reduceIte, Nat.reduceEqDiff, Nat.reduceAdd, Nat.reduceMul, Nat.reduceSub, Nat.reduceLeDiff, Nat.reduceLT, Int.reduceLT, Int.reduceLE, Int.reduceEq, Int.reduceAdd, Int.reduceSub, Int.reduceNeg, Int.reduceToNat, List.mapM_cons, List.mapM_nil, Option.pure_def, Option.bind_eq_bind, eq_self, decide_true, decide_false], by simp (disch := first | omega | (simp only [rkl]; omega)) only [rk1, rk2, rk3, rk4, rk5, Arg.get, ret1, AV.cells, AV.isCell, addOff, minmaxL, Cap.room, Cap.cut, cutI, isSt, resultOf, Function.comp_apply, Function.comp_def, beq_self_eq_true, if_true, if_false, ite_true, ite_false, reduceCtorEq, bne_self_eq_false, Option.some.injEq, Prod.mk.injEq, ↓reduceIte, Nat.reduceEqDiff, Nat.reduceAdd, Nat.reduceMul, Nat.reduceSub, Nat.reduceLeDiff, Nat.reduceLT, Int.reduceLT, Int.reduceLE, Int.reduceEq, Int.reduceAdd, Int.reduceSub, Int.reduceNeg, Int.reduceToNat, List.mapM_cons, List.mapM_nil, Option.pure_def, Option.bind_eq_bind, eq_self, decide_true, decide_false, qk]⟩
  obtain ⟨s2, b2, g2, k2⟩ := hrun
  exact ref_turn (H.crash ▸ tab31 hs) ho D.few D.arm (ins_cons hx (ins_nil _ _)) b2 g2 k2 .nil (by simp [refId, idsNodup]) (hitAll_len D.full D.len) (fun x hx => by simp at hx) plain_none
end
/-
  THE REFERENCE's DISK: Show and Read, over pictures.
-/

theorem shown_none {K : List UInt8} {a : Nat} : ∀ {w : W} {s : List UInt8}, (∀ x ∈ w, x.1 ≠ a) → w.foldl (fun s (x : Nat × List UInt8) => if x.1 = a then x.2 else s) s = s
  | [], _, _ => rfl
  | x :: w, s, h => by
    rw [List.foldl_cons, if_neg (h x (by simp))]
    exact shown_none (K := K) fun y hy => h y (by simp [hy])
theorem shown_at {K : List UInt8} {a : Nat} {w : W} {i : Nat} {x : Nat × List UInt8} (hx : w[i]? = some x) (ha : x.1 = a) (h : ∀ y ∈ w.drop (i + 1), y.1 ≠ a) : shown K w a = x.2 := by
  have hi : i < w.length := (List.getElem?_eq_some_iff.1 hx).1
  have e : w = w.take i ++ x :: w.drop (i + 1) := by
    have h1 := (List.getElem?_eq_some_iff.1 hx).2
    rw [← h1, ← List.drop_eq_getElem_cons hi, List.take_append_drop]
  unfold shown
  rw [e, List.foldl_append, List.foldl_cons, if_pos ha]
  exact shown_none (K := K) h

section
variable {T : Table} {K : List UInt8} {n : Nat} {fw : Bool} {w : W} {down : Bool} {armed : Int}

/-- The search from the last on. -/
theorem refshow_loop (hf : Full n w) (hwl : w.length < 2 ^ 36) {a : Nat} {id : Vm.Id} : ∀ (i : Nat), i ≤ w.length → (∀ y ∈ w.drop i, y.1 ≠ a) → ∀ {ρ : Env} {s : St} {z : List UInt8}, s.get id = some (bs z) → z.length = 64 →
    ρ 0 = picR K n fw w down armed → ρ 1 = .int .i64 a → ρ 4 = .ptr id 0 → ρ 5 = .int .i64 ((i : Int) - 1) →
    ∃ ρ' e s', run T (.loop l70_7) ρ s = some (e, ρ', s') ∧ ρ' 0 = ρ 0 ∧ ρ' 1 = ρ 1 ∧ ρ' 4 = ρ 4 ∧
      ((e = .ret ∧ s' = s.set id (some (.cells (bs (shown K w a))))) ∨ (e = .exit 0 ∧ s' = s ∧ shown K w a = secK K a))
  | 0, _, hn, ρ, s, z, hg, hz, r0, r1, r4, r5 => by
    have r5 : ρ 5 = .int .i64 (-1) := r5
    rw [run_loop]
    simp (disch := first | omega | (simp only [rkl]; omega)) only [rk1, rk2, rk3, rk4, rk5, Arg.get, ret1, AV.cells, AV.isCell, addOff, minmaxL, Cap.room, Cap.cut, cutI, isSt, resultOf, Function.comp_apply, Function.comp_def, beq_self_eq_true, if_true, if_false, ite_true, ite_false, reduceCtorEq, bne_self_eq_false, Option.some.injEq, Prod.mk.injEq, ↓reduceIte, Nat.reduceEqDiff, Nat.reduceAdd, Nat.reduceMul, Nat.reduceSub, Nat.reduceLeDiff, Nat.reduceLT, Int.reduceLT, Int.reduceLE, Int.reduceEq, Int.reduceAdd, Int.reduceSub, Int.reduceNeg, Int.reduceToNat, List.mapM_cons, List.mapM_nil, Option.pure_def, Option.bind_eq_bind, eq_self, decide_true, decide_false, l70_7, p70_3, r0, r1, r4, r5]
    refine ⟨_, _, _, ⟨rfl, rfl, rfl⟩, by first | rfl | simp (disch := first | omega | (simp only [rkl]; omega)) only [rk1, rk2, rk3, rk4, rk5, Arg.get, ret1, AV.cells, AV.isCell, addOff, minmaxL, Cap.room, Cap.cut, cutI, isSt, resultOf, Function.comp_apply, Function.comp_def, beq_self_eq_true, if_true, if_false, ite_true, ite_false, reduceCtorEq, bne_self_eq_false, Option.some.injEq, Prod.mk.injEq, ↓reduceIte, Nat.reduceEqDiff, Nat.reduceAdd, Nat.reduceMul, Nat.reduceSub, Nat.reduceLeDiff, Nat.reduceLT, Int.reduceLT, Int.reduceLE, Int.reduceEq, Int.reduceAdd, Int.reduceSub, Int.reduceNeg, Int.reduceToNat, List.mapM_cons, List.mapM_nil, Option.pure_def, Option.bind_eq_bind, eq_self, decide_true, decide_false, r0], by first | rfl | simp (disch := first | omega | (simp only [rkl]; omega)) only [rk1, rk2, rk3, rk4, rk5, Arg.get, ret1, AV.cells, AV.isCell, addOff, minmaxL, Cap.room, Cap.cut, cutI, isSt, resultOf, Function.comp_apply, Function.comp_def, beq_self_eq_true, if_true, if_false, ite_true, ite_false, reduceCtorEq, bne_self_eq_false, Option.some.injEq, Prod.mk.injEq, ↓reduceIte, Nat.reduceEqDiff, Nat.reduceAdd, Nat.reduceMul, Nat.reduceSub, Nat.reduceLeDiff, Nat.reduceLT, Int.reduceLT, Int.reduceLE, Int.reduceEq, Int.reduceAdd, Int.reduceSub, Int.reduceNeg, Int.reduceToNat, List.mapM_cons, List.mapM_nil, Option.pure_def, Option.bind_eq_bind, eq_self, decide_true, decide_false, r1], by first | rfl | simp (disch := first | omega | (simp only [rkl]; omega)) only [rk1, rk2, rk3, rk4, rk5, Arg.get, ret1, AV.cells, AV.isCell, addOff, minmaxL, Cap.room, Cap.cut, cutI, isSt, resultOf, Function.comp_apply, Function.comp_def, beq_self_eq_true, if_true, if_false, ite_true, ite_false, reduceCtorEq, bne_self_eq_false, Option.some.injEq, Prod.mk.injEq, ↓reduceIte, Nat.reduceEqDiff, Nat.reduceAdd, Nat.reduceMul, Nat.reduceSub, Nat.reduceLeDiff, Nat.reduceLT, Int.reduceLT, Int.reduceLE, Int.reduceEq, Int.reduceAdd, Int.reduceSub, Int.reduceNeg, Int.reduceToNat, List.mapM_cons, List.mapM_nil, Option.pure_def, Option.bind_eq_bind, eq_self, decide_true, decide_false, r4], .inr ⟨rfl, rfl, ?_⟩⟩
    exact shown_none (K := K) (by simpa using hn)
  | i + 1, hi, hn, ρ, s, z, hg, hz, r0, r1, r4, r5 => by
    have r5 : ρ 5 = .int .i64 (i : Nat) := by rw [r5]; congr 1; push_cast; omega
    have hi' : i < w.length := by omega
    have hx : w[i]? = some w[i] := List.getElem?_eq_getElem hi'
    have hx2 : (w[i]).2.length = 64 := (hf _ (List.getElem_mem hi')).2
    have hp0 := wc_head hf hx
    have hp1 := wc_tail hf hx
    have hwlen := wc_len hf
    have hew : elemPtr 65 i (.isl fw (wc w) w.length none) = some (.iptr fw (wc w) (i * 65)) := elemPtr_isl hi' (by omega)
    have h0 : ¬ ((i : Int) < 0) := by omega
    have hst : storeAt s 64 (.ptr id 0) (.agg (bs (w[i]).2)) = some (s.set id (some (.cells (bs (w[i]).2)))) := by
      have hsp : splice (bs z) 0 (bs (w[i]).2) = bs (w[i]).2 := by
        simp only [splice, List.take_zero, List.nil_append, Nat.zero_add]
        rw [List.drop_of_length_le (by rw [bs_len, bs_len, hz, hx2]; exact Nat.le_refl _), List.append_nil]
      simp only [storeAt, AV.cells, bs_len, hx2, if_true, Vm.storeCells, hg]
      rw [if_pos ⟨by rw [hz]; exact Nat.le_refl _, bs_cell _⟩, hsp]
    unfold picR at r0
    by_cases ha : (w[i]).1 = a
    · have ha' : ((w[i]).1 : Int) = (a : Int) := by rw [ha]
      rw [run_loop]
      simp (disch := first | omega | (simp only [rkl]; omega)) only [rk1, rk2, rk3, rk4, rk5, Arg.get, ret1, AV.cells, AV.isCell, addOff, minmaxL, Cap.room, Cap.cut, cutI, isSt, resultOf, Function.comp_apply, Function.comp_def, beq_self_eq_true, if_true, if_false, ite_true, ite_false, reduceCtorEq, bne_self_eq_false, Option.some.injEq, Prod.mk.injEq, ↓reduceIte, Nat.reduceEqDiff, Nat.reduceAdd, Nat.reduceMul, Nat.reduceSub, Nat.reduceLeDiff, Nat.reduceLT, Int.reduceLT, Int.reduceLE, Int.reduceEq, Int.reduceAdd, Int.reduceSub, Int.reduceNeg, Int.reduceToNat, List.mapM_cons, List.mapM_nil, Option.pure_def, Option.bind_eq_bind, eq_self, decide_true, decide_false, l70_7, p70_3, p70_4, p70_5, r0, r1, r4, r5, h0, hew, hp0, hp1, ha', hst]
      refine ⟨_, _, _, ⟨rfl, rfl, rfl⟩, by first | rfl | simp (disch := first | omega | (simp only [rkl]; omega)) only [rk1, rk2, rk3, rk4, rk5, Arg.get, ret1, AV.cells, AV.isCell, addOff, minmaxL, Cap.room, Cap.cut, cutI, isSt, resultOf, Function.comp_apply, Function.comp_def, beq_self_eq_true, if_true, if_false, ite_true, ite_false, reduceCtorEq, bne_self_eq_false, Option.some.injEq, Prod.mk.injEq, ↓reduceIte, Nat.reduceEqDiff, Nat.reduceAdd, Nat.reduceMul, Nat.reduceSub, Nat.reduceLeDiff, Nat.reduceLT, Int.reduceLT, Int.reduceLE, Int.reduceEq, Int.reduceAdd, Int.reduceSub, Int.reduceNeg, Int.reduceToNat, List.mapM_cons, List.mapM_nil, Option.pure_def, Option.bind_eq_bind, eq_self, decide_true, decide_false, r0], by first | rfl | simp (disch := first | omega | (simp only [rkl]; omega)) only [rk1, rk2, rk3, rk4, rk5, Arg.get, ret1, AV.cells, AV.isCell, addOff, minmaxL, Cap.room, Cap.cut, cutI, isSt, resultOf, Function.comp_apply, Function.comp_def, beq_self_eq_true, if_true, if_false, ite_true, ite_false, reduceCtorEq, bne_self_eq_false, Option.some.injEq, Prod.mk.injEq, ↓reduceIte, Nat.reduceEqDiff, Nat.reduceAdd, Nat.reduceMul, Nat.reduceSub, Nat.reduceLeDiff, Nat.reduceLT, Int.reduceLT, Int.reduceLE, Int.reduceEq, Int.reduceAdd, Int.reduceSub, Int.reduceNeg, Int.reduceToNat, List.mapM_cons, List.mapM_nil, Option.pure_def, Option.bind_eq_bind, eq_self, decide_true, decide_false, r1], by first | rfl | simp (disch := first | omega | (simp only [rkl]; omega)) only [rk1, rk2, rk3, rk4, rk5, Arg.get, ret1, AV.cells, AV.isCell, addOff, minmaxL, Cap.room, Cap.cut, cutI, isSt, resultOf, Function.comp_apply, Function.comp_def, beq_self_eq_true, if_true, if_false, ite_true, ite_false, reduceCtorEq, bne_self_eq_false, Option.some.injEq, Prod.mk.injEq, ↓reduceIte, Nat.reduceEqDiff, Nat.reduceAdd, Nat.reduceMul, Nat.reduceSub, Nat.reduceLeDiff, Nat.reduceLT, Int.reduceLT, Int.reduceLE, Int.reduceEq, Int.reduceAdd, Int.reduceSub, Int.reduceNeg, Int.reduceToNat, List.mapM_cons, List.mapM_nil, Option.pure_def, Option.bind_eq_bind, eq_self, decide_true, decide_false, r4], .inl ⟨rfl, ?_⟩⟩
      rw [shown_at hx ha hn]
    · have ha' : ¬ (((w[i]).1 : Int) = (a : Int)) := by omega
      have hn' : ∀ y ∈ w.drop i, y.1 ≠ a := by
        intro y hy
        rw [List.drop_eq_getElem_cons hi'] at hy
        rcases List.mem_cons.1 hy with rfl | hy
        · exact ha
        · exact hn y hy
      have hround : ∃ ρ1, run T l70_7 ρ s = some (.normal, ρ1, s) ∧ ρ1 0 = ρ 0 ∧ ρ1 1 = ρ 1 ∧ ρ1 4 = ρ 4 ∧ ρ1 5 = .int .i64 ((i : Int) - 1) := by
        simp (disch := first | omega | (simp only [rkl]; omega)) only [rk1, rk2, rk3, rk4, rk5, Arg.get, ret1, AV.cells, AV.isCell, addOff, minmaxL, Cap.room, Cap.cut, cutI, isSt, resultOf, Function.comp_apply, Function.comp_def, beq_self_eq_true, if_true, if_false, ite_true, ite_false, reduceCtorEq, bne_self_eq_false, Option.some.injEq, Prod.mk.injEq, ↓reduceIte, Nat.reduceEqDiff, Nat.reduceAdd, Nat.reduceMul, Nat.reduceSub, Nat.reduceLeDiff, Nat.reduceLT, Int.reduceLT, Int.reduceLE, Int.reduceEq, Int.reduceAdd, Int.reduceSub, Int.reduceNeg, Int.reduceToNat, List.mapM_cons, List.mapM_nil, Option.pure_def, Option.bind_eq_bind, eq_self, decide_true, decide_false, l70_7, p70_3, p70_4, p70_6, r0, r1, r4, r5, h0, hew, hp0, hp1, ha']
        exact ⟨_, rfl, by first | rfl | simp (disch := first | omega | (simp only [rkl]; omega)) only [rk1, rk2, rk3, rk4, rk5, Arg.get, ret1, AV.cells, AV.isCell, addOff, minmaxL, Cap.room, Cap.cut, cutI, isSt, resultOf, Function.comp_apply, Function.comp_def, beq_self_eq_true, if_true, if_false, ite_true, ite_false, reduceCtorEq, bne_self_eq_false, Option.some.injEq, Prod.mk.injEq, ↓reduceIte, Nat.reduceEqDiff, Nat.reduceAdd, Nat.reduceMul, Nat.reduceSub, Nat.reduceLeDiff, Nat.reduceLT, Int.reduceLT, Int.reduceLE, Int.reduceEq, Int.reduceAdd, Int.reduceSub, Int.reduceNeg, Int.reduceToNat, List.mapM_cons, List.mapM_nil, Option.pure_def, Option.bind_eq_bind, eq_self, decide_true, decide_false, r0], by first | rfl | simp (disch := first | omega | (simp only [rkl]; omega)) only [rk1, rk2, rk3, rk4, rk5, Arg.get, ret1, AV.cells, AV.isCell, addOff, minmaxL, Cap.room, Cap.cut, cutI, isSt, resultOf, Function.comp_apply, Function.comp_def, beq_self_eq_true, if_true, if_false, ite_true, ite_false, reduceCtorEq, bne_self_eq_false, Option.some.injEq, Prod.mk.injEq, ↓reduceIte, Nat.reduceEqDiff, Nat.reduceAdd, Nat.reduceMul, Nat.reduceSub, Nat.reduceLeDiff, Nat.reduceLT, Int.reduceLT, Int.reduceLE, Int.reduceEq, Int.reduceAdd, Int.reduceSub, Int.reduceNeg, Int.reduceToNat, List.mapM_cons, List.mapM_nil, Option.pure_def, Option.bind_eq_bind, eq_self, decide_true, decide_false, r1], by first | rfl | simp (disch := first | omega | (simp only [rkl]; omega)) only [rk1, rk2, rk3, rk4, rk5, Arg.get, ret1, AV.cells, AV.isCell, addOff, minmaxL, Cap.room, Cap.cut, cutI, isSt, resultOf, Function.comp_apply, Function.comp_def, beq_self_eq_true, if_true, if_false, ite_true, ite_false, reduceCtorEq, bne_self_eq_false, Option.some.injEq, Prod.mk.injEq, ↓reduceIte, Nat.reduceEqDiff, Nat.reduceAdd, Nat.reduceMul, Nat.reduceSub, Nat.reduceLeDiff, Nat.reduceLT, Int.reduceLT, Int.reduceLE, Int.reduceEq, Int.reduceAdd, Int.reduceSub, Int.reduceNeg, Int.reduceToNat, List.mapM_cons, List.mapM_nil, Option.pure_def, Option.bind_eq_bind, eq_self, decide_true, decide_false, r4], by first | rfl | simp (disch := first | omega | (simp only [rkl]; omega)) only [rk1, rk2, rk3, rk4, rk5, Arg.get, ret1, AV.cells, AV.isCell, addOff, minmaxL, Cap.room, Cap.cut, cutI, isSt, resultOf, Function.comp_apply, Function.comp_def, beq_self_eq_true, if_true, if_false, ite_true, ite_false, reduceCtorEq, bne_self_eq_false, Option.some.injEq, Prod.mk.injEq, ↓reduceIte, Nat.reduceEqDiff, Nat.reduceAdd, Nat.reduceMul, Nat.reduceSub, Nat.reduceLeDiff, Nat.reduceLT, Int.reduceLT, Int.reduceLE, Int.reduceEq, Int.reduceAdd, Int.reduceSub, Int.reduceNeg, Int.reduceToNat, List.mapM_cons, List.mapM_nil, Option.pure_def, Option.bind_eq_bind, eq_self, decide_true, decide_false, r5]⟩
      obtain ⟨ρ1, e1, q0, q1, q4, q5⟩ := hround
      obtain ⟨ρ2, e, s2, f1, f0, f11, f4, f5⟩ := refshow_loop hf hwl (a := a) (id := id) i (by omega) hn' hg hz (q0.trans r0) (q1.trans r1) (q4.trans r4) q5
      rw [run_loop, e1]
      exact ⟨ρ2, e, s2, by simp (disch := first | omega | (simp only [rkl]; omega)) only [rk1, rk2, rk3, rk4, rk5, Arg.get, ret1, AV.cells, AV.isCell, addOff, minmaxL, Cap.room, Cap.cut, cutI, isSt, resultOf, Function.comp_apply, Function.comp_def, beq_self_eq_true, if_true, if_false, ite_true, ite_false, reduceCtorEq, bne_self_eq_false, Option.some.injEq, Prod.mk.injEq, ↓reduceIte, Nat.reduceEqDiff, Nat.reduceAdd, Nat.reduceMul, Nat.reduceSub, Nat.reduceLeDiff, Nat.reduceLT, Int.reduceLT, Int.reduceLE, Int.reduceEq, Int.reduceAdd, Int.reduceSub, Int.reduceNeg, Int.reduceToNat, List.mapM_cons, List.mapM_nil, Option.pure_def, Option.bind_eq_bind, eq_self, decide_true, decide_false]; exact f1, f0.trans q0, f11.trans q1, f4.trans q4, f5⟩
end
/-
  THE REFERENCE's DISK: Show, whole.
-/

section
variable {hs : FuncId → Hint} (H : RefH hs) {K : List UInt8} {n : Nat} {fw : Bool} {w : W} {down : Bool} {armed : Int}
include H

theorem refshow_raw (hK : K.length = n * 64) (hf : Full n w) (hwl : w.length < 2 ^ 36) {a : Nat} (ha : a < n) (σ : St) : ∃ σ', ev (tab hs) 70 [picR K n fw w down armed, .int .i64 a] σ = some (.agg (bs (shown K w a)), σ') := by
  rw [ev_raw (H.show ▸ tab70 hs)]
  have hz : newCells σ (List.replicate 64 (.int .u8 0)) = some (⟨σ.next, 0, 0⟩, σ.new (bs (List.replicate 64 0))) := by
    rw [newCells_ok (by simp [AV.isCell])]
    simp only [bs, List.map_replicate]; rfl
  have hg : (σ.new (bs (List.replicate 64 0))).get ⟨σ.next, 0, 0⟩ = some (bs (List.replicate 64 0)) := by rw [get_new, if_pos rfl]
  have hl : ∀ s, lenIn s .sl (.isl fw (wc w) w.length none) = some w.length := fun s => rfl
  have hwr : IntKind.i64.wrap ((w.length : Int) - 1) = (w.length : Int) - 1 := wrap_i64 (by omega) (by omega)
  have hsl := secK_len hK ha
  have hbm : (a + 1) * 64 ≤ n * 64 := Nat.mul_le_mul_right _ ha
  have hep : elemPtr 64 a (.isl true (bs K) n none) = some (.iptr true (bs K) (a * 64)) := elemPtr_isl ha (by simp; omega)
  have hpt : Vm.part true 64 (a * 64) (bs K) = some (.agg (bs (secK K a))) := by rw [part_t (by simp; omega)]; simp [secK]
  have hloop := fun (ρ : Env) => refshow_loop (T := tab hs) (K := K) (fw := fw) (down := down) (armed := armed) hf hwl (a := a) (id := ⟨σ.next, 0, 0⟩) w.length (Nat.le_refl _) (by simp) (ρ := ρ) hg (by simp)
  unfold picR at hloop ⊢
  have hst : ∀ b : List UInt8, b.length = 64 → ∀ s : St, s.get ⟨σ.next, 0, 0⟩ = some (bs (List.replicate 64 0)) → storeAt s 64 (.ptr ⟨σ.next, 0, 0⟩ 0) (.agg (bs b)) = some (s.set ⟨σ.next, 0, 0⟩ (some (.cells (bs b)))) := by
    intro b hb s hs
    have hsp : splice (bs (List.replicate 64 0)) 0 (bs b) = bs b := by
      simp only [splice, List.take_zero, List.nil_append, Nat.zero_add]
      rw [List.drop_of_length_le (by simp [hb]), List.append_nil]
    simp only [storeAt, AV.cells, bs_len, hb, if_true, Vm.storeCells, hs]
    rw [if_pos ⟨by simp, bs_cell _⟩, hsp]
  have hld : ∀ b : List UInt8, b.length = 64 → ∀ s : St, s.get ⟨σ.next, 0, 0⟩ = some (bs b) → loadAt s true 64 (.ptr ⟨σ.next, 0, 0⟩ 0) = some (.agg (bs b)) := by
    intro b hb s hs
    have : List.take 64 (bs b) = bs b := List.take_of_length_le (by simp [hb])
    simp [loadAt, hs, Vm.part, hb, this]
  have hsh := shown_len hK hf ha
  have htk : ∀ b : List UInt8, b.length = 64 → List.take 64 (bs b) = bs b := fun b hb => List.take_of_length_le (by simp [hb])
  have inner := fun (ρ : Env) r (hr : run (tab hs) (.loop l70_7) ρ (σ.new (bs (List.replicate 64 0))) = r) q0 q1 q4 q5 => by
    have := hloop ρ q0 q1 q4 q5
    rw [hr] at this
    exact this
  simp (disch := first | omega | (simp only [rkl]; omega)) only [rk1, rk2, rk3, rk4, rk5, Arg.get, ret1, AV.cells, AV.isCell, addOff, minmaxL, Cap.room, Cap.cut, cutI, isSt, resultOf, Function.comp_apply, Function.comp_def, beq_self_eq_true, if_true, if_false, ite_true, ite_false, reduceCtorEq, bne_self_eq_false, Option.some.injEq, Prod.mk.injEq, ↓reduceIte, Nat.reduceEqDiff, Nat.reduceAdd, Nat.reduceMul, Nat.reduceSub, Nat.reduceLeDiff, Nat.reduceLT, Int.reduceLT, Int.reduceLE, Int.reduceEq, Int.reduceAdd, Int.reduceSub, Int.reduceNeg, Int.reduceToNat, List.mapM_cons, List.mapM_nil, Option.pure_def, Option.bind_eq_bind, eq_self, decide_true, decide_false, code70, p70_1, p70_2, hz, hl, hwr]
  generalize hr : run (tab hs) (.loop l70_7) _ _ = r
  obtain ⟨ρ2, e, s2, rfl, f0, f11, f4, f5⟩ := inner _ _ hr (by simp (disch := first | omega | (simp only [rkl]; omega)) only [rk1, rk2, rk3, rk4, rk5, Arg.get, ret1, AV.cells, AV.isCell, addOff, minmaxL, Cap.room, Cap.cut, cutI, isSt, resultOf, Function.comp_apply, Function.comp_def, beq_self_eq_true, if_true, if_false, ite_true, ite_false, reduceCtorEq, bne_self_eq_false, Option.some.injEq, Prod.mk.injEq, ↓reduceIte, Nat.reduceEqDiff, Nat.reduceAdd, Nat.reduceMul, Nat.reduceSub, Nat.reduceLeDiff, Nat.reduceLT, Int.reduceLT, Int.reduceLE, Int.reduceEq, Int.reduceAdd, Int.reduceSub, Int.reduceNeg, Int.reduceToNat, List.mapM_cons, List.mapM_nil, Option.pure_def, Option.bind_eq_bind, eq_self, decide_true, decide_false]) (by simp (disch := first | omega | (simp only [rkl]; omega)) only [rk1, rk2, rk3, rk4, rk5, Arg.get, ret1, AV.cells, AV.isCell, addOff, minmaxL, Cap.room, Cap.cut, cutI, isSt, resultOf, Function.comp_apply, Function.comp_def, beq_self_eq_true, if_true, if_false, ite_true, ite_false, reduceCtorEq, bne_self_eq_false, Option.some.injEq, Prod.mk.injEq, ↓reduceIte, Nat.reduceEqDiff, Nat.reduceAdd, Nat.reduceMul, Nat.reduceSub, Nat.reduceLeDiff, Nat.reduceLT, Int.reduceLT, Int.reduceLE, Int.reduceEq, Int.reduceAdd, Int.reduceSub, Int.reduceNeg, Int.reduceToNat, List.mapM_cons, List.mapM_nil, Option.pure_def, Option.bind_eq_bind, eq_self, decide_true, decide_false]) (by simp (disch := first | omega | (simp only [rkl]; omega)) only [rk1, rk2, rk3, rk4, rk5, Arg.get, ret1, AV.cells, AV.isCell, addOff, minmaxL, Cap.room, Cap.cut, cutI, isSt, resultOf, Function.comp_apply, Function.comp_def, beq_self_eq_true, if_true, if_false, ite_true, ite_false, reduceCtorEq, bne_self_eq_false, Option.some.injEq, Prod.mk.injEq, ↓reduceIte, Nat.reduceEqDiff, Nat.reduceAdd, Nat.reduceMul, Nat.reduceSub, Nat.reduceLeDiff, Nat.reduceLT, Int.reduceLT, Int.reduceLE, Int.reduceEq, Int.reduceAdd, Int.reduceSub, Int.reduceNeg, Int.reduceToNat, List.mapM_cons, List.mapM_nil, Option.pure_def, Option.bind_eq_bind, eq_self, decide_true, decide_false]) (by simp (disch := first | omega | (simp only [rkl]; omega)) only [rk1, rk2, rk3, rk4, rk5, Arg.get, ret1, AV.cells, AV.isCell, addOff, minmaxL, Cap.room, Cap.cut, cutI, isSt, resultOf, Function.comp_apply, Function.comp_def, beq_self_eq_true, if_true, if_false, ite_true, ite_false, reduceCtorEq, bne_self_eq_false, Option.some.injEq, Prod.mk.injEq, ↓reduceIte, Nat.reduceEqDiff, Nat.reduceAdd, Nat.reduceMul, Nat.reduceSub, Nat.reduceLeDiff, Nat.reduceLT, Int.reduceLT, Int.reduceLE, Int.reduceEq, Int.reduceAdd, Int.reduceSub, Int.reduceNeg, Int.reduceToNat, List.mapM_cons, List.mapM_nil, Option.pure_def, Option.bind_eq_bind, eq_self, decide_true, decide_false])
  have f0 : ρ2 0 = .iptr true [.isl true (bs K) n none, .isl fw (wc w) w.length none, .int .i64 armed, .bool down] 0 := by rw [f0]; simp (disch := first | omega | (simp only [rkl]; omega)) only [rk1, rk2, rk3, rk4, rk5, Arg.get, ret1, AV.cells, AV.isCell, addOff, minmaxL, Cap.room, Cap.cut, cutI, isSt, resultOf, Function.comp_apply, Function.comp_def, beq_self_eq_true, if_true, if_false, ite_true, ite_false, reduceCtorEq, bne_self_eq_false, Option.some.injEq, Prod.mk.injEq, ↓reduceIte, Nat.reduceEqDiff, Nat.reduceAdd, Nat.reduceMul, Nat.reduceSub, Nat.reduceLeDiff, Nat.reduceLT, Int.reduceLT, Int.reduceLE, Int.reduceEq, Int.reduceAdd, Int.reduceSub, Int.reduceNeg, Int.reduceToNat, List.mapM_cons, List.mapM_nil, Option.pure_def, Option.bind_eq_bind, eq_self, decide_true, decide_false]
  have f11 : ρ2 1 = .int .i64 a := by rw [f11]; simp (disch := first | omega | (simp only [rkl]; omega)) only [rk1, rk2, rk3, rk4, rk5, Arg.get, ret1, AV.cells, AV.isCell, addOff, minmaxL, Cap.room, Cap.cut, cutI, isSt, resultOf, Function.comp_apply, Function.comp_def, beq_self_eq_true, if_true, if_false, ite_true, ite_false, reduceCtorEq, bne_self_eq_false, Option.some.injEq, Prod.mk.injEq, ↓reduceIte, Nat.reduceEqDiff, Nat.reduceAdd, Nat.reduceMul, Nat.reduceSub, Nat.reduceLeDiff, Nat.reduceLT, Int.reduceLT, Int.reduceLE, Int.reduceEq, Int.reduceAdd, Int.reduceSub, Int.reduceNeg, Int.reduceToNat, List.mapM_cons, List.mapM_nil, Option.pure_def, Option.bind_eq_bind, eq_self, decide_true, decide_false]
  have f4 : ρ2 4 = .ptr ⟨σ.next, 0, 0⟩ 0 := by rw [f4]; simp (disch := first | omega | (simp only [rkl]; omega)) only [rk1, rk2, rk3, rk4, rk5, Arg.get, ret1, AV.cells, AV.isCell, addOff, minmaxL, Cap.room, Cap.cut, cutI, isSt, resultOf, Function.comp_apply, Function.comp_def, beq_self_eq_true, if_true, if_false, ite_true, ite_false, reduceCtorEq, bne_self_eq_false, Option.some.injEq, Prod.mk.injEq, ↓reduceIte, Nat.reduceEqDiff, Nat.reduceAdd, Nat.reduceMul, Nat.reduceSub, Nat.reduceLeDiff, Nat.reduceLT, Int.reduceLT, Int.reduceLE, Int.reduceEq, Int.reduceAdd, Int.reduceSub, Int.reduceNeg, Int.reduceToNat, List.mapM_cons, List.mapM_nil, Option.pure_def, Option.bind_eq_bind, eq_self, decide_true, decide_false]
  rcases f5 with ⟨rfl, rfl⟩ | ⟨rfl, rfl, hsk⟩
  · simp (disch := first | omega | (simp only [rkl]; omega)) only [rk1, rk2, rk3, rk4, rk5, Arg.get, ret1, AV.cells, AV.isCell, addOff, minmaxL, Cap.room, Cap.cut, cutI, isSt, resultOf, Function.comp_apply, Function.comp_def, beq_self_eq_true, if_true, if_false, ite_true, ite_false, reduceCtorEq, bne_self_eq_false, Option.some.injEq, Prod.mk.injEq, ↓reduceIte, Nat.reduceEqDiff, Nat.reduceAdd, Nat.reduceMul, Nat.reduceSub, Nat.reduceLeDiff, Nat.reduceLT, Int.reduceLT, Int.reduceLE, Int.reduceEq, Int.reduceAdd, Int.reduceSub, Int.reduceNeg, Int.reduceToNat, List.mapM_cons, List.mapM_nil, Option.pure_def, Option.bind_eq_bind, eq_self, decide_true, decide_false, f4, hsh, htk _ hsh]
    exact ⟨_, rfl⟩
  · simp (disch := first | omega | (simp only [rkl]; omega)) only [rk1, rk2, rk3, rk4, rk5, Arg.get, ret1, AV.cells, AV.isCell, addOff, minmaxL, Cap.room, Cap.cut, cutI, isSt, resultOf, Function.comp_apply, Function.comp_def, beq_self_eq_true, if_true, if_false, ite_true, ite_false, reduceCtorEq, bne_self_eq_false, Option.some.injEq, Prod.mk.injEq, ↓reduceIte, Nat.reduceEqDiff, Nat.reduceAdd, Nat.reduceMul, Nat.reduceSub, Nat.reduceLeDiff, Nat.reduceLT, Int.reduceLT, Int.reduceLE, Int.reduceEq, Int.reduceAdd, Int.reduceSub, Int.reduceNeg, Int.reduceToNat, List.mapM_cons, List.mapM_nil, Option.pure_def, Option.bind_eq_bind, eq_self, decide_true, decide_false, p70_8, f0, f11, f4, hep, hpt, hst _ hsl _ hg, hsl, htk _ hsl, hsk]
    exact ⟨_, rfl⟩
end
/-
  THE REFERENCE's DISK: Read, over pictures.
-/

section
variable {hs : FuncId → Hint} (H : RefH hs) {K : List UInt8} {n : Nat} {fw : Bool} {w : W} {down : Bool} {armed : Int}
include H

theorem refread_pure {h : Hint} (hK : K.length = n * 64) (hn : n ≤ 65536) (hf : Full n w) (hw : w.length < 2 ^ 36) (a : Int) : pureOf (run (tab hs)) ⟨27, 2, code26, [.tmp 4, .tmp 5], h⟩ [picR K n fw w down armed, .int .i64 a] =
    some (if down then .tup [.isl false [] 0 none, .int .i64 3] else if 0 ≤ a ∧ a < n then .tup [.isl false (bs (shown K w a.toNat)) 64 none, .int .i64 0] else .tup [.isl false [] 0 none, .int .i64 1]) := by
  cases down with
  | true =>
    unfold picR
    simp (disch := first | omega | (simp only [rkl]; omega)) only [rk1, rk2, rk3, rk4, rk5, Arg.get, ret1, AV.cells, AV.isCell, addOff, minmaxL, Cap.room, Cap.cut, cutI, isSt, resultOf, Function.comp_apply, Function.comp_def, beq_self_eq_true, if_true, if_false, ite_true, ite_false, reduceCtorEq, bne_self_eq_false, Option.some.injEq, Prod.mk.injEq, ↓reduceIte, Nat.reduceEqDiff, Nat.reduceAdd, Nat.reduceMul, Nat.reduceSub, Nat.reduceLeDiff, Nat.reduceLT, Int.reduceLT, Int.reduceLE, Int.reduceEq, Int.reduceAdd, Int.reduceSub, Int.reduceNeg, Int.reduceToNat, List.mapM_cons, List.mapM_nil, Option.pure_def, Option.bind_eq_bind, eq_self, decide_true, decide_false, code26, p26_1, p26_2, p26_3]
  | false =>
    by_cases ha : a < 0
    · unfold picR
      simp (disch := first | omega | (simp only [rkl]; omega)) only [rk1, rk2, rk3, rk4, rk5, Arg.get, ret1, AV.cells, AV.isCell, addOff, minmaxL, Cap.room, Cap.cut, cutI, isSt, resultOf, Function.comp_apply, Function.comp_def, beq_self_eq_true, if_true, if_false, ite_true, ite_false, reduceCtorEq, bne_self_eq_false, Option.some.injEq, Prod.mk.injEq, ↓reduceIte, Nat.reduceEqDiff, Nat.reduceAdd, Nat.reduceMul, Nat.reduceSub, Nat.reduceLeDiff, Nat.reduceLT, Int.reduceLT, Int.reduceLE, Int.reduceEq, Int.reduceAdd, Int.reduceSub, Int.reduceNeg, Int.reduceToNat, List.mapM_cons, List.mapM_nil, Option.pure_def, Option.bind_eq_bind, eq_self, decide_true, decide_false, code26, p26_1, p26_2, p26_4, p26_5]
    · obtain ⟨b, rfl⟩ : ∃ b : Nat, a = b := ⟨a.toNat, by omega⟩
      by_cases hb : b < n
      · obtain ⟨s1, hsr⟩ := refshow_raw H (fw := fw) (down := false) (armed := armed) hK hf hw hb emptySt
        have hsh := shown_len hK hf hb
        unfold picR at hsr ⊢
        have htk : List.take 64 (bs (shown K w b)) = bs (shown K w b) := List.take_of_length_le (by simp [hsh])
        have hz : ∀ σ, newCells σ (List.replicate 64 (.int .u8 0)) = some (⟨σ.next, 0, 0⟩, σ.new (List.replicate 64 (.int .u8 0))) := fun σ => newCells_ok (by simp [AV.isCell])
        have hst : storeAt (s1.new (List.replicate 64 (.int .u8 0))) 64 (.ptr ⟨s1.next, 0, 0⟩ 0) (.agg (bs (shown K w b))) = some (s1.new (bs (shown K w b))) := new_store (by simp) (by simp [hsh]) (bs_cell _)
        have hg : (s1.new (bs (shown K w b))).get ⟨s1.next, 0, 0⟩ = some (bs (shown K w b)) := by rw [get_new, if_pos rfl]
        have hsa := fun ρ => slArr_all (n := 64) (sz := 1) (off := 0) (ρ := ρ) hg (by simp [hsh])
        have hel : elems (s1.new (bs (shown K w b))) 1 64 (.sl ⟨s1.next, 0, 0⟩ 0 64 (.ex 64) 1) = some (bs (shown K w b)) := by
          simp [elems, hg, hsh, htk]
        have hap : ∀ σ, appendTo σ 1 1 64 (bs (shown K w b)) .nilsl = some (.sl ⟨σ.next, 0, 0⟩ 0 64 (.ge 64) 1, σ.new (bs (shown K w b))) := fun σ => append_nil' (by omega) (by decide) (bs_cell _)
        simp (disch := first | omega | (simp only [rkl]; omega)) only [rk1, rk2, rk3, rk4, rk5, Arg.get, ret1, AV.cells, AV.isCell, addOff, minmaxL, Cap.room, Cap.cut, cutI, isSt, resultOf, Function.comp_apply, Function.comp_def, beq_self_eq_true, if_true, if_false, ite_true, ite_false, reduceCtorEq, bne_self_eq_false, Option.some.injEq, Prod.mk.injEq, ↓reduceIte, Nat.reduceEqDiff, Nat.reduceAdd, Nat.reduceMul, Nat.reduceSub, Nat.reduceLeDiff, Nat.reduceLT, Int.reduceLT, Int.reduceLE, Int.reduceEq, Int.reduceAdd, Int.reduceSub, Int.reduceNeg, Int.reduceToNat, List.mapM_cons, List.mapM_nil, Option.pure_def, Option.bind_eq_bind, eq_self, decide_true, decide_false, code26, p26_1, p26_2, p26_4, p26_6, p26_7, hsr, hz, hst, hsa, hel, hap, htk, hsh, bs_len, frz_bs]
      · unfold picR
        simp (disch := first | omega | (simp only [rkl]; omega)) only [rk1, rk2, rk3, rk4, rk5, Arg.get, ret1, AV.cells, AV.isCell, addOff, minmaxL, Cap.room, Cap.cut, cutI, isSt, resultOf, Function.comp_apply, Function.comp_def, beq_self_eq_true, if_true, if_false, ite_true, ite_false, reduceCtorEq, bne_self_eq_false, Option.some.injEq, Prod.mk.injEq, ↓reduceIte, Nat.reduceEqDiff, Nat.reduceAdd, Nat.reduceMul, Nat.reduceSub, Nat.reduceLeDiff, Nat.reduceLT, Int.reduceLT, Int.reduceLE, Int.reduceEq, Int.reduceAdd, Int.reduceSub, Int.reduceNeg, Int.reduceToNat, List.mapM_cons, List.mapM_nil, Option.pure_def, Option.bind_eq_bind, eq_self, decide_true, decide_false, code26, p26_1, p26_2, p26_4, p26_5]

variable {σ : St} {o : Nat} (D : RefO σ o K n w down armed)
include D
theorem refread_ev (hw : w.length < 2 ^ 36) (a : Int) : ev (tab hs) 26 [.ptr ⟨o, 0, 0⟩ 0, .int .i64 a] σ =
    some (if down then .tup [.isl false [] 0 none, .int .i64 3] else if 0 ≤ a ∧ a < n then .tup [.isl false (bs (shown K w a.toNat)) 64 none, .int .i64 0] else .tup [.isl false [] 0 none, .int .i64 1], σ) := by
  obtain ⟨fw, hsn⟩ := D.snap
  exact pure_ev (H.read ▸ tab26 hs) (snaps_cons hsn (snaps_cons rfl (snaps_nil σ))) (refread_pure H D.len D.few D.full hw a)
end
/-
  THE DISKS: New of the reference; the program's Write and Flush where nothing is done.
-/

section
variable {hs : FuncId → Hint} (H : DiskH hs) {σ : St} {o : Nat} {K : List UInt8} {n : Nat} {w : W} {down : Bool} {armed : Int} (D : DiskO σ o K n w down armed)
include H D

theorem write_down (hdn : down = true) {a : Int} {b : List UInt8} {x : AV} {f : Bool} {c : Option Nat} (hx : argIn σ [o] x = some (.isl f (bs b) b.length c)) :
    ∃ σ', ev (tab hs) 17 [.ptr ⟨o, 0, 0⟩ 0, .int .i64 a, x] σ = some (.int .i64 3, σ') ∧ DiskO σ' o K n w down armed ∧ Kept σ σ' o := by
  subst hdn
  have hup := up_ev H (D.only)
  obtain ⟨v, kcap, wcell, ho, hg, hk, hw⟩ := D.start
  refine disk_turn (H.write ▸ tab17 hs) (σ1 := σ.only [o]) (kid := ⟨o, 1, v⟩) (kcap := kcap) (wcell := wcell) ho D.few D.arm (ins_cons rfl (ins_cons hx (ins_nil _ _))) ?_ hg hk (.same hw) (nodup_cells hw) D.len D.full (plain_int _ _) (D.form hg)
  simp (disch := first | omega | (simp only [rkl]; omega)) only [rk1, rk2, rk3, rk4, rk5, Arg.get, ret1, AV.cells, AV.isCell, addOff, minmaxL, Cap.room, Cap.cut, cutI, isSt, resultOf, Function.comp_apply, Function.comp_def, beq_self_eq_true, if_true, if_false, ite_true, ite_false, reduceCtorEq, bne_self_eq_false, Option.some.injEq, Prod.mk.injEq, ↓reduceIte, Nat.reduceEqDiff, Nat.reduceAdd, Nat.reduceMul, Nat.reduceSub, Nat.reduceLeDiff, Nat.reduceLT, Int.reduceLT, Int.reduceLE, Int.reduceEq, Int.reduceAdd, Int.reduceSub, Int.reduceNeg, Int.reduceToNat, List.mapM_cons, List.mapM_nil, Option.pure_def, Option.bind_eq_bind, eq_self, decide_true, decide_false, code17, p17_1, p17_2, p17_3, p17_4, hup]

theorem write_bad (hdn : down = false) {a : Int} {b : List UInt8} {x : AV} {f : Bool} {c : Option Nat} (hx : argIn σ [o] x = some (.isl f (bs b) b.length c)) (hbad : ¬ (0 ≤ a ∧ a < n ∧ b.length = 64)) :
    ∃ σ', ev (tab hs) 17 [.ptr ⟨o, 0, 0⟩ 0, .int .i64 a, x] σ = some (.int .i64 1, σ') ∧ DiskO σ' o K n w down armed ∧ Kept σ σ' o := by
  subst hdn
  have hup := up_ev H (D.only)
  obtain ⟨v, kcap, wcell, ho, hg, hk, hw⟩ := D.start
  refine disk_turn (H.write ▸ tab17 hs) (σ1 := σ.only [o]) (kid := ⟨o, 1, v⟩) (kcap := kcap) (wcell := wcell) ho D.few D.arm (ins_cons rfl (ins_cons hx (ins_nil _ _))) ?_ hg hk (.same hw) (nodup_cells hw) D.len D.full (plain_int _ _) (D.form hg)
  by_cases h1 : a < 0
  · simp (disch := first | omega | (simp only [rkl]; omega)) only [rk1, rk2, rk3, rk4, rk5, Arg.get, ret1, AV.cells, AV.isCell, addOff, minmaxL, Cap.room, Cap.cut, cutI, isSt, resultOf, Function.comp_apply, Function.comp_def, beq_self_eq_true, if_true, if_false, ite_true, ite_false, reduceCtorEq, bne_self_eq_false, Option.some.injEq, Prod.mk.injEq, ↓reduceIte, Nat.reduceEqDiff, Nat.reduceAdd, Nat.reduceMul, Nat.reduceSub, Nat.reduceLeDiff, Nat.reduceLT, Int.reduceLT, Int.reduceLE, Int.reduceEq, Int.reduceAdd, Int.reduceSub, Int.reduceNeg, Int.reduceToNat, List.mapM_cons, List.mapM_nil, Option.pure_def, Option.bind_eq_bind, eq_self, decide_true, decide_false, code17, p17_1, p17_2, p17_3, p17_4, p17_5, p17_6, hup, hg, h1]
  · by_cases h2 : (n : Int) ≤ a
    · simp (disch := first | omega | (simp only [rkl]; omega)) only [rk1, rk2, rk3, rk4, rk5, Arg.get, ret1, AV.cells, AV.isCell, addOff, minmaxL, Cap.room, Cap.cut, cutI, isSt, resultOf, Function.comp_apply, Function.comp_def, beq_self_eq_true, if_true, if_false, ite_true, ite_false, reduceCtorEq, bne_self_eq_false, Option.some.injEq, Prod.mk.injEq, ↓reduceIte, Nat.reduceEqDiff, Nat.reduceAdd, Nat.reduceMul, Nat.reduceSub, Nat.reduceLeDiff, Nat.reduceLT, Int.reduceLT, Int.reduceLE, Int.reduceEq, Int.reduceAdd, Int.reduceSub, Int.reduceNeg, Int.reduceToNat, List.mapM_cons, List.mapM_nil, Option.pure_def, Option.bind_eq_bind, eq_self, decide_true, decide_false, code17, p17_1, p17_2, p17_3, p17_4, p17_5, p17_6, hup, hg, h1, h2]
    · have h3 : ¬ ((b.length : Int) = 64) := fun e => hbad ⟨by omega, by omega, by omega⟩
      simp (disch := first | omega | (simp only [rkl]; omega)) only [rk1, rk2, rk3, rk4, rk5, Arg.get, ret1, AV.cells, AV.isCell, addOff, minmaxL, Cap.room, Cap.cut, cutI, isSt, resultOf, Function.comp_apply, Function.comp_def, beq_self_eq_true, if_true, if_false, ite_true, ite_false, reduceCtorEq, bne_self_eq_false, Option.some.injEq, Prod.mk.injEq, ↓reduceIte, Nat.reduceEqDiff, Nat.reduceAdd, Nat.reduceMul, Nat.reduceSub, Nat.reduceLeDiff, Nat.reduceLT, Int.reduceLT, Int.reduceLE, Int.reduceEq, Int.reduceAdd, Int.reduceSub, Int.reduceNeg, Int.reduceToNat, List.mapM_cons, List.mapM_nil, Option.pure_def, Option.bind_eq_bind, eq_self, decide_true, decide_false, code17, p17_1, p17_2, p17_3, p17_4, p17_5, p17_6, hup, hg, h1, h2, h3]

theorem flush_down (hdn : down = true) : ∃ σ', ev (tab hs) 19 [.ptr ⟨o, 0, 0⟩ 0] σ = some (.int .i64 3, σ') ∧ DiskO σ' o K n w down armed ∧ Kept σ σ' o := by
  subst hdn
  have hup := up_ev H (D.only)
  obtain ⟨v, kcap, wcell, ho, hg, hk, hw⟩ := D.start
  refine disk_turn (H.flush ▸ tab19 hs) (σ1 := σ.only [o]) (kid := ⟨o, 1, v⟩) (kcap := kcap) (wcell := wcell) ho D.few D.arm (ins_nil _ _) ?_ hg hk (.same hw) (nodup_cells hw) D.len D.full (plain_int _ _) (D.form hg)
  simp (disch := first | omega | (simp only [rkl]; omega)) only [rk1, rk2, rk3, rk4, rk5, Arg.get, ret1, AV.cells, AV.isCell, addOff, minmaxL, Cap.room, Cap.cut, cutI, isSt, resultOf, Function.comp_apply, Function.comp_def, beq_self_eq_true, if_true, if_false, ite_true, ite_false, reduceCtorEq, bne_self_eq_false, Option.some.injEq, Prod.mk.injEq, ↓reduceIte, Nat.reduceEqDiff, Nat.reduceAdd, Nat.reduceMul, Nat.reduceSub, Nat.reduceLeDiff, Nat.reduceLT, Int.reduceLT, Int.reduceLE, Int.reduceEq, Int.reduceAdd, Int.reduceSub, Int.reduceNeg, Int.reduceToNat, List.mapM_cons, List.mapM_nil, Option.pure_def, Option.bind_eq_bind, eq_self, decide_true, decide_false, code19, p19_1, p19_2, p19_3, p19_4, hup]

theorem write_evx (hwl : w.length < 2 ^ 36) {a : Nat} (ha : a < n) {b : List UInt8} {x : AV} {f : Bool} {c : Option Nat} (hx : argIn σ [o] x = some (.isl f (bs b) 64 c)) (hb : b.length = 64) (hdn : down = false) :
    ∃ σ', ev (tab hs) 17 [.ptr ⟨o, 0, 0⟩ 0, .int .i64 a, x] σ = some (.int .i64 (if armed = 1 then 3 else 0), σ') ∧ DiskO σ' o K n (w ++ [(a, b)]) (down2 down armed) (armed2 armed) ∧ Kept σ σ' o := by
  subst hdn
  have hA := D.arm
  have hfull : Full n (w ++ [(a, b)]) := by
    intro y hy
    rcases List.mem_append.1 hy with hy | hy
    · exact D.full y hy
    · simp only [List.mem_singleton] at hy; subst hy; exact ⟨ha, hb⟩
  have hup := up_ev H (D.only)
  obtain ⟨v, kcap, wcell, ho, hg, hk, hw⟩ := D.start
  generalize hs0 : σ.only [o] = s0 at hg hk hw hup ⊢
  have hnx : s0.next = σ.next := by rw [← hs0]; rfl
  have hreg := fun (ρ : Env) r => write_region (hs := hs) (K := K) (n := n) (w := w) (down := false) (armed := armed) D (v := v) (kcap := kcap) (wcell := wcell) (s0 := s0) (by omega) hg hw hwl (a := a) (f := f) (c := c) hb (ρ := ρ) (r := r)
  have hrun : ∃ s1, bodyOf (run (tab hs)) ⟨45, 3, code17, [.tmp 6], .mut [(0, [])] none⟩ [.ptr ⟨o, 0, 0⟩ 0, .int .i64 a, .isl f (bs b) 64 c] s0 = some (.int .i64 (if armed = 1 then 3 else 0), s1) ∧
      s1.get ⟨o, 0, 0⟩ = some [.sl ⟨o, 1, v⟩ 0 n kcap 64, .sl ⟨s0.next + 1, 0, 0⟩ 0 (w ++ [(a, b)]).length (.ge (w ++ [(a, b)]).length) 65, .bool (down2 false armed), .int .i64 (armed2 armed)] ∧
      s1.get ⟨o, 1, v⟩ = some (bs K) ∧ s1.get ⟨s0.next + 1, 0, 0⟩ = some (wc (w ++ [(a, b)])) := by
    simp (disch := first | omega | (simp only [rkl]; omega)) only [rk1, rk2, rk3, rk4, rk5, Arg.get, ret1, AV.cells, AV.isCell, addOff, minmaxL, Cap.room, Cap.cut, cutI, isSt, resultOf, Function.comp_apply, Function.comp_def, beq_self_eq_true, if_true, if_false, ite_true, ite_false, reduceCtorEq, bne_self_eq_false, Option.some.injEq, Prod.mk.injEq, ↓reduceIte, Nat.reduceEqDiff, Nat.reduceAdd, Nat.reduceMul, Nat.reduceSub, Nat.reduceLeDiff, Nat.reduceLT, Int.reduceLT, Int.reduceLE, Int.reduceEq, Int.reduceAdd, Int.reduceSub, Int.reduceNeg, Int.reduceToNat, List.mapM_cons, List.mapM_nil, Option.pure_def, Option.bind_eq_bind, eq_self, decide_true, decide_false, code17, p17_1, p17_2, p17_3, p17_4, p17_5, p17_6, hup, hg]
    generalize hr : run (tab hs) (.draw d17_7) _ _ = r
    obtain ⟨ρ', s1, rfl, e1, e2, e3, e4, e5⟩ := hreg _ _ hr (by simp (disch := first | omega | (simp only [rkl]; omega)) only [rk1, rk2, rk3, rk4, rk5, Arg.get, ret1, AV.cells, AV.isCell, addOff, minmaxL, Cap.room, Cap.cut, cutI, isSt, resultOf, Function.comp_apply, Function.comp_def, beq_self_eq_true, if_true, if_false, ite_true, ite_false, reduceCtorEq, bne_self_eq_false, Option.some.injEq, Prod.mk.injEq, ↓reduceIte, Nat.reduceEqDiff, Nat.reduceAdd, Nat.reduceMul, Nat.reduceSub, Nat.reduceLeDiff, Nat.reduceLT, Int.reduceLT, Int.reduceLE, Int.reduceEq, Int.reduceAdd, Int.reduceSub, Int.reduceNeg, Int.reduceToNat, List.mapM_cons, List.mapM_nil, Option.pure_def, Option.bind_eq_bind, eq_self, decide_true, decide_false]) (by simp (disch := first | omega | (simp only [rkl]; omega)) only [rk1, rk2, rk3, rk4, rk5, Arg.get, ret1, AV.cells, AV.isCell, addOff, minmaxL, Cap.room, Cap.cut, cutI, isSt, resultOf, Function.comp_apply, Function.comp_def, beq_self_eq_true, if_true, if_false, ite_true, ite_false, reduceCtorEq, bne_self_eq_false, Option.some.injEq, Prod.mk.injEq, ↓reduceIte, Nat.reduceEqDiff, Nat.reduceAdd, Nat.reduceMul, Nat.reduceSub, Nat.reduceLeDiff, Nat.reduceLT, Int.reduceLT, Int.reduceLE, Int.reduceEq, Int.reduceAdd, Int.reduceSub, Int.reduceNeg, Int.reduceToNat, List.mapM_cons, List.mapM_nil, Option.pure_def, Option.bind_eq_bind, eq_self, decide_true, decide_false]) (by simp (disch := first | omega | (simp only [rkl]; omega)) only [rk1, rk2, rk3, rk4, rk5, Arg.get, ret1, AV.cells, AV.isCell, addOff, minmaxL, Cap.room, Cap.cut, cutI, isSt, resultOf, Function.comp_apply, Function.comp_def, beq_self_eq_true, if_true, if_false, ite_true, ite_false, reduceCtorEq, bne_self_eq_false, Option.some.injEq, Prod.mk.injEq, ↓reduceIte, Nat.reduceEqDiff, Nat.reduceAdd, Nat.reduceMul, Nat.reduceSub, Nat.reduceLeDiff, Nat.reduceLT, Int.reduceLT, Int.reduceLE, Int.reduceEq, Int.reduceAdd, Int.reduceSub, Int.reduceNeg, Int.reduceToNat, List.mapM_cons, List.mapM_nil, Option.pure_def, Option.bind_eq_bind, eq_self, decide_true, decide_false])
    have hhit := hit_raw H e3 hA
    rw [hk] at e4
    have e1' : ρ' 0 = .ptr ⟨o, 0, 0⟩ 0 := by rw [e1]; simp (disch := first | omega | (simp only [rkl]; omega)) only [rk1, rk2, rk3, rk4, rk5, Arg.get, ret1, AV.cells, AV.isCell, addOff, minmaxL, Cap.room, Cap.cut, cutI, isSt, resultOf, Function.comp_apply, Function.comp_def, beq_self_eq_true, if_true, if_false, ite_true, ite_false, reduceCtorEq, bne_self_eq_false, Option.some.injEq, Prod.mk.injEq, ↓reduceIte, Nat.reduceEqDiff, Nat.reduceAdd, Nat.reduceMul, Nat.reduceSub, Nat.reduceLeDiff, Nat.reduceLT, Int.reduceLT, Int.reduceLE, Int.reduceEq, Int.reduceAdd, Int.reduceSub, Int.reduceNeg, Int.reduceToNat, List.mapM_cons, List.mapM_nil, Option.pure_def, Option.bind_eq_bind, eq_self, decide_true, decide_false]
    by_cases h0 : armed = 0
    · subst h0
      simp (disch := first | omega | (simp only [rkl]; omega)) only [rk1, rk2, rk3, rk4, rk5, Arg.get, ret1, AV.cells, AV.isCell, addOff, minmaxL, Cap.room, Cap.cut, cutI, isSt, resultOf, Function.comp_apply, Function.comp_def, beq_self_eq_true, if_true, if_false, ite_true, ite_false, reduceCtorEq, bne_self_eq_false, Option.some.injEq, Prod.mk.injEq, ↓reduceIte, Nat.reduceEqDiff, Nat.reduceAdd, Nat.reduceMul, Nat.reduceSub, Nat.reduceLeDiff, Nat.reduceLT, Int.reduceLT, Int.reduceLE, Int.reduceEq, Int.reduceAdd, Int.reduceSub, Int.reduceNeg, Int.reduceToNat, List.mapM_cons, List.mapM_nil, Option.pure_def, Option.bind_eq_bind, eq_self, decide_true, decide_false, p17_8, p17_9, p17_10, e1', hhit]
      exact ⟨_, rfl, by rw [e3]; rfl, e4, e5⟩
    · have ed : down2 false armed = decide (armed = 1) := by simp [down2, h0]
      have ea : armed2 armed = armed - 1 := by simp [armed2, h0]
      by_cases h1 : armed = 1
      · subst h1
        simp (disch := first | omega | (simp only [rkl]; omega)) only [rk1, rk2, rk3, rk4, rk5, Arg.get, ret1, AV.cells, AV.isCell, addOff, minmaxL, Cap.room, Cap.cut, cutI, isSt, resultOf, Function.comp_apply, Function.comp_def, beq_self_eq_true, if_true, if_false, ite_true, ite_false, reduceCtorEq, bne_self_eq_false, Option.some.injEq, Prod.mk.injEq, ↓reduceIte, Nat.reduceEqDiff, Nat.reduceAdd, Nat.reduceMul, Nat.reduceSub, Nat.reduceLeDiff, Nat.reduceLT, Int.reduceLT, Int.reduceLE, Int.reduceEq, Int.reduceAdd, Int.reduceSub, Int.reduceNeg, Int.reduceToNat, List.mapM_cons, List.mapM_nil, Option.pure_def, Option.bind_eq_bind, eq_self, decide_true, decide_false, p17_8, p17_9, p17_10, e1', hhit]
        exact ⟨_, rfl, by simp (disch := first | omega | (simp only [rkl]; omega)) only [rk1, rk2, rk3, rk4, rk5, Arg.get, ret1, AV.cells, AV.isCell, addOff, minmaxL, Cap.room, Cap.cut, cutI, isSt, resultOf, Function.comp_apply, Function.comp_def, beq_self_eq_true, if_true, if_false, ite_true, ite_false, reduceCtorEq, bne_self_eq_false, Option.some.injEq, Prod.mk.injEq, ↓reduceIte, Nat.reduceEqDiff, Nat.reduceAdd, Nat.reduceMul, Nat.reduceSub, Nat.reduceLeDiff, Nat.reduceLT, Int.reduceLT, Int.reduceLE, Int.reduceEq, Int.reduceAdd, Int.reduceSub, Int.reduceNeg, Int.reduceToNat, List.mapM_cons, List.mapM_nil, Option.pure_def, Option.bind_eq_bind, eq_self, decide_true, decide_false, ed, ea], by simp (disch := first | omega | (simp only [rkl]; omega)) only [rk1, rk2, rk3, rk4, rk5, Arg.get, ret1, AV.cells, AV.isCell, addOff, minmaxL, Cap.room, Cap.cut, cutI, isSt, resultOf, Function.comp_apply, Function.comp_def, beq_self_eq_true, if_true, if_false, ite_true, ite_false, reduceCtorEq, bne_self_eq_false, Option.some.injEq, Prod.mk.injEq, ↓reduceIte, Nat.reduceEqDiff, Nat.reduceAdd, Nat.reduceMul, Nat.reduceSub, Nat.reduceLeDiff, Nat.reduceLT, Int.reduceLT, Int.reduceLE, Int.reduceEq, Int.reduceAdd, Int.reduceSub, Int.reduceNeg, Int.reduceToNat, List.mapM_cons, List.mapM_nil, Option.pure_def, Option.bind_eq_bind, eq_self, decide_true, decide_false, e4], by simp (disch := first | omega | (simp only [rkl]; omega)) only [rk1, rk2, rk3, rk4, rk5, Arg.get, ret1, AV.cells, AV.isCell, addOff, minmaxL, Cap.room, Cap.cut, cutI, isSt, resultOf, Function.comp_apply, Function.comp_def, beq_self_eq_true, if_true, if_false, ite_true, ite_false, reduceCtorEq, bne_self_eq_false, Option.some.injEq, Prod.mk.injEq, ↓reduceIte, Nat.reduceEqDiff, Nat.reduceAdd, Nat.reduceMul, Nat.reduceSub, Nat.reduceLeDiff, Nat.reduceLT, Int.reduceLT, Int.reduceLE, Int.reduceEq, Int.reduceAdd, Int.reduceSub, Int.reduceNeg, Int.reduceToNat, List.mapM_cons, List.mapM_nil, Option.pure_def, Option.bind_eq_bind, eq_self, decide_true, decide_false, e5]⟩
      · simp (disch := first | omega | (simp only [rkl]; omega)) only [rk1, rk2, rk3, rk4, rk5, Arg.get, ret1, AV.cells, AV.isCell, addOff, minmaxL, Cap.room, Cap.cut, cutI, isSt, resultOf, Function.comp_apply, Function.comp_def, beq_self_eq_true, if_true, if_false, ite_true, ite_false, reduceCtorEq, bne_self_eq_false, Option.some.injEq, Prod.mk.injEq, ↓reduceIte, Nat.reduceEqDiff, Nat.reduceAdd, Nat.reduceMul, Nat.reduceSub, Nat.reduceLeDiff, Nat.reduceLT, Int.reduceLT, Int.reduceLE, Int.reduceEq, Int.reduceAdd, Int.reduceSub, Int.reduceNeg, Int.reduceToNat, List.mapM_cons, List.mapM_nil, Option.pure_def, Option.bind_eq_bind, eq_self, decide_true, decide_false, p17_8, p17_9, p17_10, e1', hhit]
        exact ⟨_, rfl, by simp (disch := first | omega | (simp only [rkl]; omega)) only [rk1, rk2, rk3, rk4, rk5, Arg.get, ret1, AV.cells, AV.isCell, addOff, minmaxL, Cap.room, Cap.cut, cutI, isSt, resultOf, Function.comp_apply, Function.comp_def, beq_self_eq_true, if_true, if_false, ite_true, ite_false, reduceCtorEq, bne_self_eq_false, Option.some.injEq, Prod.mk.injEq, ↓reduceIte, Nat.reduceEqDiff, Nat.reduceAdd, Nat.reduceMul, Nat.reduceSub, Nat.reduceLeDiff, Nat.reduceLT, Int.reduceLT, Int.reduceLE, Int.reduceEq, Int.reduceAdd, Int.reduceSub, Int.reduceNeg, Int.reduceToNat, List.mapM_cons, List.mapM_nil, Option.pure_def, Option.bind_eq_bind, eq_self, decide_true, decide_false, ed, ea], by simp (disch := first | omega | (simp only [rkl]; omega)) only [rk1, rk2, rk3, rk4, rk5, Arg.get, ret1, AV.cells, AV.isCell, addOff, minmaxL, Cap.room, Cap.cut, cutI, isSt, resultOf, Function.comp_apply, Function.comp_def, beq_self_eq_true, if_true, if_false, ite_true, ite_false, reduceCtorEq, bne_self_eq_false, Option.some.injEq, Prod.mk.injEq, ↓reduceIte, Nat.reduceEqDiff, Nat.reduceAdd, Nat.reduceMul, Nat.reduceSub, Nat.reduceLeDiff, Nat.reduceLT, Int.reduceLT, Int.reduceLE, Int.reduceEq, Int.reduceAdd, Int.reduceSub, Int.reduceNeg, Int.reduceToNat, List.mapM_cons, List.mapM_nil, Option.pure_def, Option.bind_eq_bind, eq_self, decide_true, decide_false, e4], by simp (disch := first | omega | (simp only [rkl]; omega)) only [rk1, rk2, rk3, rk4, rk5, Arg.get, ret1, AV.cells, AV.isCell, addOff, minmaxL, Cap.room, Cap.cut, cutI, isSt, resultOf, Function.comp_apply, Function.comp_def, beq_self_eq_true, if_true, if_false, ite_true, ite_false, reduceCtorEq, bne_self_eq_false, Option.some.injEq, Prod.mk.injEq, ↓reduceIte, Nat.reduceEqDiff, Nat.reduceAdd, Nat.reduceMul, Nat.reduceSub, Nat.reduceLeDiff, Nat.reduceLT, Int.reduceLT, Int.reduceLE, Int.reduceEq, Int.reduceAdd, Int.reduceSub, Int.reduceNeg, Int.reduceToNat, List.mapM_cons, List.mapM_nil, Option.pure_def, Option.bind_eq_bind, eq_self, decide_true, decide_false, e5]⟩
  obtain ⟨s1, hb1, hc1, hk1, hw1⟩ := hrun
  subst hs0
  have h2 : 0 ≤ armed2 armed ∧ armed2 armed ≤ 9223372036854775807 := by unfold armed2; split <;> omega
  exact disk_turn (H.write ▸ tab17 hs) ho D.few h2 (ins_cons rfl (ins_cons hx (ins_nil _ _))) hb1 hc1 hk1 (.sl hw1) (by simp [refId, idsNodup]; omega) D.len hfull (plain_int _ _) (fun e => absurd e (by simp))
end
/-
  Calls that make an object, alone or beside one that is turned; New of the reference.
-/

section
variable {T : Table} {f : FuncId} {nt np : Nat} {code : C} {res : List RV}

/-- A call that makes an object, and gives its pointer alone. -/
theorem ev_newOne (hf : T f = some ⟨nt, np, code, res, .mut [] (some none)⟩) {args ys : List AV} {σ σ1 : St} {i : Vm.Id} (hi : σ.next ≤ i.o) (hin : args.mapM (argIn σ []) = some ys) {cs : List AV} {rs : List RC}
    (hrun : bodyOf (run T) ⟨nt, np, code, res, .mut [] (some none)⟩ ys (σ.only []) = some (.ptr i 0, σ1))
    (hc : σ1.get i = some cs) (hok : cs.all (okCell σ1 (okObj [])) = true) (hnd : idsNodup (i :: cs.filterMap refId) = true) (hcv : Conv σ1 cs rs) :
    ∃ σ', ev T f args σ = some (.ptr ⟨σ.next, 0, 0⟩ 0, σ') ∧ Vm.Obj σ' σ.next rs ∧ σ'.next = σ.next + 1 ∧ (∀ i, i.o ≠ σ.next → σ'.heap i = σ.heap i) ∧ σ'.ver = σ.ver := by
  have hfo : footOf σ args [] = some [] := rfl
  refine ⟨{ ((σ.lay σ.next (σ.ver σ.next) σ1 cs).bump []) with next := σ.next + 1 }, ?_, lay_obj (σ := σ) (v := σ.ver σ.next) hcv rfl (by simp [St.bump, St.lay, St.putObj]) (by simp), rfl, fun i hi => ?_, ?_⟩
  · simp only [ev, callOf, fnOf, hf, mutOf, hfo, hin, hrun, Option.bind_some, newOf, resAt, objsOf, List.map_nil, List.nil_append, layAll, layObj, hc, hok, if_true, Option.map_some, resOf]
    rw [if_pos ⟨by simpa using hnd, by simp [natsNodup], by simp, by simpa using hi⟩]
    simp [newPtr, St.putAll, St.lay, St.bump]
  · simp [St.bump, St.lay, St.putObj, hi]
  · funext p; simp [St.bump, St.lay, St.putObj]
end

section
variable {hs : FuncId → Hint} (H : RefH hs)
include H

theorem refnew_ev (σ : St) (n : Nat) (h2 : n ≤ 65536) : ∃ σ', ev (tab hs) 25 [.int .i64 n] σ = some (.ptr ⟨σ.next, 0, 0⟩ 0, σ') ∧ RefO σ' σ.next (List.replicate (n * 64) 0) n [] false 0 ∧
    σ'.next = σ.next + 1 ∧ (∀ i, i.o ≠ σ.next → σ'.heap i = σ.heap i) ∧ σ'.ver = σ.ver := by
  have hz : (List.replicate n (List.replicate 64 (AV.int .u8 0))).flatten = bs (List.replicate (n * 64) 0) := by
    rw [List.flatten_replicate_replicate]; simp only [bs, List.map_replicate]; rfl
  have hnc : newCells (σ.only []) (bs (List.replicate (n * 64) 0)) = some (⟨σ.next, 0, 0⟩, (σ.only []).new (bs (List.replicate (n * 64) 0))) := newCells_ok (bs_cell _)
  have hgm : n * 64 ≤ growMax := Nat.le_trans (Nat.mul_le_mul_right 64 h2) (by decide)
  have hnc2 : ∀ (s : St) (i : Vm.Id), newCells s [.sl i 0 n (.ex n) 64, .nilsl, .int .i64 0, .bool false] = some (⟨s.next, 0, 0⟩, s.new [.sl i 0 n (.ex n) 64, .nilsl, .int .i64 0, .bool false]) := fun s i => newCells_ok rfl
  have hfv : ∀ i : Vm.Id, fillV [.nilsl, .nilsl, .int .i64 0, .bool false] [(0, 1, [.sl i 0 n (.ex n) 64])] = some [.sl i 0 n (.ex n) 64, .nilsl, .int .i64 0, .bool false] := fun i => rfl
  obtain ⟨σ', g1, g2, g3, g4, g5⟩ := ev_newOne (T := tab hs) (H.new ▸ tab25 hs) (σ := σ) (i := ⟨σ.next + 1, 0, 0⟩) (args := [.int .i64 n])
    (σ1 := ((σ.only []).new (bs (List.replicate (n * 64) 0))).new [.sl ⟨σ.next, 0, 0⟩ 0 n (.ex n) 64, .nilsl, .int .i64 0, .bool false])
    (cs := [.sl ⟨σ.next, 0, 0⟩ 0 n (.ex n) 64, .nilsl, .int .i64 0, .bool false]) (rs := [.sl (bs (List.replicate (n * 64) 0)) 0 n (.ex n) 64, .v .nilsl, .v (.int .i64 0), .v (.bool false)])
    (by simp) (ins_cons rfl (ins_nil _ _)) (by
      simp (disch := first | omega | (simp only [rkl]; omega)) only [rk1, rk2, rk3, rk4, rk5, Arg.get, ret1, AV.cells, AV.isCell, addOff, minmaxL, Cap.room, Cap.cut, cutI, isSt, resultOf, Function.comp_apply, Function.comp_def, beq_self_eq_true, if_true, if_false, ite_true, ite_false, reduceCtorEq, bne_self_eq_false, Option.some.injEq, Prod.mk.injEq, ↓reduceIte, Nat.reduceEqDiff, Nat.reduceAdd, Nat.reduceMul, Nat.reduceSub, Nat.reduceLeDiff, Nat.reduceLT, Int.reduceLT, Int.reduceLE, Int.reduceEq, Int.reduceAdd, Int.reduceSub, Int.reduceNeg, Int.reduceToNat, List.mapM_cons, List.mapM_nil, Option.pure_def, Option.bind_eq_bind, eq_self, decide_true, decide_false, code25, p25_1, p25_2, hz, hnc, hgm, hnc2, hfv]) (by simp) (by simp [okCell, bs_flt, AV.flt]) (by simp [refId, idsNodup, List.filterMap]) (.sl (by simp) (.v rfl (.v rfl (.v rfl .nil))))
  exact ⟨σ', g1, ⟨⟨_, _, .nil, g2⟩, by simp, fun x hx => by simp at hx, h2, by simp⟩, g3, g4, g5⟩
end
/-
  A call that turns one object and makes another; Fork.
-/

section
variable {T : Table} {f : FuncId} {nt np : Nat} {code : C} {res : List RV}

theorem ev_fork (hf : T f = some ⟨nt, np, code, res, .mut [(0, [])] (some none)⟩) {o : Nat} {xs ys : List AV} {σ σ1 : St} (ho : o < σ.next) (hin : xs.mapM (argIn σ [o]) = some ys) {i : Vm.Id} (hi : σ.next ≤ i.o) {cs cs2 : List AV} {rs rs2 : List RC}
    (hrun : bodyOf (run T) ⟨nt, np, code, res, .mut [(0, [])] (some none)⟩ (.ptr ⟨o, 0, 0⟩ 0 :: ys) (σ.only [o]) = some (.ptr i 0, σ1))
    (hc : σ1.get ⟨o, 0, 0⟩ = some cs) (hok : cs.all (okCell σ1 (okObj [o])) = true) (hc2 : σ1.get i = some cs2) (hok2 : cs2.all (okCell σ1 (okObj [o])) = true)
    (hnd : idsNodup ((⟨o, 0, 0⟩ :: cs.filterMap refId) ++ (i :: cs2.filterMap refId)) = true) (hcv : Conv σ1 cs rs) (hcv2 : Conv σ1 cs2 rs2) :
    ∃ σ', ev T f (.ptr ⟨o, 0, 0⟩ 0 :: xs) σ = some (.ptr ⟨σ.next, 0, 0⟩ 0, σ') ∧ Vm.Obj σ' o rs ∧ Vm.Obj σ' σ.next rs2 ∧ σ'.next = σ.next + 1 ∧ (∀ i, i.o ≠ o → i.o ≠ σ.next → σ'.heap i = σ.heap i) ∧ (∀ p, p ≠ o → σ'.ver p = σ.ver p) := by
  have hfo : footOf σ (.ptr ⟨o, 0, 0⟩ 0 :: xs) [(0, [])] = some [o] := by simp [footOf, walkTo]
  have hin' : (AV.ptr ⟨o, 0, 0⟩ 0 :: xs).mapM (argIn σ [o]) = some (.ptr ⟨o, 0, 0⟩ 0 :: ys) := by
    rw [List.mapM_cons, hin]; simp [argIn]
  have hne : ¬ (σ.next = o) := by omega
  let τ : St := { σ.lay σ.next (σ.ver σ.next) σ1 cs2 with next := σ.next + 1 }
  have hτ : Vm.Obj τ σ.next rs2 := lay_obj (σ := σ) (v := σ.ver σ.next) hcv2 rfl (by simp [τ, St.lay, St.putObj]) (by simp [τ])
  let σ' : St := { (((σ.lay σ.next (σ.ver σ.next) σ1 cs2).lay o (σ.ver o + 1) σ1 cs).bump [o]) with next := σ.next + 1 }
  have hk : Kept τ σ' o := by
    refine ⟨rfl, fun i hi => ?_, fun p hp => ?_⟩
    · simp [τ, σ', St.bump, St.lay, St.putObj, hi]
    · simp [τ, σ', St.bump, St.lay, St.putObj, hp]
  refine ⟨σ', ?_, lay_obj (σ := σ.lay σ.next (σ.ver σ.next) σ1 cs2) (v := σ.ver o + 1) hcv rfl (by simp [σ', St.bump, St.lay, St.putObj]) (by simp [σ']; omega), hk.obj hne hτ, rfl, fun i h1 h2 => ?_, fun p hp => ?_⟩
  · simp only [ev, callOf, fnOf, hf, mutOf, hfo, hin', hrun, Option.bind_some, newOf, resAt, objsOf, List.map_cons, List.map_nil, List.cons_append, List.nil_append, layAll, layObj, hc, hok, hc2, hok2, if_true, Option.map_some, resOf]
    rw [if_pos ⟨by simpa using hnd, by simp [natsNodup], by simp [ho], by simpa using hi⟩]
    simp [newPtr, St.putAll, St.lay, St.bump, hne, σ']
  · simp [σ', St.bump, St.lay, St.putObj, h1, h2]
  · simp [σ', St.bump, St.lay, St.putObj, hp]
end
/-
  DiskPlays: how each function is called there; that a first run is awake is known out of the other way of calling.
-/

def hsP : FuncId → Hint
  | 15 => .mut [] (some (some 0))
  | 16 => .known (just (.bool true))
  | 17 => .mut [(0, [])] none
  | 19 => .mut [(0, [])] none
  | 21 => .mut [(0, [])] none
  | 22 => .mut [(0, [])] none
  | 23 => .raw
  | 25 => .mut [] (some none)
  | 27 => .raw
  | 28 => .mut [(0, [])] none
  | 29 => .mut [(0, [])] none
  | 30 => .raw
  | 31 => .mut [(0, [])] none
  | 32 => .raw
  | 33 => .mut [(0, [])] none
  | 34 => .mut [(0, [])] (some none)
  | 35 => .raw
  | 36 => .mut [(0, [])] none
  | 37 => .raw
  | 69 => .raw
  | 70 => .raw
  | 71 => .raw
  | 73 => .raw
  | 74 => .raw
  | _ => .pure
theorem diskP : DiskH hsP := ⟨rfl, rfl, rfl, rfl, rfl, rfl, rfl, rfl, rfl, rfl, rfl, rfl, rfl, rfl, rfl⟩
theorem refP : RefH hsP := ⟨rfl, rfl, rfl, rfl, rfl, rfl, rfl, rfl⟩

theorem hsD_plain : ∀ f g, hsD f = .known g → Known Try.prog f g := by
  intro f g h
  unfold hsD at h
  split at h <;> cases h

theorem awake_known : Known Try.prog 16 (just (.bool true)) := by
  refine known_ev (tab_sound hsD hsD_plain) fun args r h σ => ?_
  match args, h with
  | [], h =>
    simp only [just, Option.some.injEq] at h
    subst h
    exact awake_ev σ

theorem hsP_known : ∀ f g, hsP f = .known g → Known Try.prog f g := by
  intro f g h
  unfold hsP at h
  split at h <;> first | (cases h; done) | (cases h; exact awake_known)

theorem sound_P : SoundE Try.prog (ev (tab hsP)) := tab_sound hsP hsP_known
/-
  DiskPlays: the copies that Fork makes.
-/

theorem append_ex0 {σ : St} {sz bytes n : Nat} {i : Vm.Id} {xs : List AV} (hg : σ.get i = some []) (h0 : 0 < n) (hb : n * bytes ≤ lenMax) (hc : xs.all AV.isCell = true) :
    appendTo σ sz bytes n xs (.sl i 0 0 (.ex 0) sz) = some (.sl ⟨σ.next, 0, 0⟩ 0 n (.ge n) sz, σ.new xs) := by
  have hb' : (0 + n) * bytes ≤ lenMax := by rw [Nat.zero_add]; exact hb
  simp only [appendTo, hg, Cap.room]
  rw [if_neg (by simp), if_neg (by omega), if_pos ⟨by simp, hb'⟩]
  simp only [Nat.zero_mul, List.take_zero, List.nil_append, newCells_ok hc, Option.map_some, Nat.zero_add]

section
variable {hs : FuncId → Hint}

theorem clone73 (h73 : hs 73 = .raw) {s : St} {i : Vm.Id} {K : List UInt8} {n : Nat} {kcap : Cap} (hg : s.get i = some (bs K)) (hi : i.o < s.next) (hK : K.length = n * 64) (h1 : 1 ≤ n) (hn : n ≤ 65536) :
    ev (tab hs) 73 [.sl i 0 n kcap 64] s = some (.sl ⟨s.next + 1, 0, 0⟩ 0 n (.ge n) 64, (s.new []).new (bs K)) := by
  rw [ev_raw (h73 ▸ tab73 hs)]
  have hz : ∀ s : St, newCells s [] = some (⟨s.next, 0, 0⟩, s.new []) := fun s => newCells_ok rfl
  have hf : fillV [] [] = some [] := rfl
  have hne : i ≠ ⟨s.next, 0, 0⟩ := fun e => by subst e; simp at hi
  have hg2 : (s.new []).get i = some (bs K) := by rw [get_new, if_neg hne]; exact hg
  have hel : elems (s.new []) 64 n (.sl i 0 n kcap 64) = some (bs K) := by
    simp only [elems, hg2, Option.bind_some, Nat.zero_add, List.drop_zero]
    rw [if_pos (by simp; omega), List.take_of_length_le (by simp; omega)]
  have hge : (s.new []).get ⟨s.next, 0, 0⟩ = some [] := by rw [get_new, if_pos rfl]
  have hap := append_ex0 (σ := s.new []) (sz := 64) (bytes := 64) (n := n) (i := ⟨s.next, 0, 0⟩) (xs := bs K) hge (by omega) (by have : lenMax = 2 ^ 46 := rfl; omega) (bs_cell _)
  simp (disch := first | omega | (simp only [rkl]; omega)) only [rk1, rk2, rk3, rk4, rk5, Arg.get, ret1, AV.cells, AV.isCell, addOff, minmaxL, Cap.room, Cap.cut, cutI, isSt, resultOf, Function.comp_apply, Function.comp_def, beq_self_eq_true, if_true, if_false, ite_true, ite_false, reduceCtorEq, bne_self_eq_false, Option.some.injEq, Prod.mk.injEq, ↓reduceIte, Nat.reduceEqDiff, Nat.reduceAdd, Nat.reduceMul, Nat.reduceSub, Nat.reduceLeDiff, Nat.reduceLT, Int.reduceLT, Int.reduceLE, Int.reduceEq, Int.reduceAdd, Int.reduceSub, Int.reduceNeg, Int.reduceToNat, List.mapM_cons, List.mapM_nil, Option.pure_def, Option.bind_eq_bind, eq_self, decide_true, decide_false, code73, p73_1, p73_2, p73_4, hz, hf, hel, hap]

theorem clone74_nil (h74 : hs 74 = .raw) {s : St} : ev (tab hs) 74 [.nilsl] s = some (.nilsl, s) := by
  rw [ev_raw (h74 ▸ tab74 hs)]
  simp (disch := first | omega | (simp only [rkl]; omega)) only [rk1, rk2, rk3, rk4, rk5, Arg.get, ret1, AV.cells, AV.isCell, addOff, minmaxL, Cap.room, Cap.cut, cutI, isSt, resultOf, Function.comp_apply, Function.comp_def, beq_self_eq_true, if_true, if_false, ite_true, ite_false, reduceCtorEq, bne_self_eq_false, Option.some.injEq, Prod.mk.injEq, ↓reduceIte, Nat.reduceEqDiff, Nat.reduceAdd, Nat.reduceMul, Nat.reduceSub, Nat.reduceLeDiff, Nat.reduceLT, Int.reduceLT, Int.reduceLE, Int.reduceEq, Int.reduceAdd, Int.reduceSub, Int.reduceNeg, Int.reduceToNat, List.mapM_cons, List.mapM_nil, Option.pure_def, Option.bind_eq_bind, eq_self, decide_true, decide_false, code74, p74_1, p74_2, p74_3]

theorem clone74 (h74 : hs 74 = .raw) {s : St} {i : Vm.Id} {w : W} {n : Nat} {cap : Cap} (hg : s.get i = some (wc w)) (hi : i.o < s.next) (hf : Full n w) (h1 : w ≠ []) (hwl : w.length < 2 ^ 36) :
    ev (tab hs) 74 [.sl i 0 w.length cap 65] s = some (.sl ⟨s.next + 1, 0, 0⟩ 0 w.length (.ge w.length) 65, (s.new []).new (wc w)) := by
  rw [ev_raw (h74 ▸ tab74 hs)]
  have hz : ∀ s : St, newCells s [] = some (⟨s.next, 0, 0⟩, s.new []) := fun s => newCells_ok rfl
  have hf0 : fillV [] [] = some [] := rfl
  have hlen := wc_len hf
  have hpos : 0 < w.length := List.length_pos_iff.2 h1
  have hne : i ≠ ⟨s.next, 0, 0⟩ := fun e => by subst e; simp at hi
  have hg2 : (s.new []).get i = some (wc w) := by rw [get_new, if_neg hne]; exact hg
  have hel : elems (s.new []) 65 w.length (.sl i 0 w.length cap 65) = some (wc w) := by
    simp only [elems, hg2, Option.bind_some, Nat.zero_add, List.drop_zero]
    rw [if_pos (by omega), List.take_of_length_le (by omega)]
  have hge : (s.new []).get ⟨s.next, 0, 0⟩ = some [] := by rw [get_new, if_pos rfl]
  have hap := append_ex0 (σ := s.new []) (sz := 65) (bytes := 72) (n := w.length) (i := ⟨s.next, 0, 0⟩) (xs := wc w) hge hpos (by have : lenMax = 2 ^ 46 := rfl; omega) (wc_cell w)
  simp (disch := first | omega | (simp only [rkl]; omega)) only [rk1, rk2, rk3, rk4, rk5, Arg.get, ret1, AV.cells, AV.isCell, addOff, minmaxL, Cap.room, Cap.cut, cutI, isSt, resultOf, Function.comp_apply, Function.comp_def, beq_self_eq_true, if_true, if_false, ite_true, ite_false, reduceCtorEq, bne_self_eq_false, Option.some.injEq, Prod.mk.injEq, ↓reduceIte, Nat.reduceEqDiff, Nat.reduceAdd, Nat.reduceMul, Nat.reduceSub, Nat.reduceLeDiff, Nat.reduceLT, Int.reduceLT, Int.reduceLE, Int.reduceEq, Int.reduceAdd, Int.reduceSub, Int.reduceNeg, Int.reduceToNat, List.mapM_cons, List.mapM_nil, Option.pure_def, Option.bind_eq_bind, eq_self, decide_true, decide_false, code74, p74_1, p74_2, p74_4, hz, hf0, hel, hap]
end
/-
  DiskPlays: Fork.
-/

theorem okd_d34_5 : drawOk (tab hsP) d34_5 = true := rfl
theorem str_d34_5 : strays (tab hsP) d34_5 = [(8, 0), (8, 1), (8, 2), (8, 3), (8, 4)] := rfl

section
variable {o : Nat} {K : List UInt8} {n : Nat} {w : W} {down : Bool} {armed : Int}

theorem fork_region {v : Nat} {kcap : Cap} {wcell : AV} {s0 : St} {i : Vm.Id} (hf : Full n w) (hwl : w.length < 2 ^ 36) (hK : K.length = n * 64) (h1 : 1 ≤ n) (hn : n ≤ 65536) (hform : w = [] → wcell = .nilsl)
    (ho : o < s0.next) (hio : i.o ≠ o) (hin : i.o < s0.next) (hg : s0.get ⟨o, 0, 0⟩ = some [.sl ⟨o, 1, v⟩ 0 n kcap 64, wcell, .bool down, .int .i64 armed]) (hk : s0.get ⟨o, 1, v⟩ = some (bs K))
    (hw : (wcell = .nilsl ∧ w = []) ∨ (wcell = .sl ⟨o, 2, v⟩ 0 w.length (.ge w.length) 65 ∧ s0.get ⟨o, 2, v⟩ = some (wc w)))
    (hi : s0.get i = some [.sl ⟨o, 1, v⟩ 0 n kcap 64, wcell, .bool down, .int .i64 armed])
    {ρ : Env} {r} (hr : run (tab hsP) (.draw d34_5) ρ s0 = r) (r0 : ρ 0 = .ptr ⟨o, 0, 0⟩ 0) (r3 : ρ 3 = .ptr i 0) :
    ∃ ρ' s1 wcell', r = some (.normal, ρ', s1) ∧ ρ' 3 = ρ 3 ∧ s0.next ≤ s1.next ∧ s1.get ⟨o, 0, 0⟩ = s0.get ⟨o, 0, 0⟩ ∧ s1.get ⟨o, 1, v⟩ = some (bs K) ∧ s1.get ⟨o, 2, v⟩ = s0.get ⟨o, 2, v⟩ ∧
      s1.get i = some [.sl ⟨s0.next + 1, 0, 0⟩ 0 n (.ge n) 64, wcell', .bool down, .int .i64 armed] ∧ s1.get ⟨s0.next + 1, 0, 0⟩ = some (bs K) ∧
      ((wcell' = .nilsl ∧ w = []) ∨ (wcell' = .sl ⟨s0.next + 3, 0, 0⟩ 0 w.length (.ge w.length) 65 ∧ w ≠ [] ∧ s1.get ⟨s0.next + 3, 0, 0⟩ = some (wc w))) := by
  subst hr
  have e73 := clone73 (hs := hsP) (s := s0) (kcap := kcap) rfl hk ho hK h1 hn
  have n1 : ((s0.new []).new (bs K)).next = s0.next + 2 := rfl
  have gt : ∀ j : Vm.Id, j.o < s0.next → ((s0.new []).new (bs K)).get j = s0.get j := by
    intro j hj
    have a1 : ¬ (j = ⟨s0.next, 0, 0⟩) := fun e => by subst e; simp at hj
    have a2 : ¬ (j = ⟨s0.next + 1, 0, 0⟩) := fun e => by subst e; simp at hj; omega
    rw [get_new, if_neg (by simpa using a2), get_new, if_neg a1]
  have gn : ((s0.new []).new (bs K)).get ⟨s0.next + 1, 0, 0⟩ = some (bs K) := by rw [get_new]; simp
  generalize hs1 : (s0.new []).new (bs K) = s1 at e73 n1 gt gn
  have go := gt ⟨o, 0, 0⟩ ho
  rw [hg] at go
  have alike : ∀ q, q ∈ strays (tab hsP) d34_5 → Vm.Alike (ev (tab hsP)) d34_5 ρ s0 q := by
    rw [str_d34_5]
    intro q hq op ρi σi σk ρk x h1 h2 h3 h4
    simp only [List.mem_cons, List.not_mem_nil, or_false] at hq
    rcases hq with rfl | rfl | rfl | rfl | rfl <;>
    · simp only [d34_5, List.getElem?_cons_succ, List.getElem?_cons_zero, Option.some.injEq] at h1
      subst h1
      simp only [d34_5, List.take_succ_cons, List.take_zero, List.map_cons, List.map_nil] at h2 h3
      simp (disch := first | omega | (simp only [rkl]; omega)) only [rk1, rk2, rk3, rk4, rk5, Arg.get, ret1, AV.cells, AV.isCell, addOff, minmaxL, Cap.room, Cap.cut, cutI, isSt, resultOf, Function.comp_apply, Function.comp_def, beq_self_eq_true, if_true, if_false, ite_true, ite_false, reduceCtorEq, bne_self_eq_false, Option.some.injEq, Prod.mk.injEq, ↓reduceIte, Nat.reduceEqDiff, Nat.reduceAdd, Nat.reduceMul, Nat.reduceSub, Nat.reduceLeDiff, Nat.reduceLT, Int.reduceLT, Int.reduceLE, Int.reduceEq, Int.reduceAdd, Int.reduceSub, Int.reduceNeg, Int.reduceToNat, List.mapM_cons, List.mapM_nil, Option.pure_def, Option.bind_eq_bind, eq_self, decide_true, decide_false, r0, r3, hg, e73] at h2 h3
      obtain ⟨rfl, rfl⟩ := h2
      obtain ⟨_, rfl⟩ := h3
      simp (disch := first | omega | (simp only [rkl]; omega)) only [rk1, rk2, rk3, rk4, rk5, Arg.get, ret1, AV.cells, AV.isCell, addOff, minmaxL, Cap.room, Cap.cut, cutI, isSt, resultOf, Function.comp_apply, Function.comp_def, beq_self_eq_true, if_true, if_false, ite_true, ite_false, reduceCtorEq, bne_self_eq_false, Option.some.injEq, Prod.mk.injEq, ↓reduceIte, Nat.reduceEqDiff, Nat.reduceAdd, Nat.reduceMul, Nat.reduceSub, Nat.reduceLeDiff, Nat.reduceLT, Int.reduceLT, Int.reduceLE, Int.reduceEq, Int.reduceAdd, Int.reduceSub, Int.reduceNeg, Int.reduceToNat, List.mapM_cons, List.mapM_nil, Option.pure_def, Option.bind_eq_bind, eq_self, decide_true, decide_false, r0, go] at h4
      simp (disch := first | omega | (simp only [rkl]; omega)) only [rk1, rk2, rk3, rk4, rk5, Arg.get, ret1, AV.cells, AV.isCell, addOff, minmaxL, Cap.room, Cap.cut, cutI, isSt, resultOf, Function.comp_apply, Function.comp_def, beq_self_eq_true, if_true, if_false, ite_true, ite_false, reduceCtorEq, bne_self_eq_false, Option.some.injEq, Prod.mk.injEq, ↓reduceIte, Nat.reduceEqDiff, Nat.reduceAdd, Nat.reduceMul, Nat.reduceSub, Nat.reduceLeDiff, Nat.reduceLT, Int.reduceLT, Int.reduceLE, Int.reduceEq, Int.reduceAdd, Int.reduceSub, Int.reduceNeg, Int.reduceToNat, List.mapM_cons, List.mapM_nil, Option.pure_def, Option.bind_eq_bind, eq_self, decide_true, decide_false, r0, hg]
      exact h4
  have gi := gt i hin
  rw [hi] at gi
  have hoi : ¬ ((⟨o, 0, 0⟩ : Vm.Id) = i) := fun e => hio (by rw [← e])
  have ni : ∀ k, ¬ ((⟨s0.next + k, 0, 0⟩ : Vm.Id) = i) := fun k e => by subst e; simp at hin; omega
  have hok : ∀ k v, ¬ ((⟨o, k, v⟩ : Vm.Id) = i) := fun k v e => hio (by rw [← e])
  have hrun : ∃ r, opsEv (ev (tab hsP)) (d34_5.map DOp.op) ρ s0 = some r ∧ ∃ wcell', r.1 3 = ρ 3 ∧ s0.next ≤ r.2.next ∧ r.2.get ⟨o, 0, 0⟩ = s0.get ⟨o, 0, 0⟩ ∧ r.2.get ⟨o, 1, v⟩ = some (bs K) ∧ r.2.get ⟨o, 2, v⟩ = s0.get ⟨o, 2, v⟩ ∧
      r.2.get i = some [.sl ⟨s0.next + 1, 0, 0⟩ 0 n (.ge n) 64, wcell', .bool down, .int .i64 armed] ∧ r.2.get ⟨s0.next + 1, 0, 0⟩ = some (bs K) ∧
      ((wcell' = .nilsl ∧ w = []) ∨ (wcell' = .sl ⟨s0.next + 3, 0, 0⟩ 0 w.length (.ge w.length) 65 ∧ w ≠ [] ∧ r.2.get ⟨s0.next + 3, 0, 0⟩ = some (wc w))) := by
    have gk := gt ⟨o, 1, v⟩ ho
    have g2 := gt ⟨o, 2, v⟩ ho
    rw [hk] at gk
    rcases hw with ⟨rfl, rfl⟩ | ⟨rfl, hw⟩
    · have e74 := clone74_nil (hs := hsP) rfl (s := s1)
      simp (disch := first | omega | (simp only [rkl]; omega)) only [rk1, rk2, rk3, rk4, rk5, Arg.get, ret1, AV.cells, AV.isCell, addOff, minmaxL, Cap.room, Cap.cut, cutI, isSt, resultOf, Function.comp_apply, Function.comp_def, beq_self_eq_true, if_true, if_false, ite_true, ite_false, reduceCtorEq, bne_self_eq_false, Option.some.injEq, Prod.mk.injEq, ↓reduceIte, Nat.reduceEqDiff, Nat.reduceAdd, Nat.reduceMul, Nat.reduceSub, Nat.reduceLeDiff, Nat.reduceLT, Int.reduceLT, Int.reduceLE, Int.reduceEq, Int.reduceAdd, Int.reduceSub, Int.reduceNeg, Int.reduceToNat, List.mapM_cons, List.mapM_nil, Option.pure_def, Option.bind_eq_bind, eq_self, decide_true, decide_false, d34_5, r0, r3, hg, e73, go, e74, gi]
      refine ⟨_, rfl, .nilsl, by simp (disch := first | omega | (simp only [rkl]; omega)) only [rk1, rk2, rk3, rk4, rk5, Arg.get, ret1, AV.cells, AV.isCell, addOff, minmaxL, Cap.room, Cap.cut, cutI, isSt, resultOf, Function.comp_apply, Function.comp_def, beq_self_eq_true, if_true, if_false, ite_true, ite_false, reduceCtorEq, bne_self_eq_false, Option.some.injEq, Prod.mk.injEq, ↓reduceIte, Nat.reduceEqDiff, Nat.reduceAdd, Nat.reduceMul, Nat.reduceSub, Nat.reduceLeDiff, Nat.reduceLT, Int.reduceLT, Int.reduceLE, Int.reduceEq, Int.reduceAdd, Int.reduceSub, Int.reduceNeg, Int.reduceToNat, List.mapM_cons, List.mapM_nil, Option.pure_def, Option.bind_eq_bind, eq_self, decide_true, decide_false, r3], by simp (disch := first | omega | (simp only [rkl]; omega)) only [rk1, rk2, rk3, rk4, rk5, Arg.get, ret1, AV.cells, AV.isCell, addOff, minmaxL, Cap.room, Cap.cut, cutI, isSt, resultOf, Function.comp_apply, Function.comp_def, beq_self_eq_true, if_true, if_false, ite_true, ite_false, reduceCtorEq, bne_self_eq_false, Option.some.injEq, Prod.mk.injEq, ↓reduceIte, Nat.reduceEqDiff, Nat.reduceAdd, Nat.reduceMul, Nat.reduceSub, Nat.reduceLeDiff, Nat.reduceLT, Int.reduceLT, Int.reduceLE, Int.reduceEq, Int.reduceAdd, Int.reduceSub, Int.reduceNeg, Int.reduceToNat, List.mapM_cons, List.mapM_nil, Option.pure_def, Option.bind_eq_bind, eq_self, decide_true, decide_false, n1]; omega, ?_, ?_, ?_, ?_, ?_, ?_⟩
      · simp only [get_set, hok, if_false]; rw [go]
      · simp only [get_set, hok, if_false]; exact gk
      · simp only [get_set, hok, if_false]; exact g2
      · simp only [get_set, if_true]
      · simp only [get_set, ni, if_false]; exact gn
      · first | exact .inl ⟨rfl, rfl⟩ | rfl | simp
    · rw [hw] at g2
      have hne : w ≠ [] := fun e => by have := hform e; simp at this
      have e74 := clone74 (hs := hsP) rfl (s := s1) (cap := .ge w.length) g2 (by rw [n1]; show o < _; omega) hf hne hwl
      have gt2 : ∀ j : Vm.Id, j.o < s1.next → ((s1.new []).new (wc w)).get j = s1.get j := by
        intro j hj
        have a1 : ¬ (j = ⟨s1.next, 0, 0⟩) := fun e => by subst e; simp at hj
        have a2 : ¬ (j = ⟨s1.next + 1, 0, 0⟩) := fun e => by subst e; simp at hj; omega
        rw [get_new, if_neg (by simpa using a2), get_new, if_neg a1]
      have gn2 : ((s1.new []).new (wc w)).get ⟨s1.next + 1, 0, 0⟩ = some (wc w) := by rw [get_new]; simp
      have n2 : ((s1.new []).new (wc w)).next = s1.next + 2 := rfl
      generalize hs2 : (s1.new []).new (wc w) = s2 at e74 gt2 gn2 n2
      have gi2 := gt2 i (by omega)
      rw [gi] at gi2
      have go2 := gt2 ⟨o, 0, 0⟩ (by show o < _; omega)
      have gk2 := gt2 ⟨o, 1, v⟩ (by show o < _; omega)
      have gw2 := gt2 ⟨o, 2, v⟩ (by show o < _; omega)
      have gb2 := gt2 ⟨s0.next + 1, 0, 0⟩ (by show s0.next + 1 < _; omega)
      rw [n1] at e74 gn2
      simp (disch := first | omega | (simp only [rkl]; omega)) only [rk1, rk2, rk3, rk4, rk5, Arg.get, ret1, AV.cells, AV.isCell, addOff, minmaxL, Cap.room, Cap.cut, cutI, isSt, resultOf, Function.comp_apply, Function.comp_def, beq_self_eq_true, if_true, if_false, ite_true, ite_false, reduceCtorEq, bne_self_eq_false, Option.some.injEq, Prod.mk.injEq, ↓reduceIte, Nat.reduceEqDiff, Nat.reduceAdd, Nat.reduceMul, Nat.reduceSub, Nat.reduceLeDiff, Nat.reduceLT, Int.reduceLT, Int.reduceLE, Int.reduceEq, Int.reduceAdd, Int.reduceSub, Int.reduceNeg, Int.reduceToNat, List.mapM_cons, List.mapM_nil, Option.pure_def, Option.bind_eq_bind, eq_self, decide_true, decide_false, d34_5, r0, r3, hg, e73, go, e74, gi2]
      refine ⟨_, rfl, .sl ⟨s0.next + 3, 0, 0⟩ 0 w.length (.ge w.length) 65, by simp (disch := first | omega | (simp only [rkl]; omega)) only [rk1, rk2, rk3, rk4, rk5, Arg.get, ret1, AV.cells, AV.isCell, addOff, minmaxL, Cap.room, Cap.cut, cutI, isSt, resultOf, Function.comp_apply, Function.comp_def, beq_self_eq_true, if_true, if_false, ite_true, ite_false, reduceCtorEq, bne_self_eq_false, Option.some.injEq, Prod.mk.injEq, ↓reduceIte, Nat.reduceEqDiff, Nat.reduceAdd, Nat.reduceMul, Nat.reduceSub, Nat.reduceLeDiff, Nat.reduceLT, Int.reduceLT, Int.reduceLE, Int.reduceEq, Int.reduceAdd, Int.reduceSub, Int.reduceNeg, Int.reduceToNat, List.mapM_cons, List.mapM_nil, Option.pure_def, Option.bind_eq_bind, eq_self, decide_true, decide_false, r3], by simp (disch := first | omega | (simp only [rkl]; omega)) only [rk1, rk2, rk3, rk4, rk5, Arg.get, ret1, AV.cells, AV.isCell, addOff, minmaxL, Cap.room, Cap.cut, cutI, isSt, resultOf, Function.comp_apply, Function.comp_def, beq_self_eq_true, if_true, if_false, ite_true, ite_false, reduceCtorEq, bne_self_eq_false, Option.some.injEq, Prod.mk.injEq, ↓reduceIte, Nat.reduceEqDiff, Nat.reduceAdd, Nat.reduceMul, Nat.reduceSub, Nat.reduceLeDiff, Nat.reduceLT, Int.reduceLT, Int.reduceLE, Int.reduceEq, Int.reduceAdd, Int.reduceSub, Int.reduceNeg, Int.reduceToNat, List.mapM_cons, List.mapM_nil, Option.pure_def, Option.bind_eq_bind, eq_self, decide_true, decide_false, n2, n1]; omega, ?_, ?_, ?_, ?_, ?_, ?_⟩
      · simp only [get_set, hok, if_false]; rw [go2, go]
      · simp only [get_set, hok, if_false]; rw [gk2, gk]
      · simp only [get_set, hok, if_false]; rw [gw2, g2, hw]
      · simp only [get_set, if_true]
      · simp only [get_set, ni, if_false]; rw [gb2]; exact gn
      · first | exact .inr ⟨rfl, hne, by simp only [get_set, ni, if_false]; exact gn2⟩ | exact .inr ⟨rfl, by simp only [get_set, ni, if_false]; exact gn2⟩ | exact ⟨rfl, by simp only [get_set, ni, if_false]; exact gn2⟩
  obtain ⟨r, e1, wcell', e2, e3, e4, e5, e6, e7, e8, e9⟩ := hrun
  exact ⟨r.1, r.2, wcell', go_but okd_d34_5 alike e1, e2, e3, e4, e5, e6, e7, e8, e9⟩
end
/-
  DiskPlays: Fork, whole.
-/

theorem fork_ev {σ : St} {o : Nat} {K : List UInt8} {n : Nat} {w : W} {down : Bool} {armed : Int} (D : DiskO σ o K n w down armed) (h1 : 1 ≤ n) (hwl : w.length < 2 ^ 36) :
    ∃ σ', ev (tab hsP) 34 [.ptr ⟨o, 0, 0⟩ 0] σ = some (.ptr ⟨σ.next, 0, 0⟩ 0, σ') ∧ DiskO σ' o K n w down armed ∧ DiskO σ' σ.next K n w down armed ∧ σ'.next = σ.next + 1 ∧ (∀ i, i.o ≠ o → i.o ≠ σ.next → σ'.heap i = σ.heap i) ∧ (∀ p, p ≠ o → σ'.ver p = σ.ver p) := by
  obtain ⟨v, kcap, wcell, ho, hg, hk, hw⟩ := D.start
  have hform := D.form hg
  have hz : ∀ s : St, newCells s [.nilsl, .nilsl, .bool false, .int .i64 0] = some (⟨s.next, 0, 0⟩, s.new [.nilsl, .nilsl, .bool false, .int .i64 0]) := fun s => newCells_ok rfl
  have hst : ∀ s : St, storeAt (s.new [.nilsl, .nilsl, .bool false, .int .i64 0]) 4 (.ptr ⟨s.next, 0, 0⟩ 0) (.agg [.sl ⟨o, 1, v⟩ 0 n kcap 64, wcell, .bool down, .int .i64 armed]) = some (s.new [.sl ⟨o, 1, v⟩ 0 n kcap 64, wcell, .bool down, .int .i64 armed]) :=
    fun s => new_store rfl rfl (by rcases hw with ⟨h, _⟩ | ⟨h, _⟩ <;> (rw [h]; rfl))
  have hne : ¬ (o = σ.next) := by omega
  have hs0 : ∃ s0, (σ.only [o]).new [.sl ⟨o, 1, v⟩ 0 n kcap 64, wcell, .bool down, .int .i64 armed] = s0 ∧ s0.next = σ.next + 1 ∧ s0.get ⟨σ.next, 0, 0⟩ = some [.sl ⟨o, 1, v⟩ 0 n kcap 64, wcell, .bool down, .int .i64 armed] ∧
      s0.get ⟨o, 0, 0⟩ = some [.sl ⟨o, 1, v⟩ 0 n kcap 64, wcell, .bool down, .int .i64 armed] ∧ s0.get ⟨o, 1, v⟩ = some (bs K) ∧
      ((wcell = .nilsl ∧ w = []) ∨ (wcell = .sl ⟨o, 2, v⟩ 0 w.length (.ge w.length) 65 ∧ s0.get ⟨o, 2, v⟩ = some (wc w))) := by
    refine ⟨_, rfl, rfl, by rw [get_new]; simp, ?_, ?_, ?_⟩
    · rw [get_new, if_neg (by simp [hne])]; exact hg
    · rw [get_new, if_neg (by simp)]; exact hk
    · rcases hw with h | ⟨h, hw⟩
      · exact .inl h
      · exact .inr ⟨h, by rw [get_new, if_neg (by simp)]; exact hw⟩
  obtain ⟨s0, hs0, n0, gi0, g0, k0, w0⟩ := hs0
  have hst' : storeAt ((σ.only [o]).new [.nilsl, .nilsl, .bool false, .int .i64 0]) 4 (.ptr ⟨σ.next, 0, 0⟩ 0) (.agg [.sl ⟨o, 1, v⟩ 0 n kcap 64, wcell, .bool down, .int .i64 armed]) = some s0 := by
    have := hst (σ.only [o])
    rw [hs0] at this
    exact this
  have hreg := fun (ρ : Env) r (hr : run (tab hsP) (.draw d34_5) ρ s0 = r) q0 q3 => fork_region (down := down) (armed := armed) (i := ⟨σ.next, 0, 0⟩) D.full hwl D.len h1 D.few hform (by omega) (by show σ.next ≠ o; omega) (by show σ.next < _; omega) g0 k0 w0 gi0 hr q0 q3
  have hrun : ∃ s1 wcell', bodyOf (run (tab hsP)) ⟨21, 1, code34, [.tmp 2], .mut [(0, [])] (some none)⟩ [.ptr ⟨o, 0, 0⟩ 0] (σ.only [o]) = some (.ptr ⟨σ.next, 0, 0⟩ 0, s1) ∧
      s1.get ⟨o, 0, 0⟩ = s0.get ⟨o, 0, 0⟩ ∧ s1.get ⟨o, 1, v⟩ = some (bs K) ∧ s1.get ⟨o, 2, v⟩ = s0.get ⟨o, 2, v⟩ ∧
      s1.get ⟨σ.next, 0, 0⟩ = some [.sl ⟨s0.next + 1, 0, 0⟩ 0 n (.ge n) 64, wcell', .bool down, .int .i64 armed] ∧ s1.get ⟨s0.next + 1, 0, 0⟩ = some (bs K) ∧
      ((wcell' = .nilsl ∧ w = []) ∨ (wcell' = .sl ⟨s0.next + 3, 0, 0⟩ 0 w.length (.ge w.length) 65 ∧ w ≠ [] ∧ s1.get ⟨s0.next + 3, 0, 0⟩ = some (wc w))) := by
    simp (disch := first | omega | (simp only [rkl]; omega)) only [rk1, rk2, rk3, rk4, rk5, Arg.get, ret1, AV.cells, AV.isCell, addOff, minmaxL, Cap.room, Cap.cut, cutI, isSt, resultOf, Function.comp_apply, Function.comp_def, beq_self_eq_true, if_true, if_false, ite_true, ite_false, reduceCtorEq, bne_self_eq_false, Option.some.injEq, Prod.mk.injEq, ↓reduceIte, Nat.reduceEqDiff, Nat.reduceAdd, Nat.reduceMul, Nat.reduceSub, Nat.reduceLeDiff, Nat.reduceLT, Int.reduceLT, Int.reduceLE, Int.reduceEq, Int.reduceAdd, Int.reduceSub, Int.reduceNeg, Int.reduceToNat, List.mapM_cons, List.mapM_nil, Option.pure_def, Option.bind_eq_bind, eq_self, decide_true, decide_false, code34, p34_1, p34_2, p34_4, hg, hz, hst']
    generalize hr : run (tab hsP) (.draw d34_5) _ _ = r
    obtain ⟨ρ', s1, wcell', rfl, q3, _, f0, f1, f2, f3, f4, f5⟩ := hreg _ _ hr (by simp (disch := first | omega | (simp only [rkl]; omega)) only [rk1, rk2, rk3, rk4, rk5, Arg.get, ret1, AV.cells, AV.isCell, addOff, minmaxL, Cap.room, Cap.cut, cutI, isSt, resultOf, Function.comp_apply, Function.comp_def, beq_self_eq_true, if_true, if_false, ite_true, ite_false, reduceCtorEq, bne_self_eq_false, Option.some.injEq, Prod.mk.injEq, ↓reduceIte, Nat.reduceEqDiff, Nat.reduceAdd, Nat.reduceMul, Nat.reduceSub, Nat.reduceLeDiff, Nat.reduceLT, Int.reduceLT, Int.reduceLE, Int.reduceEq, Int.reduceAdd, Int.reduceSub, Int.reduceNeg, Int.reduceToNat, List.mapM_cons, List.mapM_nil, Option.pure_def, Option.bind_eq_bind, eq_self, decide_true, decide_false]) (by simp (disch := first | omega | (simp only [rkl]; omega)) only [rk1, rk2, rk3, rk4, rk5, Arg.get, ret1, AV.cells, AV.isCell, addOff, minmaxL, Cap.room, Cap.cut, cutI, isSt, resultOf, Function.comp_apply, Function.comp_def, beq_self_eq_true, if_true, if_false, ite_true, ite_false, reduceCtorEq, bne_self_eq_false, Option.some.injEq, Prod.mk.injEq, ↓reduceIte, Nat.reduceEqDiff, Nat.reduceAdd, Nat.reduceMul, Nat.reduceSub, Nat.reduceLeDiff, Nat.reduceLT, Int.reduceLT, Int.reduceLE, Int.reduceEq, Int.reduceAdd, Int.reduceSub, Int.reduceNeg, Int.reduceToNat, List.mapM_cons, List.mapM_nil, Option.pure_def, Option.bind_eq_bind, eq_self, decide_true, decide_false])
    have q3 : ρ' 3 = .ptr ⟨σ.next, 0, 0⟩ 0 := by rw [q3]; simp (disch := first | omega | (simp only [rkl]; omega)) only [rk1, rk2, rk3, rk4, rk5, Arg.get, ret1, AV.cells, AV.isCell, addOff, minmaxL, Cap.room, Cap.cut, cutI, isSt, resultOf, Function.comp_apply, Function.comp_def, beq_self_eq_true, if_true, if_false, ite_true, ite_false, reduceCtorEq, bne_self_eq_false, Option.some.injEq, Prod.mk.injEq, ↓reduceIte, Nat.reduceEqDiff, Nat.reduceAdd, Nat.reduceMul, Nat.reduceSub, Nat.reduceLeDiff, Nat.reduceLT, Int.reduceLT, Int.reduceLE, Int.reduceEq, Int.reduceAdd, Int.reduceSub, Int.reduceNeg, Int.reduceToNat, List.mapM_cons, List.mapM_nil, Option.pure_def, Option.bind_eq_bind, eq_self, decide_true, decide_false]
    simp (disch := first | omega | (simp only [rkl]; omega)) only [rk1, rk2, rk3, rk4, rk5, Arg.get, ret1, AV.cells, AV.isCell, addOff, minmaxL, Cap.room, Cap.cut, cutI, isSt, resultOf, Function.comp_apply, Function.comp_def, beq_self_eq_true, if_true, if_false, ite_true, ite_false, reduceCtorEq, bne_self_eq_false, Option.some.injEq, Prod.mk.injEq, ↓reduceIte, Nat.reduceEqDiff, Nat.reduceAdd, Nat.reduceMul, Nat.reduceSub, Nat.reduceLeDiff, Nat.reduceLT, Int.reduceLT, Int.reduceLE, Int.reduceEq, Int.reduceAdd, Int.reduceSub, Int.reduceNeg, Int.reduceToNat, List.mapM_cons, List.mapM_nil, Option.pure_def, Option.bind_eq_bind, eq_self, decide_true, decide_false, p34_6, q3]
    exact ⟨s1, wcell', rfl, f0, f1, f2, f3, f4, f5⟩
  obtain ⟨s1, wcell', hb, f0, f1, f2, f3, f4, f5⟩ := hrun
  rw [g0] at f0
  have fin : ∀ {rs rs2 : List RC} {Wc Wc2 : RC}, WaitR Wc w → WaitR Wc2 w → rs = [.sl (bs K) 0 n kcap 64, Wc, .v (.bool down), .v (.int .i64 armed)] → rs2 = [.sl (bs K) 0 n (.ge n) 64, Wc2, .v (.bool down), .v (.int .i64 armed)] →
      [.sl ⟨o, 1, v⟩ 0 n kcap 64, wcell, .bool down, .int .i64 armed].all (okCell s1 (okObj [o])) = true → [.sl ⟨s0.next + 1, 0, 0⟩ 0 n (.ge n) 64, wcell', .bool down, .int .i64 armed].all (okCell s1 (okObj [o])) = true →
      idsNodup ((⟨o, 0, 0⟩ :: [.sl ⟨o, 1, v⟩ 0 n kcap 64, wcell, .bool down, .int .i64 armed].filterMap refId) ++ (⟨σ.next, 0, 0⟩ :: [.sl ⟨s0.next + 1, 0, 0⟩ 0 n (.ge n) 64, wcell', .bool down, .int .i64 armed].filterMap refId)) = true →
      Conv s1 [.sl ⟨o, 1, v⟩ 0 n kcap 64, wcell, .bool down, .int .i64 armed] rs → Conv s1 [.sl ⟨s0.next + 1, 0, 0⟩ 0 n (.ge n) 64, wcell', .bool down, .int .i64 armed] rs2 →
      ∃ σ', ev (tab hsP) 34 [.ptr ⟨o, 0, 0⟩ 0] σ = some (.ptr ⟨σ.next, 0, 0⟩ 0, σ') ∧ DiskO σ' o K n w down armed ∧ DiskO σ' σ.next K n w down armed ∧ σ'.next = σ.next + 1 ∧ (∀ i, i.o ≠ o → i.o ≠ σ.next → σ'.heap i = σ.heap i) ∧ (∀ p, p ≠ o → σ'.ver p = σ.ver p) := by
    intro rs rs2 Wc Wc2 hW hW2 e1 e2 a1 a2 a3 c1 c2
    subst e1; subst e2
    obtain ⟨σ', g1, g2, g3, g4, g5, g6⟩ := ev_fork (T := tab hsP) (tab34 hsP) (σ := σ) ho (ins_nil _ _) (i := ⟨σ.next, 0, 0⟩) (Nat.le_refl _) hb f0 a1 f3 a2 a3 c1 c2
    exact ⟨σ', g1, ⟨⟨_, _, hW, g2⟩, D.len, D.full, D.few, D.arm⟩, ⟨⟨_, _, hW2, g3⟩, D.len, D.full, D.few, D.arm⟩, g4, g5, g6⟩
  rcases w0 with ⟨rfl, hwn⟩ | ⟨rfl, w0⟩
  · rcases f5 with ⟨rfl, _⟩ | ⟨_, hh, _⟩
    · subst hwn
      exact fin .nil .nil rfl rfl (by simp [okCell, f1, bs_flt, AV.flt]) (by simp [okCell, f4, bs_flt, AV.flt]) (by simp [refId, idsNodup, List.filterMap, n0]; omega) (.sl f1 (.v rfl (.v rfl (.v rfl .nil)))) (.sl f4 (.v rfl (.v rfl (.v rfl .nil))))
    · exact absurd hwn hh
  · have hwne : w ≠ [] := fun e => by have := hform e; simp at this
    rcases f5 with ⟨_, hh⟩ | ⟨rfl, _, f6⟩
    · exact absurd hh hwne
    · rw [w0] at f2
      exact fin (.sl w hwne) (.sl w hwne) rfl rfl (by simp [okCell, f1, f2, bs_flt, wc_flt, AV.flt]) (by simp [okCell, f4, f6, bs_flt, wc_flt, AV.flt]) (by simp [refId, idsNodup, List.filterMap, n0]; omega) (.sl f1 (.sl f2 (.v rfl (.v rfl .nil)))) (.sl f4 (.sl f6 (.v rfl (.v rfl .nil))))
end Go.Proofs.Ytkhalpmmdlppkaa
